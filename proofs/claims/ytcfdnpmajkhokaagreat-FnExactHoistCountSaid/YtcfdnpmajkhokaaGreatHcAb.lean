/- A part of the proof of FnExactHoistCountSaid. -/
import Derived.Test.YtcfdnpmajkhokaaGreatHcA
namespace Go.Wk
open Go
namespace Unt
set_option maxRecDepth 10000
open Classical
section
variable {u : Unit_} {k : Int} {c : Code_} (hck : COk u k c) (hall : ∀ b : Int, 0 ≤ b → b < (c.blocks.length : Int) → inBc c b = true)
include hck
theorem predsS_c (b : Int) : spec_l7Preds c b = some (predsL c b) := by
  have hnb := hck.nb
  refine l7Preds_ok c b (by omega) fun y hy => ?_
  obtain ⟨j, hj⟩ := List.getElem?_of_mem hy
  have := (hck.bok (getI_some.2 ⟨by omega, by simpa using hj⟩ : getI c.blocks (j : Int) = some y)).jump
  omega
include hall
theorem heads_both : ∃ H, spec_l17Heads c (domT c) = some H ∧ pimpl_doms__heads ⟨c, domT c, inT c⟩ = some H ∧ ∀ x ∈ H, 0 < x ∧ x < (c.blocks.length : Int) := by
  have hnb := hck.nb
  have hnb' : c.blocks.length ≤ 160 := by omega
  obtain ⟨HD, hHD⟩ : ∃ HD : Int → Prop, ∀ x, HD x ↔ ∃ p ∈ predsL c x, D c x p := ⟨_, fun _ => Iff.rfl⟩
  have hkb : (0 : Int) + ((((c.blocks.length : Int) : Int) - 0).toNat : Int) = (c.blocks.length : Int) := by omega
  have hS : ∃ H, spec_l17Heads c (domT c) = some H ∧ H.Pairwise (· < ·) ∧ ∀ x, x ∈ H ↔ (0 ≤ x ∧ x < (c.blocks.length : Int)) ∧ HD x := by
    obtain ⟨H, e1, e2, e3⟩ := forN_keep (body := (fun (i1_1 : Int) (xs1_1 : (List Int)) => (Option.bind (spec_l7Preds c i1_1) fun r1_1 => Option.bind (forN (S := (List Int)) (X := Empty) (fun i2_1 xs2_1 => Option.bind (Option.bind (getI (domT c) i1_1) fun x3_1 => Option.bind (getI r1_1 i2_1) fun x3_2 => Option.bind (getI x3_1 x3_2) fun x3_3 => Option.bind (if x3_3 then Option.bind (spec_l7Insert xs2_1 i1_1) fun r4_1 => some r4_1 else some xs2_1 : Option ((List Int))) fun s3_1 => some s3_1 : Option ((List Int))) fun s2_1 => some (.inl s2_1)) (((r1_1.length : Int) : Int) - 0).toNat 0 xs1_1) (Sum.elim (fun xs1_2 => some (.inl xs1_2)) (fun (e0 : Empty) => nomatch e0)) : Option (((List Int)) ⊕ (Empty))))) (k := (((c.blocks.length : Int) : Int) - 0).toNat) (i := 0) (s := []) (fun i out => out.Pairwise (· < ·) ∧ ∀ x, x ∈ out ↔ (0 ≤ x ∧ x < i) ∧ HD x) ⟨.nil, fun x => ⟨fun h => by simp at h, fun h => by omega⟩⟩ (fun i out i0 i1 hI => by
      obtain ⟨j1, j2⟩ := hI
      have i1' : i < (c.blocks.length : Int) := by omega
      rcases forN_list (xs := predsL c i) (body := (fun (i2_1 : Int) (xs2_1 : (List Int)) => (Option.bind (Option.bind (getI (domT c) i) fun x3_1 => Option.bind (getI (predsL c i) i2_1) fun x3_2 => Option.bind (getI x3_1 x3_2) fun x3_3 => Option.bind (if x3_3 then Option.bind (spec_l7Insert xs2_1 i) fun r4_1 => some r4_1 else some xs2_1 : Option ((List Int))) fun s3_1 => some s3_1 : Option ((List Int))) fun s2_1 => some (.inl s2_1) : Option (((List Int)) ⊕ (Empty))))) (s := out) (fun l o => o.Pairwise (· < ·) ∧ ∀ x, x ∈ o ↔ x ∈ out ∨ (x = i ∧ ∃ p ∈ l, D c i p)) (fun _ => False) ⟨j1, fun x => by simp⟩ (fun l p r o he hI => by
        left
        obtain ⟨k1, k2⟩ := hI
        have hpm : p ∈ predsL c i := by rw [he]; simp
        have hpr := predY_rng hpm
        obtain ⟨row, v, g1, g2, g3⟩ := domT_get hall i0 i1' hpr.1 hpr.2
        cases v with
        | false =>
          refine ⟨o, ?_, k1, fun x => ?_⟩
          · rw [g1, Option.bind_some, he, getI_mid, Option.bind_some, g2, Option.bind_some, if_neg (by decide)]; rfl
          · rw [k2]
            constructor
            · rintro (h | ⟨h, q, hq, hd⟩)
              · exact .inl h
              · exact .inr ⟨h, q, by simp [hq], hd⟩
            · rintro (h | ⟨h, q, hq, hd⟩)
              · exact .inl h
              · rcases List.mem_append.1 hq with hq | hq
                · exact .inr ⟨h, q, hq, hd⟩
                · rw [List.mem_singleton.1 hq] at hd
                  exact absurd (g3.2 hd) (by decide)
        | true =>
          have hol : o.length ≤ c.blocks.length := nodup_rng (sorted_nodup k1) fun x hx => by
            rcases (k2 x).1 hx with h | ⟨h, _⟩
            · have := ((j2 x).1 h).1; omega
            · omega
          obtain ⟨o', o1, o2, o3, _⟩ := insert_ok (n := i) k1 (by omega)
          refine ⟨o', ?_, o2, fun x => ?_⟩
          · rw [g1, Option.bind_some, he, getI_mid, Option.bind_some, g2, Option.bind_some, if_pos rfl, o1]; rfl
          · rw [o3, k2]
            constructor
            · rintro (h | h | ⟨h, q, hq, hd⟩)
              · exact .inr ⟨h, p, by simp, g3.1 rfl⟩
              · exact .inl h
              · exact .inr ⟨h, q, by simp [hq], hd⟩
            · rintro (h | ⟨h, _⟩)
              · exact .inr (.inl h)
              · exact .inl h) with ⟨o, e1, e2, e3⟩ | ⟨_, _, hf⟩
      · refine ⟨o, ?_, e2, fun x => ?_⟩
        · rw [predsS_c hck, Option.bind_some]
          exact bindt e1 rfl
        · rw [e3, j2]
          constructor
          · rintro (⟨⟨h1, h2⟩, h3⟩ | ⟨h, h2⟩)
            · exact ⟨⟨h1, by omega⟩, h3⟩
            · subst h; exact ⟨⟨i0, by omega⟩, (hHD x).2 h2⟩
          · rintro ⟨⟨h1, h2⟩, h3⟩
            by_cases e : x = i
            · subst e; exact .inr ⟨rfl, (hHD x).1 h3⟩
            · exact .inl ⟨⟨h1, by omega⟩, h3⟩
      · exact hf.elim)
    rw [hkb] at e3
    exact ⟨H, bindt e1 rfl, e2, e3⟩
  have hI : ∃ H, pimpl_doms__heads ⟨c, domT c, inT c⟩ = some H ∧ H.Pairwise (· < ·) ∧ ∀ x, x ∈ H ↔ (0 ≤ x ∧ x < (c.blocks.length : Int)) ∧ HD x := by
    have hil : (inT c).length = c.blocks.length := tab_len
    obtain ⟨H, e1, e2, e3⟩ := forN_keep (body := (fun (i1_1 : Int) (xs1_1 : (List Int)) => (Option.bind (Option.bind (impl_PredsOf (⟨c,domT c,inT c⟩:doms).c i1_1) fun r2_1 => Option.bind (slices_ContainsFunc_S_int_int r2_1 (fun y0 => pimpl_doms__heads_1 y0 (⟨c,domT c,inT c⟩:doms) i1_1)) fun r2_2 => Option.bind (if r2_2 then Option.bind (appM xs1_1 ([i1_1] : List Int)) fun ys3_1 => some ys3_1 else some xs1_1 : Option ((List Int))) fun s2_1 => some s2_1 : Option ((List Int))) fun s1_1 => some (.inl s1_1) : Option (((List Int)) ⊕ (Empty))))) (k := (((c.blocks.length : Int) : Int) - 0).toNat) (i := 0) (s := []) (fun i out => out.Pairwise (· < ·) ∧ ∀ x, x ∈ out ↔ (0 ≤ x ∧ x < i) ∧ HD x) ⟨.nil, fun x => ⟨fun h => by simp at h, fun h => by omega⟩⟩ (fun i out i0 i1 hI => by
      obtain ⟨j1, j2⟩ := hI
      have i1' : i < (c.blocks.length : Int) := by omega
      have hol : out.length ≤ c.blocks.length := nodup_rng (sorted_nodup j1) fun x hx => by
        have := ((j2 x).1 hx).1; omega
      have hc := containsF_intM (xs := predsL c i) (f := fun y0 => pimpl_doms__heads_1 y0 ⟨c, domT c, inT c⟩ i) (p := fun q => decide (D c i q)) (fun q hq => by
        have hqr := predY_rng hq
        obtain ⟨v, d1, d2⟩ := dom_impl hall i0 i1' hqr.1 hqr.2
        unfold pimpl_doms__heads_1
        rw [d1]
        cases v with
        | true => rw [decide_eq_true (d2.1 rfl)]; rfl
        | false => rw [decide_eq_false fun h => absurd (d2.2 h) (by decide)]; rfl)
      dsimp only
      rw [predsP hnb' i i0 i1', Option.bind_some, hc, Option.bind_some]
      cases ha : (predsL c i).any (fun q => decide (D c i q)) with
      | true =>
        obtain ⟨p, hp, hd⟩ := List.any_eq_true.1 ha
        have hd' := of_decide_eq_true hd
        refine ⟨out ++ [i], ?_, ?_, fun x => ?_⟩
        · rw [if_pos rfl, appM_ok (by simp; omega)]; rfl
        · rw [List.pairwise_append]
          refine ⟨j1, by simp, fun x hx y hy => ?_⟩
          rw [List.mem_singleton.1 hy]
          exact ((j2 x).1 hx).1.2
        · rw [List.mem_append, j2, List.mem_singleton]
          constructor
          · rintro (⟨⟨h1, h2⟩, h3⟩ | h)
            · exact ⟨⟨h1, by omega⟩, h3⟩
            · subst h; exact ⟨⟨i0, by omega⟩, (hHD x).2 ⟨p, hp, hd'⟩⟩
          · rintro ⟨⟨h1, h2⟩, h3⟩
            by_cases e : x = i
            · exact .inr e
            · exact .inl ⟨⟨h1, by omega⟩, h3⟩
      | false =>
        refine ⟨out, by rw [if_neg (by decide)]; rfl, j1, fun x => ?_⟩
        rw [j2]
        constructor
        · rintro ⟨⟨h1, h2⟩, h3⟩; exact ⟨⟨h1, by omega⟩, h3⟩
        · rintro ⟨⟨h1, h2⟩, h3⟩
          by_cases e : x = i
          · subst e
            obtain ⟨p, hp, hd⟩ := (hHD x).1 h3
            rw [List.any_eq_false] at ha
            exact absurd (decide_eq_true hd) (ha p hp)
          · exact ⟨⟨h1, by omega⟩, h3⟩)
    rw [hkb] at e3
    refine ⟨H, ?_, e2, e3⟩
    unfold pimpl_doms__heads
    dsimp only
    rw [hil]
    exact bindt e1 rfl
  obtain ⟨H, h1, h2, h3⟩ := hS
  obtain ⟨H', g1, g2, g3⟩ := hI
  have : H' = H := sorted_eqY g2 h2 fun x => (g3 x).trans (h3 x).symm
  subst this
  refine ⟨H', h1, g1, fun x hx => ?_⟩
  obtain ⟨⟨x0, x1⟩, hd⟩ := (h3 x).1 hx
  obtain ⟨p, hp, _⟩ := (hHD x).1 hd
  obtain ⟨y, hy, hn⟩ := predsY.1 hp
  have := (hck.bok hy).next x hn
  omega
theorem hoist_both (hone : ∀ r : Int, 0 ≤ r → r < c.regs → (placesR c r).length ≤ 1 ∧ (r < c.params → placesR c r = [])) (hsm : ∀ b ∈ c.blocks, SmB b) (hst : HI u k c c.blocks) :
    ∃ xs, spec_l17Hoist c = some (wY c xs) ∧ impl_hoisted c = some (wY c xs) ∧ HI u k c xs := by
  have hnb := hck.nb
  have hnb' : c.blocks.length ≤ 160 := by omega
  obtain ⟨H, h1, h2, h3⟩ := heads_both hck hall
  obtain ⟨ord, o1, o2, o3⟩ := order_both hnb' hall (by omega)
  have hdi := doms_impl (nx_rng hck) (nx_len hck) (by omega) (by omega) (graph_ok hck)
  have hds := doms_spec (nx_rng hck) (nx_len hck) (by omega) (by omega)
  have hround : ∀ (xs : List Block_), HI u k c xs → ∃ zs fl, forN (S := Int × Int × (List Block_) × Bool) (X := Empty) (fun (i3_1 : Int) (xs3_1 : Int × Int × (List Block_) × Bool) => (Option.bind (Option.bind (getI H i3_1) fun x4_1 => Option.bind (spec_l17Loop (⟨xs3_1.1, xs3_1.2.1, xs3_1.2.2.1⟩ : Code_) (domT c) ord x4_1) fun r4_1 => if r4_1.1 then some (r4_1.2.params, r4_1.2.regs, r4_1.2.blocks, true) else some (r4_1.2.params, r4_1.2.regs, r4_1.2.blocks, xs3_1.2.2.2) : Option (Int × Int × (List Block_) × Bool)) fun s3_1 => some (.inl (s3_1.1, s3_1.2.1, s3_1.2.2.1, s3_1.2.2.2)) : Option ((Int × Int × (List Block_) × Bool) ⊕ (Empty)))) (((H.length : Int) : Int) - 0).toNat 0 (c.params, c.regs, xs, false) = some (.inl (c.params, c.regs, zs, fl)) ∧
      forN (S := Int × Int × (List Block_) × Bool) (X := Empty) (fun (i3_1 : Int) (xs3_1 : Int × Int × (List Block_) × Bool) => (Option.bind (getI H i3_1) fun x3_1 => Option.bind (Option.bind (impl_hoistLoop (⟨xs3_1.1, xs3_1.2.1, xs3_1.2.2.1⟩ : Code_) (⟨(⟨(c.params,c.regs,c.blocks,c.params,c.regs,c.blocks,domT c,inT c).2.2.2.1, (c.params,c.regs,c.blocks,c.params,c.regs,c.blocks,domT c,inT c).2.2.2.2.1, (c.params,c.regs,c.blocks,c.params,c.regs,c.blocks,domT c,inT c).2.2.2.2.2.1⟩ : Code_), (c.params,c.regs,c.blocks,c.params,c.regs,c.blocks,domT c,inT c).2.2.2.2.2.2.1, (c.params,c.regs,c.blocks,c.params,c.regs,c.blocks,domT c,inT c).2.2.2.2.2.2.2⟩ : doms) x3_1) fun r4_1 => if r4_1.1 then some (r4_1.2.params, r4_1.2.regs, r4_1.2.blocks, true) else some (r4_1.2.params, r4_1.2.regs, r4_1.2.blocks, xs3_1.2.2.2) : Option (Int × Int × (List Block_) × Bool)) fun s3_1 => some (.inl (s3_1.1, s3_1.2.1, s3_1.2.2.1, s3_1.2.2.2)) : Option ((Int × Int × (List Block_) × Bool) ⊕ (Empty)))) (((H.length : Int) : Int) - 0).toNat 0 (c.params, c.regs, xs, false) = some (.inl (c.params, c.regs, zs, fl)) ∧ HI u k c zs ∧ phiS c zs 0 ≤ phiS c xs 0 ∧ (fl = true → phiS c zs 0 < phiS c xs 0) := fun xs hH => by
    obtain ⟨s, t, e1, e2, rfl, zs, fl, rfl, e3, e4, e5⟩ := forN_rel (b1 := (fun (i3_1 : Int) (xs3_1 : Int × Int × (List Block_) × Bool) => (Option.bind (Option.bind (getI H i3_1) fun x4_1 => Option.bind (spec_l17Loop (⟨xs3_1.1, xs3_1.2.1, xs3_1.2.2.1⟩ : Code_) (domT c) ord x4_1) fun r4_1 => if r4_1.1 then some (r4_1.2.params, r4_1.2.regs, r4_1.2.blocks, true) else some (r4_1.2.params, r4_1.2.regs, r4_1.2.blocks, xs3_1.2.2.2) : Option (Int × Int × (List Block_) × Bool)) fun s3_1 => some (.inl (s3_1.1, s3_1.2.1, s3_1.2.2.1, s3_1.2.2.2)) : Option ((Int × Int × (List Block_) × Bool) ⊕ (Empty))))) (b2 := (fun (i3_1 : Int) (xs3_1 : Int × Int × (List Block_) × Bool) => (Option.bind (getI H i3_1) fun x3_1 => Option.bind (Option.bind (impl_hoistLoop (⟨xs3_1.1, xs3_1.2.1, xs3_1.2.2.1⟩ : Code_) (⟨(⟨(c.params,c.regs,c.blocks,c.params,c.regs,c.blocks,domT c,inT c).2.2.2.1, (c.params,c.regs,c.blocks,c.params,c.regs,c.blocks,domT c,inT c).2.2.2.2.1, (c.params,c.regs,c.blocks,c.params,c.regs,c.blocks,domT c,inT c).2.2.2.2.2.1⟩ : Code_), (c.params,c.regs,c.blocks,c.params,c.regs,c.blocks,domT c,inT c).2.2.2.2.2.2.1, (c.params,c.regs,c.blocks,c.params,c.regs,c.blocks,domT c,inT c).2.2.2.2.2.2.2⟩ : doms) x3_1) fun r4_1 => if r4_1.1 then some (r4_1.2.params, r4_1.2.regs, r4_1.2.blocks, true) else some (r4_1.2.params, r4_1.2.regs, r4_1.2.blocks, xs3_1.2.2.2) : Option (Int × Int × (List Block_) × Bool)) fun s3_1 => some (.inl (s3_1.1, s3_1.2.1, s3_1.2.2.1, s3_1.2.2.2)) : Option ((Int × Int × (List Block_) × Bool) ⊕ (Empty))))) (k := (((H.length : Int) : Int) - 0).toNat) (i := 0) (s := (c.params, c.regs, xs, false)) (t := (c.params, c.regs, xs, false))
      (fun i s t => s = t ∧ ∃ zs fl, s = (c.params, c.regs, zs, fl) ∧ HI u k c zs ∧ phiS c zs 0 ≤ phiS c xs 0 ∧ (fl = true → phiS c zs 0 < phiS c xs 0)) ⟨rfl, xs, false, rfl, hH, Nat.le_refl _, fun h => by cases h⟩ (fun i s t i0 i1 hI => by
        obtain ⟨rfl, zs, fl, rfl, j1, j2, j3⟩ := hI
        obtain ⟨h, hh, _, hhm⟩ := getI_in (xs := H) (j := i) i0 (by omega)
        obtain ⟨f', zs', g1, g2, g3, g4, g5⟩ := loop_both hck hone hall (h3 h hhm).1 (h3 h hhm).2 o3 o2 j1
        refine ⟨(c.params, c.regs, zs', f' || fl), (c.params, c.regs, zs', f' || fl), ?_, ?_, rfl, zs', f' || fl, rfl, g3, by omega, fun hf => ?_⟩
        · dsimp only
          rw [hh, Option.bind_some, show spec_l17Loop ⟨c.params, c.regs, zs⟩ (domT c) ord h = some (f', wY c zs') from g1]
          cases f' <;> rfl
        · dsimp only
          rw [hh, Option.bind_some, show impl_hoistLoop ⟨c.params, c.regs, zs⟩ ⟨⟨c.params, c.regs, c.blocks⟩, domT c, inT c⟩ h = some (f', wY c zs') from g2]
          cases f' <;> rfl
        · cases f' with
          | true => have := g5 rfl; omega
          | false => have := j3 (by simpa using hf); omega)
    exact ⟨zs, fl, e1, e2, e3, e4, e5⟩
  obtain ⟨x, y, f1, f2, rfl, xs, rfl, f3⟩ := loopM_rel (b1 := (fun (xs2_1 : Int × Int × (List Block_) × Bool) => (if xs2_1.2.2.2 then Option.bind (forN (S := Int × Int × (List Block_) × Bool) (X := Empty) (fun i3_1 xs3_1 => Option.bind (Option.bind (getI H i3_1) fun x4_1 => Option.bind (spec_l17Loop (⟨xs3_1.1, xs3_1.2.1, xs3_1.2.2.1⟩ : Code_) (domT c) ord x4_1) fun r4_1 => if r4_1.1 then some (r4_1.2.params, r4_1.2.regs, r4_1.2.blocks, true) else some (r4_1.2.params, r4_1.2.regs, r4_1.2.blocks, xs3_1.2.2.2) : Option (Int × Int × (List Block_) × Bool)) fun s3_1 => some (.inl (s3_1.1, s3_1.2.1, s3_1.2.2.1, s3_1.2.2.2))) (((H.length : Int) : Int) - 0).toNat 0 (xs2_1.1, xs2_1.2.1, xs2_1.2.2.1, false)) (Sum.elim (fun xs2_2 => some (.inl (xs2_2.1, xs2_2.2.1, xs2_2.2.2.1, xs2_2.2.2.2))) (fun (e0 : Empty) => nomatch e0)) else some (.inr (xs2_1.1, xs2_1.2.1, xs2_1.2.2.1)) : Option ((Int × Int × (List Block_) × Bool) ⊕ (Int × Int × (List Block_)))))) (b2 := (fun (xs2_1 : Int × Int × (List Block_) × Bool) => (if xs2_1.2.2.2 then Option.bind (pimpl_doms__heads (⟨(⟨(c.params,c.regs,c.blocks,c.params,c.regs,c.blocks,domT c,inT c).2.2.2.1, (c.params,c.regs,c.blocks,c.params,c.regs,c.blocks,domT c,inT c).2.2.2.2.1, (c.params,c.regs,c.blocks,c.params,c.regs,c.blocks,domT c,inT c).2.2.2.2.2.1⟩ : Code_), (c.params,c.regs,c.blocks,c.params,c.regs,c.blocks,domT c,inT c).2.2.2.2.2.2.1, (c.params,c.regs,c.blocks,c.params,c.regs,c.blocks,domT c,inT c).2.2.2.2.2.2.2⟩ : doms)) fun r2_1 => Option.bind (forN (S := Int × Int × (List Block_) × Bool) (X := Empty) (fun i3_1 xs3_1 => Option.bind (getI r2_1 i3_1) fun x3_1 => Option.bind (Option.bind (impl_hoistLoop (⟨xs3_1.1, xs3_1.2.1, xs3_1.2.2.1⟩ : Code_) (⟨(⟨(c.params,c.regs,c.blocks,c.params,c.regs,c.blocks,domT c,inT c).2.2.2.1, (c.params,c.regs,c.blocks,c.params,c.regs,c.blocks,domT c,inT c).2.2.2.2.1, (c.params,c.regs,c.blocks,c.params,c.regs,c.blocks,domT c,inT c).2.2.2.2.2.1⟩ : Code_), (c.params,c.regs,c.blocks,c.params,c.regs,c.blocks,domT c,inT c).2.2.2.2.2.2.1, (c.params,c.regs,c.blocks,c.params,c.regs,c.blocks,domT c,inT c).2.2.2.2.2.2.2⟩ : doms) x3_1) fun r4_1 => if r4_1.1 then some (r4_1.2.params, r4_1.2.regs, r4_1.2.blocks, true) else some (r4_1.2.params, r4_1.2.regs, r4_1.2.blocks, xs3_1.2.2.2) : Option (Int × Int × (List Block_) × Bool)) fun s3_1 => some (.inl (s3_1.1, s3_1.2.1, s3_1.2.2.1, s3_1.2.2.2))) (((r2_1.length : Int) : Int) - 0).toNat 0 (xs2_1.1, xs2_1.2.1, xs2_1.2.2.1, false)) (Sum.elim (fun xs2_2 => some (.inl (xs2_2.1, xs2_2.2.1, xs2_2.2.2.1, xs2_2.2.2.2))) (fun (e0 : Empty) => nomatch e0)) else some (.inr (xs2_1.1, xs2_1.2.1, xs2_1.2.2.1)) : Option ((Int × Int × (List Block_) × Bool) ⊕ (Int × Int × (List Block_)))))) (fun s t => s = t ∧ ∃ xs fl, s = (c.params, c.regs, xs, fl) ∧ HI u k c xs) (fun x y => x = y ∧ ∃ xs, x = (c.params, c.regs, xs) ∧ HI u k c xs) (fun s => 2 * phiS c s.2.2.1 0 + if s.2.2.2 then 1 else 0)
    (fun s t hs => by
      obtain ⟨rfl, xs, fl, rfl, j1⟩ := hs
      dsimp only
      cases fl with
      | false => exact .inr ⟨(c.params, c.regs, xs), (c.params, c.regs, xs), rfl, rfl, rfl, xs, rfl, j1⟩
      | true =>
        left
        obtain ⟨zs, fl', e1, e2, e3, e4, e5⟩ := hround xs j1
        refine ⟨(c.params, c.regs, zs, fl'), (c.params, c.regs, zs, fl'), ?_, ?_, ⟨rfl, zs, fl', rfl, e3⟩, ?_⟩
        · rw [if_pos rfl]; exact bindt e1 rfl
        · rw [if_pos rfl, show pimpl_doms__heads ⟨⟨c.params, c.regs, c.blocks⟩, domT c, inT c⟩ = some H from h2, Option.bind_some]; exact bindt e2 rfl
        · dsimp only
          cases fl' with
          | true => have := e5 rfl; simp; omega
          | false => simp; omega) _ (c.params, c.regs, c.blocks, true) _ ⟨rfl, c.blocks, true, rfl, hst⟩ (Nat.lt_succ_self _)
  refine ⟨xs, ?_, ?_, f3⟩
  · unfold spec_l17Hoist
    rw [l7Copy_ok c (by omega) hsm, Option.bind_some, hds, Option.bind_some, idoms_spec hnb' hall, Option.bind_some, o1, Option.bind_some, h1, Option.bind_some]
    exact bindt (bindt f1 rfl) rfl
  · unfold impl_hoisted
    refine bindt (a := (c.params, c.regs, c.blocks, c.params, c.regs, c.blocks, domT c, inT c)) ?_ ?_
    · rw [cloneCode_ok c (by omega) hsm, Option.bind_some, hdi]; rfl
    · exact bindt (bindt f2 rfl) rfl
end
theorem single_all {u : Unit_} {k : Int} {c : Code_} (hck : COk u k c) (hs : singleB c = true) : (∀ b : Int, 0 ≤ b → b < (c.blocks.length : Int) → inBc c b = true) := fun b h0 h1 => by
  simp only [singleB, Bool.and_eq_true, Bool.not_eq_true'] at hs
  cases hb : inBc c b with
  | true => rfl
  | false =>
    have hm : false ∈ inT c := by
      have : getI (inT c) b = some false := by unfold inT; rw [tab_get h0 h1, hb]
      exact List.mem_of_getElem? (getI_some.1 this).2
    have hc := hs.1
    rw [List.contains_eq_mem, decide_eq_true hm] at hc
    cases hc
theorem hoistUnit_ok (u : Unit_) (hf : Fits u) : ∃ r b, impl_HoistUnit u = some (r, b) ∧ spec_HoistUnit u = some (r, b) ∧ (wCodeS r.codes : Int) ≤ 900000000 ∧
    (b = true → Ok u ∧ r.codes.length = u.codes.length ∧ ∀ (j : Nat) c, u.codes[j]? = some c → ∃ xs, r.codes[j]? = some (wY c xs) ∧ COk u (j : Int) c ∧ HI u (j : Int) c xs ∧ ∀ r : Int, 0 ≤ r → r < c.regs → (placesR c r).length ≤ 1) := by
  have hs := hf.small
  unfold impl_HoistUnit spec_HoistUnit spec_l15Each
  rw [isSingle_impl hs, isSingle_spec hs, Option.bind_some, Option.bind_some]
  cases hsi : isSingleB u with
  | false => exact ⟨⟨[]⟩, false, rfl, rfl, by decide, fun h => by cases h⟩
  | true =>
  have hsi' := hsi
  unfold isSingleB at hsi'
  simp only [Bool.and_eq_true] at hsi'
  obtain ⟨hv, hsing⟩ := hsi'
  have hu : Ok u := ⟨hv, hs⟩
  have hcodes := hu.codes
  obtain ⟨g, hg⟩ : ∃ g : Code_ → Code_, ∀ c, g c = (spec_l17Hoist c).getD c := ⟨_, fun _ => rfl⟩
  have hboth : ∀ (j : Nat) c, u.codes[j]? = some c → spec_l17Hoist c = some (g c) ∧ impl_hoisted c = some (g c) ∧ ∃ xs, g c = wY c xs ∧ COk u (j : Int) c ∧ HI u (j : Int) c xs ∧ ∀ r : Int, 0 ≤ r → r < c.regs → (placesR c r).length ≤ 1 := fun j c hc => by
    have hcm := List.mem_of_getElem? hc
    have hck := hu.cok (getI_some.2 ⟨by omega, by simpa using hc⟩ : getI u.codes (j : Int) = some c)
    have hone : ∀ r : Int, 0 ≤ r → r < c.regs → (placesR c r).length ≤ 1 ∧ (r < c.params → placesR c r = []) := fun r r0 r1 => single_once hu hsing hcm hck r0 r1
    have hsc := List.all_eq_true.1 hsing c hcm
    obtain ⟨xs, e1, e2, e3⟩ := hoist_both hck (single_all hck hsc) hone (fun b hb => hf.smb hcm hb) (HI.start hu hck hcm hsc)
    have hgc : g c = wY c xs := by rw [hg, e1]; rfl
    rw [hgc]
    exact ⟨e1, e2, xs, rfl, hck, e3, fun r r0 r1 => (hone r r0 r1).1⟩
  have hsm : Small ⟨u.codes.map g⟩ := fun c' hc' b hb => by
    obtain ⟨c, hc, rfl⟩ := List.mem_map.1 hc'
    obtain ⟨j, hj⟩ := List.getElem?_of_mem hc
    obtain ⟨_, _, xs, e1, hck, e3, _⟩ := hboth j c hj
    rw [e1] at hb
    have h1 := e3.blen (show b ∈ xs from hb)
    obtain ⟨q, hq⟩ := List.getElem?_of_mem (show b ∈ xs from hb)
    obtain ⟨x, a1, _, _, _, a5, _⟩ := e3.blk q b hq
    have := (hck.bok (getI_some.2 ⟨by omega, by simpa using a1⟩ : getI c.blocks (q : Int) = some x)).jump
    rw [a5]
    omega
  have h1 := mapLoop (xs := u.codes) (body := (fun (i1_1 : Int) (xs1_1 : (List Code_)) => (Option.bind (getI u.codes i1_1) fun x1_1 => Option.bind (impl_hoisted x1_1) fun r1_1 => Option.bind (appM xs1_1 ([r1_1] : List Code_)) fun ys1_1 => some (.inl ys1_1) : Option (((List Code_)) ⊕ (Empty))))) g (by omega) (fun l x r s he hz => by
    have hj : u.codes[l.length]? = some x := by rw [he]; simp
    rw [he, getI_mid, Option.bind_some, (hboth _ _ hj).2.1, Option.bind_some, appM_ok (by simpa using hz)]; rfl)
  have hm : impl_mapped_impl_Code_impl_Code u.codes (fun y0 => impl_hoisted y0) = some (u.codes.map g) := bindt h1 rfl
  have h2 := mapLoop (xs := u.codes) (body := (fun (i1_1 : Int) (xs1_1 : (List Code_)) => (Option.bind (getI u.codes i1_1) fun x1_1 => Option.bind (spec_l10Turn x1_1 (mkS [104,111,105,115,116])) fun r1_1 => Option.bind (appM xs1_1 ([r1_1] : List Code_)) fun ys1_1 => some (.inl ys1_1) : Option (((List Code_)) ⊕ (Empty))))) g (by omega) (fun l x r s he hz => by
    have hj : u.codes[l.length]? = some x := by rw [he]; simp
    have ht : spec_l10Turn x (mkS [104, 111, 105, 115, 116]) = some (g x) := by
      unfold spec_l10Turn
      show Option.bind (spec_l17Hoist x) _ = _
      rw [(hboth _ _ hj).1]; rfl
    rw [he, getI_mid, Option.bind_some, ht, Option.bind_some, appM_ok (by simpa using hz)]; rfl)
  simp only [Bool.not_true, Bool.false_eq_true, if_false]
  rw [hm]
  unfold impl_onlyValid spec_l10Each
  rw [specValid_ok u hs, hv]
  simp only [Option.bind_some, Bool.not_true, Bool.false_eq_true, if_false]
  rw [implValid_ok _ hsm]
  have hspec : ∀ b, unitB ⟨u.codes.map g⟩ = b → (Option.bind (forN (fun (i1_1 : Int) (xs1_1 : (List Code_)) => (Option.bind (getI u.codes i1_1) fun x1_1 => Option.bind (spec_l10Turn x1_1 (mkS [104,111,105,115,116])) fun r1_1 => Option.bind (appM xs1_1 ([r1_1] : List Code_)) fun ys1_1 => some (.inl ys1_1) : Option (((List Code_)) ⊕ (Empty)))) (((u.codes.length : Int) : Int) - 0).toNat 0 []) (Sum.elim (fun xs0_1 => Option.bind (spec_UnitValid (⟨xs0_1⟩ : Unit_)) fun r0_3 => if !(r0_3) then some ((⟨[]⟩ : Unit_), false) else some ((⟨xs0_1⟩ : Unit_), true)) (fun (e0 : Empty) => nomatch e0))) = some (if b = true then (⟨u.codes.map g⟩, true) else (⟨[]⟩, false)) := fun b hb => by
    refine bindt h2 ?_
    show Option.bind (spec_UnitValid ⟨u.codes.map g⟩) _ = _
    rw [specValid_ok _ hsm, hb]
    cases b <;> rfl
  cases hq : unitB ⟨u.codes.map g⟩ with
  | false => exact ⟨⟨[]⟩, false, rfl, bindt (bindt (hspec _ hq) rfl) rfl, by decide, fun h => by cases h⟩
  | true =>
    refine ⟨⟨u.codes.map g⟩, true, rfl, bindt (bindt (hspec _ hq) rfl) rfl, valid_w ⟨hq, hsm⟩, fun _ => ⟨hu, by simp, fun j c hc => ?_⟩⟩
    obtain ⟨_, _, xs, e1, e2, e3, e4⟩ := hboth j c hc
    refine ⟨xs, ?_, e2, e3, e4⟩
    show (u.codes.map g)[j]? = _
    rw [List.getElem?_map, hc, ← e1]; rfl
end Unt
end Go.Wk
namespace Go.Wk
open Go
namespace Unt
set_option maxRecDepth 10000
open Classical
theorem hoistCount_ok (u : Unit_) (hf : Fits u) : ∃ n, impl_HoistCount u = some n ∧ spec_HoistCount u = some n := by
  obtain ⟨r, b, h1, h2, _, h4⟩ := hoistUnit_ok u hf
  unfold impl_HoistCount spec_HoistCount
  rw [h1, h2, Option.bind_some, Option.bind_some]
  cases b with
  | false => exact ⟨-1, rfl, rfl⟩
  | true =>
  obtain ⟨hu, hrl, hall⟩ := h4 rfl
  have hcodes := hu.codes
  have hs := hf.small
  simp only [Bool.not_true, Bool.false_eq_true, if_false]
  obtain ⟨s, t, e1, e2, rfl, _, _⟩ := forN_rel (b1 := (fun (i1_1 : Int) (xs1_1 : Int) => (Option.bind (getI u.codes i1_1) fun x1_1 => Option.bind (getI (r,true).1.codes i1_1) fun x1_2 => Option.bind (impl_placesOf x1_2) fun r1_1 => Option.bind (impl_placesOf x1_1) fun r1_2 => Option.bind (forN (S := Int) (X := Empty) (fun i2_1 xs2_1 => Option.bind (Option.bind (getI r1_2 i2_1) fun x3_1 => Option.bind (if decide (0 < ((x3_1.length : Int))) then Option.bind (getI x3_1 0) fun x4_1 => Option.bind (getI r1_1 i2_1) fun x4_2 => Option.bind (getI x4_2 0) fun x4_3 => some (decide (x4_1.block ≠ x4_3.block)) else some false : Option (Bool)) fun s3_1 => Option.bind (if s3_1 then some (w64 (xs2_1 + 1)) else some xs2_1 : Option (Int)) fun s3_2 => some s3_2 : Option (Int)) fun s2_1 => some (.inl s2_1)) (((r1_2.length : Int) : Int) - 0).toNat 0 xs1_1) (Sum.elim (fun xs1_2 => some (.inl xs1_2)) (fun (e0 : Empty) => nomatch e0)) : Option ((Int) ⊕ (Empty))))) (b2 := (fun (i1_1 : Int) (xs1_1 : Int) => (Option.bind (getI u.codes i1_1) fun x1_1 => Option.bind (spec_l13Sets x1_1) fun r1_1 => Option.bind (getI (r,true).1.codes i1_1) fun x1_2 => Option.bind (spec_l13Sets x1_2) fun r1_2 => Option.bind (forN (S := Int) (X := Empty) (fun i2_1 xs2_1 => Option.bind (Option.bind (getI r1_1 i2_1) fun x3_1 => if decide (0 < ((x3_1.length : Int))) then Option.bind (getI r1_2 i2_1) fun x3_2 => Option.bind (getI x3_1 0) fun x3_3 => Option.bind (getI x3_3 0) fun x3_4 => Option.bind (getI x3_2 0) fun x3_5 => Option.bind (getI x3_5 0) fun x3_6 => Option.bind (spec_l5Truth (decide (x3_4 ≠ x3_6))) fun r3_1 => some (w64 (xs2_1 + r3_1)) else Option.bind (spec_l5Truth false) fun r3_2 => some (w64 (xs2_1 + r3_2)) : Option (Int)) fun s2_1 => some (.inl s2_1)) (((r1_1.length : Int) : Int) - 0).toNat 0 xs1_1) (Sum.elim (fun xs1_2 => some (.inl xs1_2)) (fun (e0 : Empty) => nomatch e0)) : Option ((Int) ⊕ (Empty))))) (k := (((u.codes.length : Int) : Int) - 0).toNat) (i := 0) (s := (0 : Int)) (t := (0 : Int)) (fun i s t => s = t ∧ 0 ≤ s ∧ s ≤ 300 * i) ⟨rfl, Int.le_refl _, by omega⟩ (fun i s t i0 i1 hI => by
    obtain ⟨rfl, s0, s1⟩ := hI
    obtain ⟨c, hc, hc2, hcm⟩ := getI_in (xs := u.codes) (j := i) i0 (by omega)
    obtain ⟨xs, g1, hck, hH, hone⟩ := hall i.toNat c hc2
    have hr := hck.regs
    have hg : getI r.codes i = some (wY c xs) := getI_some.2 ⟨i0, g1⟩
    have hsm : ∀ x ∈ c.blocks, x.phis.length ≤ 1048576 ∧ x.ins.length ≤ 1048576 := fun x hx => ⟨(hs c hcm x hx).1, (hs c hcm x hx).2.1⟩
    have p1 := places_impl hck hsm
    have p2 : impl_placesOf (wY c xs) = some (tab c.regs.toNat (placesR (wY c xs))) := places_impl (hH.cok hck) hH.small
    have q1 := sets_spec hck hsm
    have q2 : spec_l13Sets (wY c xs) = some (tab c.regs.toNat fun r => (placesR (wY c xs) r).map pe) := sets_spec (hH.cok hck) hH.small
    obtain ⟨s', t', f1, f2, rfl, f3, f4⟩ := forN_rel (b1 := (fun (i2_1 : Int) (xs2_1 : Int) => (Option.bind (Option.bind (getI (tab c.regs.toNat (placesR c)) i2_1) fun x3_1 => Option.bind (if decide (0 < ((x3_1.length : Int))) then Option.bind (getI x3_1 0) fun x4_1 => Option.bind (getI (tab c.regs.toNat (placesR (wY c xs))) i2_1) fun x4_2 => Option.bind (getI x4_2 0) fun x4_3 => some (decide (x4_1.block ≠ x4_3.block)) else some false : Option (Bool)) fun s3_1 => Option.bind (if s3_1 then some (w64 (xs2_1 + 1)) else some xs2_1 : Option (Int)) fun s3_2 => some s3_2 : Option (Int)) fun s2_1 => some (.inl s2_1) : Option ((Int) ⊕ (Empty))))) (b2 := (fun (i2_1 : Int) (xs2_1 : Int) => (Option.bind (Option.bind (getI (tab c.regs.toNat fun r:Int↦(placesR c r).map pe) i2_1) fun x3_1 => if decide (0 < ((x3_1.length : Int))) then Option.bind (getI (tab c.regs.toNat fun r:Int↦(placesR (wY c xs) r).map pe) i2_1) fun x3_2 => Option.bind (getI x3_1 0) fun x3_3 => Option.bind (getI x3_3 0) fun x3_4 => Option.bind (getI x3_2 0) fun x3_5 => Option.bind (getI x3_5 0) fun x3_6 => Option.bind (spec_l5Truth (decide (x3_4 ≠ x3_6))) fun r3_1 => some (w64 (xs2_1 + r3_1)) else Option.bind (spec_l5Truth false) fun r3_2 => some (w64 (xs2_1 + r3_2)) : Option (Int)) fun s2_1 => some (.inl s2_1) : Option ((Int) ⊕ (Empty))))) (k := c.regs.toNat) (i := 0) (s := s) (t := s) (fun j a b => a = b ∧ s ≤ a ∧ a ≤ s + j) ⟨rfl, Int.le_refl _, by omega⟩ (fun j a b j0 j1 hI => by
      obtain ⟨rfl, a0, a1⟩ := hI
      have j1' : j < c.regs := by omega
      have hlen := hH.places j0 j1'
      have g1 : getI (tab c.regs.toNat (placesR c)) j = some (placesR c j) := tab_get j0 (by omega)
      have g2 : getI (tab c.regs.toNat (placesR (wY c xs))) j = some (placesR (wY c xs) j) := tab_get j0 (by omega)
      have g3 : getI (tab c.regs.toNat fun r : Int => (placesR c r).map pe) j = some ((placesR c j).map pe) := tab_get j0 (by omega)
      have g4 : getI (tab c.regs.toNat fun r : Int => (placesR (wY c xs) r).map pe) j = some ((placesR (wY c xs) j).map pe) := tab_get j0 (by omega)
      rw [g1, Option.bind_some, g3, Option.bind_some]
      cases hL : placesR c j with
      | nil =>
        refine ⟨a, a, rfl, ?_, rfl, a0, by omega⟩
        rw [if_neg (by simp)]
        unfold spec_l5Truth
        rw [if_neg (by decide), Option.bind_some, Int.add_zero, w64_id (by omega) (by omega)]; rfl
      | cons p l =>
        rw [hL] at hlen
        cases hL2 : placesR (wY c xs) j with
        | nil => rw [hL2] at hlen; simp at hlen
        | cons q l2 =>
          rw [hL2] at g2 g4
          rw [if_pos (by simp), if_pos (by simp), g2, g4]
          have y1 : getI (p :: l) 0 = some p := rfl
          have y2 : getI (q :: l2) 0 = some q := rfl
          have y3 : getI ((p :: l).map pe) 0 = some (pe p) := rfl
          have y4 : getI ((q :: l2).map pe) 0 = some (pe q) := rfl
          have y5 : getI (pe p) 0 = some p.block := rfl
          have y6 : getI (pe q) 0 = some q.block := rfl
          simp only [Option.bind_some, y1, y2, y3, y4, y5, y6]
          have hw : w64 (a + 1) = a + 1 := w64_id (by omega) (by omega)
          have hw0 : w64 (a + 0) = a := by rw [Int.add_zero]; exact w64_id (by omega) (by omega)
          unfold spec_l5Truth
          by_cases e : p.block = q.block
          · refine ⟨a, a, ?_, ?_, rfl, a0, by omega⟩
            · simp [e]
            · simp only [e, ne_eq, not_true_eq_false, decide_false, Bool.false_eq_true, if_false, Option.bind_some, hw0]
          · refine ⟨a + 1, a + 1, ?_, ?_, rfl, by omega, by omega⟩
            · simp [e, hw]
            · simp only [ne_eq, e, not_false_eq_true, decide_true, if_true, Option.bind_some, hw])
    refine ⟨s', s', ?_, ?_, rfl, by omega, by omega⟩
    · rw [hc, Option.bind_some, hg, Option.bind_some, p2, Option.bind_some, p1, Option.bind_some, tab_len]
      exact bindt f1 rfl
    · rw [hc, Option.bind_some, q1, Option.bind_some]
      dsimp only
      rw [hg, Option.bind_some, q2, Option.bind_some, tab_len]
      exact bindt f2 rfl)
  exact ⟨s, bindt e1 rfl, bindt e2 rfl⟩
theorem lawHoistCount (u : Unit_) (hl : LUnit u) : laws_FnExactHoistCount u = some true := by
  unfold laws_FnExactHoistCount
  rw [szUnit_ok u hl (by decide) (by decide), Option.bind_some, lt0 (by decide)]
  by_cases hn : (nUnit u : Int) ≤ 1048576
  rotate_left
  · simp [hn]
  have hf : Fits u := by unfold Fits; omega
  obtain ⟨n, h1, h2⟩ := hoistCount_ok u hf
  simp only [hn, decide_true, Bool.not_true, Bool.false_eq_true, if_false, toUnit_ok u hf, Option.bind_some, h1, h2, eqUnit_ok, ne_eq, not_true_eq_false, decide_false]
end Unt
end Go.Wk
