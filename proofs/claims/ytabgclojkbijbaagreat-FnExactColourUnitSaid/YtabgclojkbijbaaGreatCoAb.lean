/- A part of the proof of FnExactColourUnitSaid. -/
import Derived.Test.YtabgclojkbijbaaGreatCoA
namespace Go.Wk
open Go
namespace Unt
set_option maxRecDepth 10000
theorem range_cnt {β : Type} {body : Int × β → Int → Option Int} (q : Int → Bool) : ∀ (es : List (Int × β)) (s : Int), (∀ p ∈ es, ∀ s : Int, 0 ≤ s → s < 1000000 → body p s = some (if q p.1 then s + 1 else s)) → 0 ≤ s → s + es.length ≤ 1000000 →
  rangeM body es s = some (s + (((es.map (·.1)).filter q).length : Nat))
 | [], s, _, _, _ => by simp [rangeM]
 | p :: es, s, h, h0, h1 => by
  simp only [List.length_cons] at h1
  rw [rangeM, h p (by simp) s h0 (by omega), Option.bind_some]
  rw [range_cnt q es _ (fun p hp => h p (by simp [hp])) (by split <;> omega) (by split <;> omega), List.map_cons, List.filter_cons]
  split
  ·rename_i e; simp only [List.length_cons]; congr 1; omega
  ·rfl
theorem for_cnt {X : Type} {body : Int → Int → Option (Int ⊕ X)} (q : Int → Bool) : ∀ (k : Nat) (i s : Int), (∀ j, i ≤ j → j < i + k → ∀ s : Int, 0 ≤ s → s < 1000000 → body j s = some (.inl (if q j then s + 1 else s))) → 0 ≤ s → s + k ≤ 1000000 →
  forN body k i s = some (.inl (s + (((ints i k).filter q).length : Nat)))
 | 0, i, s, _, _, _ => by simp [forN, ints]
 | k + 1, i, s, h, h0, h1 => by
  rw [forN_inl (h i (Int.le_refl _) (by omega) s h0 (by omega)), for_cnt q k (i + 1) _ (fun j a b => h j (by omega) (by omega)) (by split <;> omega) (by split <;> omega), ints, List.filter_cons]
  split
  ·rename_i e; simp only [List.length_cons]; congr 2; omega
  ·rfl
def nt (on : List Bool) : List Bool := on.map fun x => !x
theorem nots {on : List Bool} {j : Int} {b : Bool} (h : getI on j = some b) : getI (nt on) j = some (!b) := by
 obtain ⟨h1, h2⟩ := getI_some.1 h
 exact getI_some.2 ⟨h1, by unfold nt; rw [List.getElem?_map, h2]; rfl⟩
section
variable {n : Nat} {out : List (MapO Bool)} {t : List (List Bool)} {R : Int → Int → Prop} (ho : InvO n out R) (ht : InvT n t R) (hn : n ≤ 300)
include ho ht hn
theorem rows {a : Int} (a0 : 0 ≤ a) (a1 : a < (n : Int)) : ∃ m l, getI (List.map MapO.toS out) a = some m ∧ getI t a = some l ∧ l.length = n ∧ (∀ b, m.Has b ↔ HasB l b) ∧ m.keys.length ≤ n := by
 obtain ⟨m, l, h1, h2, h3, h4, h5, _⟩ := row_at ho ht hn a0 a1
 exact ⟨m, l, getI_some.2 ⟨a0, by rw [List.getElem?_map, h1]; rfl⟩, getI_some.2 ⟨a0, h2⟩, h3, h4, h5⟩
theorem next_both {on : List Bool} (hon : on.length = n) (st : List Int) : ∃ b f : Int, forN (fun (i2_1 : Int) (xs2_1 : Int × Int) => (Option.bind (Option.bind (getI (List.map MapO.toS out) i2_1) fun x3_1 => Option.bind (getI (on,st).1 i2_1) fun x3_2 => if x3_2 then some (xs2_1.1, xs2_1.2) else Option.bind (Option.bind (rangeM (fun (p5_1 : Int × Bool) (xs5_1 : Int) => Option.bind (Option.bind (getI (on,st).1 p5_1.1) fun x6_1 => Option.bind (if !(x6_1) then some (w64 (xs5_1 + 1)) else some xs5_1 : Option (Int)) fun s6_1 => some s6_1 : Option (Int)) fun s5_2 => some s5_2) (x3_1 : MapS Bool).es 0) (fun xs4_1 => some xs4_1) : Option (Int)) fun s3_1 => Option.bind (if decide (xs2_1.1 < 0) then some true else some (decide (s3_1 < xs2_1.2)) : Option (Bool)) fun s3_2 => Option.bind (if s3_2 then some (i2_1, s3_1) else some (xs2_1.1, xs2_1.2) : Option (Int × Int)) fun s3_3 => some (s3_3.1, s3_3.2) : Option (Int × Int)) fun s2_1 => some (.inl (s2_1.1, s2_1.2)) : Option ((Int × Int) ⊕ (Empty)))) ((((List.map MapO.toS out).length : Int)) - 0).toNat 0 (-1, 0) = some (.inl (b, f)) ∧ spec_l21Next t (nt on) = some b ∧
    ((b = -1 ∧ ∀ j, 0 ≤ j → j < (n : Int) → getI on j = some true) ∨ (0 ≤ b ∧ b < (n : Int) ∧ getI on b = some false)) := by
  have hl := ho.1
  have htl := ht.1
  obtain ⟨s, s', e1, e2, e3, e4⟩ := forN_rel (b1 := (fun (i2_1 : Int) (xs2_1 : Int × Int) => (Option.bind (Option.bind (getI (List.map MapO.toS out) i2_1) fun x3_1 => Option.bind (getI (on,st).1 i2_1) fun x3_2 => if x3_2 then some (xs2_1.1, xs2_1.2) else Option.bind (Option.bind (rangeM (fun (p5_1 : Int × Bool) (xs5_1 : Int) => Option.bind (Option.bind (getI (on,st).1 p5_1.1) fun x6_1 => Option.bind (if !(x6_1) then some (w64 (xs5_1 + 1)) else some xs5_1 : Option (Int)) fun s6_1 => some s6_1 : Option (Int)) fun s5_2 => some s5_2) (x3_1 : MapS Bool).es 0) (fun xs4_1 => some xs4_1) : Option (Int)) fun s3_1 => Option.bind (if decide (xs2_1.1 < 0) then some true else some (decide (s3_1 < xs2_1.2)) : Option (Bool)) fun s3_2 => Option.bind (if s3_2 then some (i2_1, s3_1) else some (xs2_1.1, xs2_1.2) : Option (Int × Int)) fun s3_3 => some (s3_3.1, s3_3.2) : Option (Int × Int)) fun s2_1 => some (.inl (s2_1.1, s2_1.2)) : Option ((Int × Int) ⊕ (Empty))))) (b2 := (fun (i1_1 : Int) (xs1_1 : Int × Int) => (Option.bind (Option.bind (getI (nt on) i1_1) fun x2_1 => if !(x2_1) then some (xs1_1.1, xs1_1.2) else Option.bind (forN (S := Int) (X := Empty) (fun i3_1 xs3_1 => Option.bind (Option.bind (getI (nt on) i3_1) fun x4_1 => if x4_1 then Option.bind (getI t i1_1) fun x4_2 => Option.bind (getI x4_2 i3_1) fun x4_3 => Option.bind (spec_l5Truth x4_3) fun r4_1 => some (w64 (xs3_1 + r4_1)) else Option.bind (spec_l5Truth false) fun r4_2 => some (w64 (xs3_1 + r4_2)) : Option (Int)) fun s3_1 => some (.inl s3_1)) (((t.length : Int) : Int) - 0).toNat 0 0) (Sum.elim (fun xs2_1 => Option.bind (if decide (xs1_1.1 < 0) then some true else some (decide (xs2_1 < xs1_1.2)) : Option (Bool)) fun s2_1 => Option.bind (if s2_1 then some (i1_1, xs2_1) else some (xs1_1.1, xs1_1.2) : Option (Int × Int)) fun s2_2 => some (s2_2.1, s2_2.2)) (fun (e0 : Empty) => nomatch e0)) : Option (Int × Int)) fun s1_1 => some (.inl (s1_1.1, s1_1.2)) : Option ((Int × Int) ⊕ (Empty))))) (k := n) (i := 0) (s := ((-1, 0) : Int × Int)) (t := ((-1, 0) : Int × Int))
    (fun i s s' => s = s' ∧ ((s.1 = -1 ∧ ∀ j, 0 ≤ j → j < i → getI on j = some true) ∨ (0 ≤ s.1 ∧ s.1 < i ∧ getI on s.1 = some false))) ⟨rfl, .inl ⟨rfl, fun j a b => by omega⟩⟩ (fun j s s' j0 j1 hs => by
      obtain ⟨rfl, hs⟩ := hs
      obtain ⟨m, l, h1, h2, h3, h4, h5⟩ := rows ho ht hn j0 (by omega)
      obtain ⟨b, hb, _⟩ := getI_in (xs := on) (j := j) j0 (by omega)
      have hb' := nots hb
      cases b with
      | true =>
        refine ⟨s, s, ?_, ?_, rfl, ?_⟩
        · rw [h1, Option.bind_some, hb]; rfl
        · rw [hb']; rfl
        · rcases hs with ⟨q1, q2⟩ | ⟨q1, q2, q3⟩
          · exact .inl ⟨q1, fun i a b => by
              rcases Int.lt_or_eq_of_le (show i ≤ j by omega) with h | h
              · exact q2 i a h
              · rw [h]; exact hb⟩
          · exact .inr ⟨q1, by omega, q3⟩
      | false =>
        let p : Int → Bool := fun o => !((getI on o).getD true)
        have hreg : ∀ o, m.Has o → 0 ≤ o ∧ o < (n : Int) := fun o h => by have := hasB_rng ((h4 o).1 h); omega
        have c1 : rangeM (fun (p5_1 : Int × Bool) (xs5_1 : Int) => Option.bind (Option.bind (getI (on,st).1 p5_1.1) fun x6_1 => Option.bind (if !(x6_1) then some (w64 (xs5_1 + 1)) else some xs5_1 : Option (Int)) fun s6_1 => some s6_1 : Option (Int)) fun s5_2 => some s5_2) m.es 0 = some ((((m.keys.filter p).length : Nat) : Int)) := by
          have := range_cnt (body := (fun (p5_1 : Int × Bool) (xs5_1 : Int) => Option.bind (Option.bind (getI (on,st).1 p5_1.1) fun x6_1 => Option.bind (if !(x6_1) then some (w64 (xs5_1 + 1)) else some xs5_1 : Option (Int)) fun s6_1 => some s6_1 : Option (Int)) fun s5_2 => some s5_2)) p m.es 0 (fun q hq s s0 s1 => by
            have hq1 := hreg q.1 (MapS.has_iff.2 ⟨q.2, hq⟩)
            obtain ⟨v, hv, _⟩ := getI_in (xs := on) (j := q.1) hq1.1 (by omega)
            show Option.bind (Option.bind (getI on q.1) _) _ = _
            have hp : p q.1 = !v := by show (!((getI on q.1).getD true)) = !v; rw [hv]; rfl
            rw [hv, Option.bind_some, hp, w64_id (by omega) (by omega)]
            cases v <;> rfl) (Int.le_refl _) (by have : m.es.length = m.keys.length := by simp [MapS.keys]
                                                 omega)
          rw [Int.zero_add] at this
          exact this
        have c2 : forN (fun (i3_1 : Int) (xs3_1 : Int) => (Option.bind (Option.bind (getI (nt on) i3_1) fun x4_1 => if x4_1 then Option.bind (getI t j) fun x4_2 => Option.bind (getI x4_2 i3_1) fun x4_3 => Option.bind (spec_l5Truth x4_3) fun r4_1 => some (w64 (xs3_1 + r4_1)) else Option.bind (spec_l5Truth false) fun r4_2 => some (w64 (xs3_1 + r4_2)) : Option (Int)) fun s3_1 => some (.inl s3_1) : Option ((Int) ⊕ (Empty)))) (((t.length : Int)) - 0).toNat 0 0 = some (.inl ((((m.keys.filter p).length : Nat) : Int))) := by
          have e : m.keys.filter p = (ints 0 n).filter fun x => p x && decide (HasB l x) := by
            refine sorted_eq (List.Pairwise.filter _ (MapS.keys_sorted m)) (List.Pairwise.filter _ ints_sorted) fun r => ?_
            rw [List.mem_filter, List.mem_filter, mem_ints, Bool.and_eq_true, decide_eq_true_eq]
            constructor
            · rintro ⟨q1, q2⟩
              have := hreg r q1
              exact ⟨by omega, q2, (h4 r).1 q1⟩
            · rintro ⟨q1, q2, q3⟩
              exact ⟨(h4 r).2 q3, q2⟩
          rw [e]
          have := for_cnt (X := Empty) (body := (fun (i3_1 : Int) (xs3_1 : Int) => (Option.bind (Option.bind (getI (nt on) i3_1) fun x4_1 => if x4_1 then Option.bind (getI t j) fun x4_2 => Option.bind (getI x4_2 i3_1) fun x4_3 => Option.bind (spec_l5Truth x4_3) fun r4_1 => some (w64 (xs3_1 + r4_1)) else Option.bind (spec_l5Truth false) fun r4_2 => some (w64 (xs3_1 + r4_2)) : Option (Int)) fun s3_1 => some (.inl s3_1) : Option ((Int) ⊕ (Empty))))) (fun x => p x && decide (HasB l x)) n 0 0 (fun i i0 i1 s s0 s1 => by
            obtain ⟨v, hv, _⟩ := getI_in (xs := on) (j := i) i0 (by omega)
            obtain ⟨u, hu, hu2⟩ := hasB_at (l := l) (r := i) i0 (by omega)
            have hp : p i = !v := by show (!((getI on i).getD true)) = !v; rw [hv]; rfl
            have hd : decide (HasB l i) = u := by cases u <;> simp [← hu2]
            rw [nots hv, Option.bind_some, hp, hd]
            cases v with
            | true =>
              simp only [Bool.not_true, Bool.false_eq_true, if_false]
              show Option.bind (Option.bind (some (0 : Int)) _) _ = _
              simp only [Option.bind_some, Int.add_zero]
              rw [w64_id (by omega) (by omega)]
              rfl
            | false =>
              simp only [Bool.not_false, if_true, h2, hu, Option.bind_some]
              cases u with
              | true =>
                show Option.bind (Option.bind (some (1 : Int)) _) _ = _
                simp only [Option.bind_some]
                rw [w64_id (by omega) (by omega)]
                rfl
              | false =>
                show Option.bind (Option.bind (some (0 : Int)) _) _ = _
                simp only [Option.bind_some, Int.add_zero]
                rw [w64_id (by omega) (by omega)]
                rfl) (Int.le_refl _) (by omega)
          rw [show ((t.length : Int) - 0).toNat = n by omega, this, Int.zero_add]
        generalize (((m.keys.filter p).length : Nat) : Int) = c at c1 c2
        refine ⟨if s.1 < 0 ∨ c < s.2 then (j, c) else s, if s.1 < 0 ∨ c < s.2 then (j, c) else s, ?_, ?_, rfl, ?_⟩
        · rw [h1, Option.bind_some]
          show Option.bind (Option.bind (getI on j) _) _ = _
          rw [hb, Option.bind_some]
          simp only [Bool.false_eq_true, if_false, c1, Option.bind_some]
          by_cases q1 : s.1 < 0
          · simp [q1]
          · by_cases q2 : c < s.2
            · simp [q1, q2]
            · simp [q1, q2]
        · rw [hb', Option.bind_some]
          simp only [Bool.not_false, Bool.not_true, Bool.false_eq_true, if_false, c2, Option.bind_some, Sum.elim_inl]
          by_cases q1 : s.1 < 0
          · simp [q1]
          · by_cases q2 : c < s.2
            · simp [q1, q2]
            · simp [q1, q2]
        · split
          · exact .inr ⟨j0, by dsimp only; omega, hb⟩
          · rename_i hq
            rcases hs with ⟨q1, _⟩ | ⟨q1, q2, q3⟩
            · exact absurd (Or.inl (by omega)) hq
            · exact .inr ⟨q1, by omega, q3⟩)
  subst e3
  refine ⟨s.1, s.2, ?_, ?_, by simpa using e4⟩
  · rw [List.length_map, show ((out.length : Int) - 0).toNat = n by omega]; exact e1
  · unfold spec_l21Next
    have hk : n = ((t.length : Int) - 0).toNat := by omega
    rw [hk] at e2
    exact bindt e2 rfl
end
end Unt
end Go.Wk
namespace Go.Wk
open Go
namespace Unt
set_option maxRecDepth 10000
section
variable {n : Nat} {out : List (MapO Bool)} {t : List (List Bool)} {R : Int → Int → Prop} (ho : InvO n out R) (ht : InvT n t R) (hn : n ≤ 300)
include ho ht hn
omit ho ht hn in
theorem nt_set (on : List Bool) (b : Nat) : (nt on).set b false = nt (on.set b true) := by unfold nt; rw [List.map_set]; rfl
theorem stack_both : ∀ (k : Nat) (on : List Bool) (st : List Int) (i : Int), on.length = n → on.count false = k → st.length + k ≤ 1000 → (∀ x ∈ st, 0 ≤ x ∧ x < (n : Int)) →
  ∃ on' st' b, forN (fun (i1_1 : Int) (xs1_1 : (List Bool) × (List Int)) => (Option.bind (forN (S := Int × Int) (X := Empty) (fun i2_1 xs2_1 => Option.bind (Option.bind (getI (List.map MapO.toS out) i2_1) fun x3_1 => Option.bind (getI xs1_1.1 i2_1) fun x3_2 => if x3_2 then some (xs2_1.1, xs2_1.2) else Option.bind (Option.bind (rangeM (fun (p5_1 : Int × Bool) (xs5_1 : Int) => Option.bind (Option.bind (getI xs1_1.1 p5_1.1) fun x6_1 => Option.bind (if !(x6_1) then some (w64 (xs5_1 + 1)) else some xs5_1 : Option (Int)) fun s6_1 => some s6_1 : Option (Int)) fun s5_2 => some s5_2) (x3_1 : MapS Bool).es 0) (fun xs4_1 => some xs4_1) : Option (Int)) fun s3_1 => Option.bind (if decide (xs2_1.1 < 0) then some true else some (decide (s3_1 < xs2_1.2)) : Option (Bool)) fun s3_2 => Option.bind (if s3_2 then some (i2_1, s3_1) else some (xs2_1.1, xs2_1.2) : Option (Int × Int)) fun s3_3 => some (s3_3.1, s3_3.2) : Option (Int × Int)) fun s2_1 => some (.inl (s2_1.1, s2_1.2))) ((((List.map MapO.toS out).length : Int) : Int) - 0).toNat 0 (-1, 0)) (Sum.elim (fun xs1_2 => Option.bind (getI xs1_1.1 xs1_2.1) fun x1_1 => Option.bind (appM xs1_1.2 ([xs1_2.1] : List Int)) fun ys1_1 => some (.inl ((xs1_1.1.set (xs1_2.1).toNat true), ys1_1))) (fun (e0 : Empty) => nomatch e0)) : Option (((List Bool) × (List Int)) ⊕ (Empty)))) k i (on, st) = some (.inl (on', st')) ∧ spec_l21Next t (nt on) = some b ∧ loopM (fun (xs2_1 : (List Bool) × (List Int) × Int) => (if decide (0 ≤ xs2_1.2.2) then Option.bind (appM xs2_1.2.1 ([xs2_1.2.2] : List Int)) fun ys2_1 => Option.bind (getI xs2_1.1 xs2_1.2.2) fun x2_1 => Option.bind (spec_l21Next t (xs2_1.1.set (xs2_1.2.2).toNat false)) fun r2_1 => some (.inl ((xs2_1.1.set (xs2_1.2.2).toNat false), ys2_1, r2_1)) else some (.inr xs2_1.2.1) : Option (((List Bool) × (List Int) × Int) ⊕ ((List Int))))) (nt on, st, b) = some st' ∧ st'.length = st.length + k ∧ ∀ x ∈ st', 0 ≤ x ∧ x < (n : Int)
 | 0, on, st, i, hon, hc, hl, hs => by
  obtain ⟨b, f, e1, e2, e3⟩ := next_both ho ht hn hon st
  rcases e3 with ⟨rfl, _⟩ | ⟨h1, h2, h3⟩
  ·exact ⟨on, st, -1, rfl, e2, loopM_inr rfl, by simp, hs⟩
  ·have := List.count_pos_iff.2 (List.mem_of_getElem? (getI_some.1 h3).2)
   omega
 | k + 1, on, st, i, hon, hc, hl, hs => by
  obtain ⟨b, f, e1, e2, e3⟩ := next_both ho ht hn hon st
  rcases e3 with ⟨_, h1⟩ | ⟨h1, h2, h3⟩
  ·have : on.count false = 0 := by
    rw [List.count_eq_zero]
    intro h
    obtain ⟨j, hj⟩ := List.getElem?_of_mem h
    have hlt : j < on.length := (List.getElem?_eq_some_iff.1 hj).1
    have := (getI_some.1 (h1 (j : Int) (by omega) (by omega))).2
    rw [Int.toNat_natCast, hj] at this
    cases this
   omega
  ·have hc2 := cntF_set (getI_some.1 h3).2
   obtain ⟨on', st', b', g1, g2, g3, g4, g5⟩ := stack_both k (on.set b.toNat true) (st ++ [b]) (i + 1) (by simp [hon]) (by omega) (by simp; omega) (fun x hx => by
    rcases List.mem_append.1 hx with h | h
    ·exact hs x h
    ·rw [List.mem_singleton.1 h]; exact ⟨h1, h2⟩)
   refine ⟨on', st', b, ?_, e2, ?_, by simp at g4; omega, g5⟩
   ·rw [forN_inl]
    ·exact g1
    ·refine bindt e1 ?_
     show Option.bind (getI on b) _ = _
     rw [h3, Option.bind_some]
     show Option.bind (appM st [b]) _ = _
     rw [appM_ok (by simp; omega)]
     rfl
   ·refine (loopM_inl ?_).trans g3
    show (if decide (0 ≤ b) then Option.bind (appM st [b]) _ else _) = _
    rw [if_pos (decide_eq_true h1), appM_ok (by simp; omega), Option.bind_some]
    show Option.bind (getI (nt on) b) _ = _
    rw [nots h3, Option.bind_some]
    show Option.bind (spec_l21Next t ((nt on).set b.toNat false)) _ = _
    rw [nt_set, g2]
    rfl
end
theorem range_ins {β : Type} {body : Int × β → MapS Bool → Option (MapS Bool)} (g : Int → Int) (p : Int → Bool) : ∀ (es : List (Int × β)) (s : MapS Bool), (∀ q ∈ es, ∀ s, body q s = some (if p q.1 then s.ins (g q.1) true else s)) → AllT s →
  ∃ s', rangeM body es s = some s' ∧ AllT s' ∧ ∀ c, s'.Has c ↔ s.Has c ∨ ∃ o ∈ es.map (·.1), p o = true ∧ g o = c
 | [], s, _, ha => ⟨s, rfl, ha, fun c => by simp⟩
 | q :: es, s, h, ha => by
  by_cases hp : p q.1 = true
  ·obtain ⟨s', h1, h2, h3⟩ := range_ins g p es (s.ins (g q.1) true) (fun q hq => h q (by simp [hq])) (allT_ins ha _)
   refine ⟨s', by rw [rangeM, h q (by simp), Option.bind_some, if_pos hp]; exact h1, h2, fun c => ?_⟩
   rw [h3, MapS.has_ins, List.map_cons]
   simp only [List.mem_cons, exists_eq_or_imp, hp, true_and]
   constructor
   ·rintro ((h | h) | h)
    ·exact .inr (.inl h.symm)
    ·exact .inl h
    ·exact .inr (.inr h)
   ·rintro (h | h | h)
    ·exact .inl (.inr h)
    ·exact .inl (.inl h.symm)
    ·exact .inr h
  ·rw [Bool.not_eq_true] at hp
   obtain ⟨s', h1, h2, h3⟩ := range_ins g p es s (fun q hq => h q (by simp [hq])) ha
   refine ⟨s', by rw [rangeM, h q (by simp), Option.bind_some, hp]; exact h1, h2, fun c => ?_⟩
   rw [h3, List.map_cons]
   simp only [List.mem_cons, exists_eq_or_imp, hp, Bool.false_eq_true, false_and, false_or]
theorem free_both {most e : Int} {cols : List Int} {tk : MapS Bool} {tl : List Bool} (he : ∃ v, getI cols e = some v) (hm : most ≤ 16) (htl : ∀ d, 0 ≤ d → d < most → getI tl d = some ((tk.get d).getD false)) : ∀ (k : Nat) (c : Int), c + k = most → 0 ≤ c →
  ∃ d, c ≤ d ∧ d ≤ most ∧ forN (fun (i3_1 : Int) (xs3_2 : Unit) => (if !(((MapS.get tk i3_1).getD false)) then Option.bind (getI cols e) fun x3_4 => some (.inr (cols.set (e).toNat i3_1)) else some (.inl ()) : Option ((Unit) ⊕ ((List Int))))) k c () = some (if d < most then .inr (cols.set e.toNat d) else .inl ()) ∧ loopM (fun (xs5_1 : Int) => (Option.bind (if decide (xs5_1 < most) then Option.bind (getI tl xs5_1) fun x6_6 => some x6_6 else some false : Option (Bool)) fun s5_3 => if s5_3 then some (.inl (w64 (xs5_1 + 1))) else some (.inr xs5_1) : Option ((Int) ⊕ (Int)))) c = some d
 | 0, c, hk, h0 => by
  refine ⟨c, Int.le_refl _, by omega, ?_, loopM_inr ?_⟩
  ·rw [if_neg (by omega)]; rfl
  ·rw [decide_eq_false (show ¬ c < most by omega)]; rfl
 | k + 1, c, hk, h0 => by
  have ht := htl c h0 (by omega)
  obtain ⟨v, hv⟩ := he
  cases hp : (tk.get c).getD false with
  | true =>
   obtain ⟨d, h1, h2, h3, h4⟩ := free_both ⟨v, hv⟩ hm htl k (c + 1) (by omega) (by omega)
   refine ⟨d, by omega, h2, ?_, ?_⟩
   ·rw [forN_inl]
    ·exact h3
    ·rw [hp]; rfl
   ·refine (loopM_inl ?_).trans h4
    rw [decide_eq_true (show c < most by omega)]
    simp only [if_true, ht, hp, Option.bind_some]
    rw [w64_id (by omega) (by omega)]
  | false =>
   refine ⟨c, Int.le_refl _, by omega, ?_, loopM_inr ?_⟩
   ·rw [if_pos (by omega), forN_inr]
    simp only [hp, Bool.not_false, if_true, hv, Option.bind_some]
   ·rw [decide_eq_true (show c < most by omega)]
    simp only [if_true, ht, hp, Option.bind_some, Bool.false_eq_true, if_false]
section
variable {n : Nat} {out : List (MapO Bool)} {t : List (List Bool)} {R : Int → Int → Prop} (ho : InvO n out R) (ht : InvT n t R) (hn : n ≤ 300)
include ho ht hn
omit ho in
theorem taken_ok {most : Int} (m0 : 1 ≤ most) (m1 : most ≤ 16) {cols : List Int} (hcl : cols.length = n) (hcv : ∀ x ∈ cols, -1 ≤ x ∧ x < most) {e : Int} {l : List Bool} (he : getI t e = some l) (hl : l.length = n) :
  ∃ tl, forN (fun (i4_1 : Int) (xs4_1 : (List Bool)) => (Option.bind (Option.bind (Option.bind (getI t e) fun x6_1 => Option.bind (getI x6_1 i4_1) fun x6_2 => if x6_2 then Option.bind (getI (cols,0).1 i4_1) fun x6_3 => some (decide (0 ≤ x6_3)) else some false : Option (Bool)) fun s5_1 => Option.bind (if s5_1 then Option.bind (getI (cols,0).1 i4_1) fun x6_4 => Option.bind (getI xs4_1 x6_4) fun x6_5 => some (xs4_1.set (x6_4).toNat true) else some xs4_1 : Option ((List Bool))) fun s5_2 => some s5_2 : Option ((List Bool))) fun s4_1 => some (.inl s4_1) : Option (((List Bool)) ⊕ (Empty)))) (((t.length : Int)) - 0).toNat 0 (List.replicate (most + 1).toNat false) = some (.inl tl) ∧ tl.length = (most + 1).toNat ∧ ∀ d, 0 ≤ d → (HasB tl d ↔ ∃ o, HasB l o ∧ getI cols o = some d) := by
 have htl := ht.1
 rw [show ((t.length : Int) - 0).toNat = n by omega]
 rcases forN_law (body := (fun (i4_1 : Int) (xs4_1 : (List Bool)) => (Option.bind (Option.bind (Option.bind (getI t e) fun x6_1 => Option.bind (getI x6_1 i4_1) fun x6_2 => if x6_2 then Option.bind (getI (cols,0).1 i4_1) fun x6_3 => some (decide (0 ≤ x6_3)) else some false : Option (Bool)) fun s5_1 => Option.bind (if s5_1 then Option.bind (getI (cols,0).1 i4_1) fun x6_4 => Option.bind (getI xs4_1 x6_4) fun x6_5 => some (xs4_1.set (x6_4).toNat true) else some xs4_1 : Option ((List Bool))) fun s5_2 => some s5_2 : Option ((List Bool))) fun s4_1 => some (.inl s4_1) : Option (((List Bool)) ⊕ (Empty))))) (k := n) (i := 0) (s := List.replicate (most + 1).toNat false) (fun i tl => tl.length = (most + 1).toNat ∧ ∀ d, 0 ≤ d → (HasB tl d ↔ ∃ o, o < i ∧ HasB l o ∧ getI cols o = some d)) (fun _ => False)
  ⟨by simp, fun d d0 => by
   constructor
   ·intro h
    have := (hasB_iff.1 h).2
    rw [List.getElem?_replicate] at this
    split at this <;> cases this
   ·rintro ⟨o, h1, h2, _⟩
    have := hasB_rng h2
    omega⟩ (fun j tl j0 j1 hs => by
   obtain ⟨hs1, hs2⟩ := hs
   left
   obtain ⟨v, hv, hv2⟩ := hasB_at (l := l) (r := j) j0 (by omega)
   obtain ⟨c, hc, hcm⟩ := getI_in (xs := cols) (j := j) j0 (by omega)
   have hcb := hcv c (List.mem_of_getElem? (getI_some.1 hc).2)
   have hsame : ∀ (d : Int), 0 ≤ d → ¬ (v = true ∧ c = d) → ((∃ o, o < j + 1 ∧ HasB l o ∧ getI cols o = some d) ↔ ∃ o, o < j ∧ HasB l o ∧ getI cols o = some d) := fun d d0 hne => by
    constructor
    ·rintro ⟨o, h1, h2, h3⟩
     rcases Int.lt_or_eq_of_le (show o ≤ j by omega) with h | h
     ·exact ⟨o, h, h2, h3⟩
     ·subst h
      rw [hc] at h3
      cases h3
      exact absurd ⟨hv2.2 h2, rfl⟩ hne
    ·rintro ⟨o, h1, h2, h3⟩
     exact ⟨o, by omega, h2, h3⟩
   by_cases hset : v = true ∧ 0 ≤ c
   ·obtain ⟨rfl, hc0⟩ := hset
    obtain ⟨z, hz, _⟩ := getI_in (xs := tl) (j := c) hc0 (by omega)
    refine ⟨tl.set c.toNat true, ?_, by simp [hs1], fun d d0 => ?_⟩
    ·simp only [he, hv, hc, hz, hc0, decide_true, if_true, Option.bind_some]
    ·rw [hasB_set hc0 (by omega)]
     by_cases e : d = c
     ·subst e
      simp only [if_true, true_iff]
      exact ⟨j, by omega, hv2.1 rfl, hc⟩
     ·rw [if_neg e, hs2 d d0, hsame d d0 (fun h => e h.2.symm)]
   ·refine ⟨tl, ?_, hs1, fun d d0 => ?_⟩
    ·simp only [he, hv, Option.bind_some]
     cases v with
     | false => rfl
     | true =>
      have : ¬ 0 ≤ c := fun h => hset ⟨rfl, h⟩
      simp only [if_true, hc, Option.bind_some, decide_eq_false this, Bool.false_eq_true, if_false]
    ·rw [hs2 d d0, hsame d d0 (fun h => hset ⟨h.1, by omega⟩)]) with ⟨tl, h1, h2, h3⟩ | ⟨_, _, h⟩
 ·refine ⟨tl, h1, h2, fun d d0 => ?_⟩
  rw [h3 d d0]
  constructor
  ·rintro ⟨o, _, h⟩; exact ⟨o, h⟩
  ·rintro ⟨o, h⟩
   have := hasB_rng h.1
   exact ⟨o, by omega, h⟩
 ·exact h.elim
theorem col_step {most : Int} (m0 : 1 ≤ most) (m1 : most ≤ 16) {cols : List Int} (hcl : cols.length = n) (hcv : ∀ x ∈ cols, -1 ≤ x ∧ x < most) {e : Int} (e0 : 0 ≤ e) (e1 : e < (n : Int)) (i : Int) :
  ∃ cols', (fun (i1_4 e1_1 : Int) (xs1_4 : (List Int)) => Option.bind (getI (List.map MapO.toS out) e1_1) fun x1_3 => Option.bind (Option.bind (rangeM (fun (p3_1 : Int × Bool) (xs3_1 : (MapS Bool)) => Option.bind (getI xs1_4 p3_1.1) fun x3_3 => some (MapS.ins xs3_1 x3_3 true)) (x1_3 : MapS Bool).es (MapS.mk0 : MapS Bool)) (fun xs2_2 => some xs2_2) : Option ((MapS Bool))) fun s1_1 => Option.bind (Option.bind (fitI most) fun _ => Option.bind (forN (S := Unit) (X := (List Int)) (fun i3_1 xs3_2 => if !(((MapS.get s1_1 i3_1).getD false)) then Option.bind (getI xs1_4 e1_1) fun x3_4 => some (.inr (xs1_4.set (e1_1).toNat i3_1)) else some (.inl ())) ((most : Int) - 0).toNat 0 ()) (Sum.elim (fun xs2_3 => some xs1_4) (fun e0 => some e0)) : Option ((List Int))) fun s1_2 => some s1_2) i e cols = some cols' ∧ (∀ st j, 0 ≤ j → getI st j = some e → (fun (xs2_2 : (List Int) × Int) => (if decide (0 ≤ xs2_2.2) then Option.bind (Option.bind (getI st xs2_2.2) fun x3_1 => Option.bind (makeM (false : Bool) (w64 (most + 1))) fun ys3_1 => Option.bind (forN (S := (List Bool)) (X := Empty) (fun i4_1 xs4_1 => Option.bind (Option.bind (Option.bind (getI t x3_1) fun x6_1 => Option.bind (getI x6_1 i4_1) fun x6_2 => if x6_2 then Option.bind (getI xs2_2.1 i4_1) fun x6_3 => some (decide (0 ≤ x6_3)) else some false : Option (Bool)) fun s5_1 => Option.bind (if s5_1 then Option.bind (getI xs2_2.1 i4_1) fun x6_4 => Option.bind (getI xs4_1 x6_4) fun x6_5 => some (xs4_1.set (x6_4).toNat true) else some xs4_1 : Option ((List Bool))) fun s5_2 => some s5_2 : Option ((List Bool))) fun s4_1 => some (.inl s4_1)) (((t.length : Int) : Int) - 0).toNat 0 ys3_1) (Sum.elim (fun xs3_1 => Option.bind (Option.bind (loopM (S := Int) (X := Int) (fun xs5_1 => Option.bind (if decide (xs5_1 < most) then Option.bind (getI xs3_1 xs5_1) fun x6_6 => some x6_6 else some false : Option (Bool)) fun s5_3 => if s5_3 then some (.inl (w64 (xs5_1 + 1))) else some (.inr xs5_1)) 0) (fun e0 => some e0) : Option (Int)) fun s3_1 => Option.bind (if decide (s3_1 < most) then Option.bind (getI xs2_2.1 x3_1) fun x4_1 => some (xs2_2.1.set (x3_1).toNat s3_1) else some xs2_2.1 : Option ((List Int))) fun s3_2 => some s3_2) (fun (e0 : Empty) => nomatch e0)) : Option ((List Int))) fun s2_1 => some (.inl (s2_1, w64 (xs2_2.2 - 1))) else some (.inr xs2_2.1) : Option (((List Int) × Int) ⊕ ((List Int))))) (cols, j) = some (.inl (cols', w64 (j - 1)))) ∧ cols'.length = n ∧ ∀ x ∈ cols', -1 ≤ x ∧ x < most := by
 obtain ⟨m, l, h1, h2, h3, h4, h5⟩ := rows ho ht hn e0 e1
 have hreg : ∀ o, m.Has o → 0 ≤ o ∧ o < (n : Int) := fun o h => by have := hasB_rng ((h4 o).1 h); omega
 obtain ⟨tk, k1, k2, k3⟩ := range_ins (body := (fun (p3_1 : Int × Bool) (xs3_1 : (MapS Bool)) => Option.bind (getI cols p3_1.1) fun x3_3 => some (MapS.ins xs3_1 x3_3 true))) (fun o => (getI cols o).getD 0) (fun _ => true) m.es MapS.mk0 (fun q hq s => by
  have hq1 := hreg q.1 (MapS.has_iff.2 ⟨q.2, hq⟩)
  obtain ⟨v, hv, _⟩ := getI_in (xs := cols) (j := q.1) hq1.1 (by omega)
  show Option.bind (getI cols q.1) _ = some (s.ins ((getI cols q.1).getD 0) true)
  rw [hv]; rfl) allT_mk0
 obtain ⟨tl, t1, t2, t3⟩ := taken_ok ht hn m0 m1 hcl hcv h2 h3
 have hkl : ∀ d, 0 ≤ d → (tk.Has d ↔ HasB tl d) := fun d d0 => by
  rw [k3, t3 d d0]
  constructor
  ·rintro (h | ⟨o, ho1, _, ho2⟩)
   ·exact absurd h MapS.has_mk0
   ·have hh : m.Has o := ho1
    have hr := hreg o hh
    obtain ⟨v, hv, _⟩ := getI_in (xs := cols) (j := o) hr.1 (by omega)
    rw [hv] at ho2
    have ho2 : v = d := ho2
    exact ⟨o, (h4 o).1 hh, by rw [hv, ho2]⟩
  ·rintro ⟨o, ho1, ho2⟩
   exact .inr ⟨o, (h4 o).2 ho1, rfl, by rw [ho2]; rfl⟩
 have hfree : ∀ d, 0 ≤ d → d < most → getI tl d = some ((tk.get d).getD false) := fun d d0 d1 => by
  obtain ⟨v, hv, hv2⟩ := hasB_at (l := tl) (r := d) d0 (by omega)
  rw [hv]
  have h6 := allT_get k2 d
  rw [hkl d d0, ← hv2] at h6
  cases v <;> cases hg : (tk.get d).getD false <;> simp_all
 obtain ⟨z, hz, _⟩ := getI_in (xs := cols) (j := e) e0 (by omega)
 obtain ⟨d, d0, d1, d2, d3⟩ := free_both (e := e) (cols := cols) ⟨z, hz⟩ m1 hfree most.toNat 0 (by omega) (Int.le_refl _)
 refine ⟨if d < most then cols.set e.toNat d else cols, ?_, fun st j j0 hj => ?_, by split <;> simp [hcl], fun x hx => ?_⟩
 ·refine bindt h1 ?_
  refine bindt (bindt k1 rfl) ?_
  refine bindt ?_ rfl
  have hfit : fitI most = some () := fitS (by omega)
  rw [hfit, Option.bind_some]
  rw [show ((most : Int) - 0).toNat = most.toNat by omega]
  refine bindt d2 ?_
  split <;> rfl
 ·show (if decide (0 ≤ j) then _ else _) = _
  rw [if_pos (decide_eq_true j0)]
  show Option.bind (Option.bind (getI st j) _) _ = _
  rw [hj, Option.bind_some, w64_id (by omega) (by omega), makeM_ok (by omega) (by omega), Option.bind_some]
  refine bindt (a := if d < most then cols.set e.toNat d else cols) ?_ rfl
  refine bindt t1 ?_
  show Option.bind (Option.bind (loopM _ 0) _) _ = _
  rw [d3, Option.bind_some, Option.bind_some]
  by_cases hd : d < most
  ·simp only [hd, decide_true, if_true, hz, Option.bind_some]
  ·simp only [hd, decide_false, Bool.false_eq_true, if_false, Option.bind_some]
 ·split at hx
  ·rcases List.mem_or_eq_of_mem_set hx with h | h
   ·exact hcv x h
   ·omega
  ·exact hcv x hx
theorem cols_both {most : Int} (m0 : 1 ≤ most) (m1 : most ≤ 16) {st : List Int} (hst : ∀ x ∈ st, 0 ≤ x ∧ x < (n : Int)) (hsl : st.length ≤ 1000) : ∀ (k : Nat) (cols : List Int), k ≤ st.length → cols.length = n → (∀ x ∈ cols, -1 ≤ x ∧ x < most) →
  ∃ r, backM (fun (i1_4 e1_1 : Int) (xs1_4 : (List Int)) => Option.bind (getI (List.map MapO.toS out) e1_1) fun x1_3 => Option.bind (Option.bind (rangeM (fun (p3_1 : Int × Bool) (xs3_1 : (MapS Bool)) => Option.bind (getI xs1_4 p3_1.1) fun x3_3 => some (MapS.ins xs3_1 x3_3 true)) (x1_3 : MapS Bool).es (MapS.mk0 : MapS Bool)) (fun xs2_2 => some xs2_2) : Option ((MapS Bool))) fun s1_1 => Option.bind (Option.bind (fitI most) fun _ => Option.bind (forN (S := Unit) (X := (List Int)) (fun i3_1 xs3_2 => if !(((MapS.get s1_1 i3_1).getD false)) then Option.bind (getI xs1_4 e1_1) fun x3_4 => some (.inr (xs1_4.set (e1_1).toNat i3_1)) else some (.inl ())) ((most : Int) - 0).toNat 0 ()) (Sum.elim (fun xs2_3 => some xs1_4) (fun e0 => some e0)) : Option ((List Int))) fun s1_2 => some s1_2) st k cols = some r ∧ loopM (fun (xs2_2 : (List Int) × Int) => (if decide (0 ≤ xs2_2.2) then Option.bind (Option.bind (getI st xs2_2.2) fun x3_1 => Option.bind (makeM (false : Bool) (w64 (most + 1))) fun ys3_1 => Option.bind (forN (S := (List Bool)) (X := Empty) (fun i4_1 xs4_1 => Option.bind (Option.bind (Option.bind (getI t x3_1) fun x6_1 => Option.bind (getI x6_1 i4_1) fun x6_2 => if x6_2 then Option.bind (getI xs2_2.1 i4_1) fun x6_3 => some (decide (0 ≤ x6_3)) else some false : Option (Bool)) fun s5_1 => Option.bind (if s5_1 then Option.bind (getI xs2_2.1 i4_1) fun x6_4 => Option.bind (getI xs4_1 x6_4) fun x6_5 => some (xs4_1.set (x6_4).toNat true) else some xs4_1 : Option ((List Bool))) fun s5_2 => some s5_2 : Option ((List Bool))) fun s4_1 => some (.inl s4_1)) (((t.length : Int) : Int) - 0).toNat 0 ys3_1) (Sum.elim (fun xs3_1 => Option.bind (Option.bind (loopM (S := Int) (X := Int) (fun xs5_1 => Option.bind (if decide (xs5_1 < most) then Option.bind (getI xs3_1 xs5_1) fun x6_6 => some x6_6 else some false : Option (Bool)) fun s5_3 => if s5_3 then some (.inl (w64 (xs5_1 + 1))) else some (.inr xs5_1)) 0) (fun e0 => some e0) : Option (Int)) fun s3_1 => Option.bind (if decide (s3_1 < most) then Option.bind (getI xs2_2.1 x3_1) fun x4_1 => some (xs2_2.1.set (x3_1).toNat s3_1) else some xs2_2.1 : Option ((List Int))) fun s3_2 => some s3_2) (fun (e0 : Empty) => nomatch e0)) : Option ((List Int))) fun s2_1 => some (.inl (s2_1, w64 (xs2_2.2 - 1))) else some (.inr xs2_2.1) : Option (((List Int) × Int) ⊕ ((List Int))))) (cols, (k : Int) - 1) = some r ∧ r.length = n ∧ ∀ x ∈ r, -1 ≤ x ∧ x < most
 | 0, cols, _, hcl, hcv => ⟨cols, rfl, loopM_inr rfl, hcl, hcv⟩
 | k + 1, cols, hk, hcl, hcv => by
  have hg : st[k]? = some (st.getD k 0) := by rw [List.getD_eq_getElem?_getD, List.getElem?_eq_getElem (by omega)]; rfl
  have hm := hst _ (List.mem_of_getElem? hg)
  obtain ⟨c', h1, h2, h3, h4⟩ := col_step ho ht hn m0 m1 hcl hcv hm.1 hm.2 (k : Int)
  obtain ⟨r, g1, g2, g3, g4⟩ := cols_both m0 m1 hst hsl k c' (by omega) h3 h4
  refine ⟨r, bindt h1 g1, ?_, g3, g4⟩
  have h5 := h2 st (k : Int) (by omega) (getI_some.2 ⟨by omega, by simpa using hg⟩)
  rw [show ((k + 1 : Nat) : Int) - 1 = (k : Int) by omega]
  have hw : w64 ((k : Int) - 1) = (k : Int) - 1 := w64_id (by omega) (by omega)
  rw [hw] at h5
  exact (loopM_inl h5).trans g2
end
end Unt
end Go.Wk
namespace Go.Wk
open Go
namespace Unt
set_option maxRecDepth 10000
theorem setLoop {α X : Type} {c : α} {body : Int → List α → Option (List α ⊕ X)} (h : ∀ (pre r : List α) x, body (pre.length : Int) (pre ++ x :: r) = some (.inl (pre ++ c :: r))) :
  ∀ (suf pre : List α), forN body suf.length (pre.length : Int) (pre ++ suf) = some (.inl (pre ++ List.replicate suf.length c))
 | [], pre => by simp [forN]
 | x :: r, pre => by
  rw [List.length_cons, forN_inl (h pre r x)]
  have := setLoop h r (pre ++ [c])
  rw [show ((pre ++ [c]).length : Int) = (pre.length : Int) + 1 by simp, List.append_assoc, List.singleton_append, List.append_assoc, List.singleton_append] at this
  rw [this, List.replicate_succ]
theorem setLoop2 {α β X : Type} {c : α} {d : β} {body : Int → List α × List β → Option ((List α × List β) ⊕ X)} (h : ∀ (pre r : List α) x (pre' r' : List β) x', pre.length = pre'.length → body (pre.length : Int) (pre ++ x :: r, pre' ++ x' :: r') = some (.inl (pre ++ c :: r, pre' ++ d :: r'))) :
  ∀ (suf : List α) (suf' : List β) (pre : List α) (pre' : List β), suf.length = suf'.length → pre.length = pre'.length → forN body suf.length (pre.length : Int) (pre ++ suf, pre' ++ suf') = some (.inl (pre ++ List.replicate suf.length c, pre' ++ List.replicate suf.length d))
 | [], [], pre, pre', _, _ => by simp [forN]
 | [], x :: r, _, _, e, _ => by simp at e
 | x :: r, [], _, _, e, _ => by simp at e
 | x :: r, x' :: r', pre, pre', e, e' => by
  rw [List.length_cons, forN_inl (h pre r x pre' r' x' e')]
  have := setLoop2 h r r' (pre ++ [c]) (pre' ++ [d]) (by simpa using e) (by simp [e'])
  rw [show ((pre ++ [c]).length : Int) = (pre.length : Int) + 1 by simp, List.append_assoc, List.singleton_append, List.append_assoc, List.singleton_append, List.append_assoc, List.singleton_append, List.append_assoc, List.singleton_append] at this
  rw [this, List.replicate_succ, List.replicate_succ]
theorem set_mid {α : Type} (pre r : List α) (x c : α) : (pre ++ x :: r).set ((pre.length : Nat) : Int).toNat c = pre ++ c :: r := by
 rw [Int.toNat_natCast, List.set_append_right _ _ (Nat.le_refl _)]
 simp
theorem colours_both {u : Unit_} {k : Int} {c : Code_} (hck : COk u k c) {most : Int} (m0 : 1 ≤ most) (m1 : most ≤ 16) {R : Int → Int → Prop} {out : List (MapO Bool)} {t : List (List Bool)} (o1 : impl_clashing c = some (List.map MapO.toS out)) (o2 : InvO c.regs.toNat out R) (t2 : InvT c.regs.toNat t R) :
  ∃ r, impl_coloured c most = some r ∧ spec_l21Colours t most = some r ∧ r.length = c.regs.toNat ∧ ∀ x ∈ r, -1 ≤ x ∧ x < most := by
 have hregs := hck.regs
 have hn : c.regs.toNat ≤ 300 := by omega
 have htl := t2.1
 obtain ⟨on', st, b, s1, s2, s3, s4, s5⟩ := stack_both o2 t2 hn c.regs.toNat (List.replicate c.regs.toNat false) [] 0 (by simp) (by simp) (by simp; omega) (by simp)
 have s4 : st.length = c.regs.toNat := by simpa using s4
 obtain ⟨r, c1, c2, c3, c4⟩ := cols_both o2 t2 hn m0 m1 s5 (by omega) st.length (List.replicate c.regs.toNat (-1)) (Nat.le_refl _) (by simp) (fun x hx => by rw [(List.mem_replicate.1 hx).2]; omega)
 have hnt : nt (List.replicate c.regs.toNat false) = List.replicate c.regs.toNat true := by unfold nt; simp
 rw [hnt] at s2 s3
 refine ⟨r, ?_, ?_, c3, c4⟩
 ·unfold impl_coloured
  refine bindt o1 ?_
  rw [makeM_ok (by omega) (by omega), Option.bind_some, makeM_ok (by omega) (by omega), Option.bind_some, fitS (by omega), Option.bind_some, show ((c.regs : Int) - 0).toNat = c.regs.toNat by omega]
  refine bindt s1 ?_
  have h3 := setLoop (X := Empty) (c := (-1 : Int)) (body := (fun (i1_3 : Int) (xs1_3 : (List Int)) => (Option.bind (getI xs1_3 i1_3) fun x1_2 => some (.inl (xs1_3.set (i1_3).toNat (-1))) : Option (((List Int)) ⊕ (Empty))))) (fun pre r x => by
   show Option.bind (getI (pre ++ x :: r) (pre.length : Int)) (fun _ => some (Sum.inl ((pre ++ x :: r).set ((pre.length : Nat) : Int).toNat (-1)))) = _
   rw [getI_mid, Option.bind_some, set_mid]) (List.replicate c.regs.toNat (0 : Int)) []
  simp only [List.length_replicate, List.length_nil, List.nil_append] at h3
  rw [Sum.elim_inl, List.length_replicate, show (((c.regs.toNat : Nat) : Int) - 0).toNat = c.regs.toNat by omega]
  refine bindt h3 ?_
  exact bindt c1 rfl
 ·rw [htl, show (((c.regs.toNat : Nat) : Int) - 0).toNat = c.regs.toNat by omega] at c2
  unfold spec_l21Colours
  rw [htl, makeM_ok (by omega) (by omega), Option.bind_some, makeM_ok (by omega) (by omega), Option.bind_some, show (((c.regs.toNat : Nat) : Int) - 0).toNat = c.regs.toNat by omega, Int.toNat_natCast]
  have h3 := setLoop2 (X := Empty) (c := true) (d := (-1 : Int)) (body := (fun (i1_1 : Int) (xs1_1 : (List Bool) × (List Int)) => (Option.bind (getI xs1_1.1 i1_1) fun x1_1 => Option.bind (getI xs1_1.2 i1_1) fun x1_2 => some (.inl ((xs1_1.1.set (i1_1).toNat true), (xs1_1.2.set (i1_1).toNat (-1)))) : Option (((List Bool) × (List Int)) ⊕ (Empty))))) (fun pre r x pre' r' x' e => by
   show Option.bind (getI (pre ++ x :: r) (pre.length : Int)) (fun _ => Option.bind (getI (pre' ++ x' :: r') (pre.length : Int)) fun _ => some (Sum.inl ((pre ++ x :: r).set ((pre.length : Nat) : Int).toNat true, (pre' ++ x' :: r').set ((pre.length : Nat) : Int).toNat (-1)))) = _
   rw [getI_mid, Option.bind_some, set_mid, e, getI_mid, Option.bind_some, set_mid]) (List.replicate c.regs.toNat false) (List.replicate c.regs.toNat (0 : Int)) [] [] (by simp) rfl
  simp only [List.length_replicate, List.length_nil, List.nil_append] at h3
  refine bindt h3 ?_
  refine bindt s2 ?_
  refine bindt (bindt s3 rfl) ?_
  exact bindt (bindt c2 rfl) rfl
theorem in16 (most : Int) : impl_within most 1 16 = some (decide (1 ≤ most) && decide (most ≤ 16)) ∧ spec_l1In most 1 16 = some (decide (1 ≤ most) && decide (most ≤ 16)) := by
 unfold impl_within spec_l1In
 by_cases h : 1 ≤ most <;> simp [h]
end Unt
end Go.Wk
namespace Go.Wk
open Go
namespace Unt
set_option maxRecDepth 10000
theorem insert_ok {l : List Int} {n : Int} (hs : l.Pairwise (· < ·)) (hl : l.length ≤ 1048576) : ∃ l', spec_l7Insert l n = some l' ∧ l'.Pairwise (· < ·) ∧ (∀ x, x ∈ l' ↔ x = n ∨ x ∈ l) ∧ l'.length ≤ l.length + 1 := by
 unfold spec_l7Insert
 obtain ⟨q, e1, e2, e3, e4, e5⟩ := loopM_law (b1 := (fun (xs2_1 : Int) => (Option.bind (if decide (xs2_1 < ((l.length : Int))) then Option.bind (getI l xs2_1) fun x3_1 => some (decide (x3_1 < n)) else some false : Option (Bool)) fun s2_1 => if s2_1 then some (.inl (w64 (xs2_1 + 1))) else some (.inr xs2_1) : Option ((Int) ⊕ (Int))))) (fun i : Int => 0 ≤ i ∧ i ≤ (l.length : Int) ∧ ∀ (k : Nat) (x : Int), (k : Int) < i → l[k]? = some x → x < n) (fun i : Int => 0 ≤ i ∧ i ≤ (l.length : Int) ∧ (∀ (k : Nat) (x : Int), (k : Int) < i → l[k]? = some x → x < n) ∧ ∀ x, l[i.toNat]? = some x → n ≤ x) (fun i => ((l.length : Int) - i).toNat) (fun i hi => by
  obtain ⟨h1, h2, h3⟩ := hi
  by_cases e : i < (l.length : Int)
  ·obtain ⟨x, hx, hx2, _⟩ := getI_in (xs := l) (j := i) h1 e
   by_cases e2 : x < n
   ·left
    have hw : w64 (i + 1) = i + 1 := w64_id (by omega) (by omega)
    refine ⟨i + 1, ?_, ⟨by omega, by omega, fun k y hk hy => ?_⟩, by omega⟩
    ·rw [if_pos (by simpa using e), hx, Option.bind_some, Option.bind_some, if_pos (by simpa using e2), hw]
    ·by_cases q : (k : Int) < i
     ·exact h3 k y q hy
     ·have : k = i.toNat := by omega
      subst this
      rw [hx2] at hy; cases hy; exact e2
   ·right
    refine ⟨i, ?_, h1, h2, h3, fun y hy => ?_⟩
    ·rw [if_pos (by simpa using e), hx, Option.bind_some, Option.bind_some, if_neg (by simpa using e2)]
    ·rw [hx2] at hy; cases hy; omega
  ·right
   refine ⟨i, by rw [if_neg (by simpa using e)]; rfl, h1, h2, h3, fun y hy => ?_⟩
   have := (List.getElem?_eq_some_iff.1 hy).1
   omega) (l.length + 1) 0 ⟨Int.le_refl _, by omega, fun k x hk => by omega⟩ (by omega)
 have hget := List.pairwise_iff_getElem.1 hs
 have hnew : (∀ x, l[q.toNat]? = some x → x ≠ n) → (l.take q.toNat ++ [n] ++ l.drop q.toNat).Pairwise (· < ·) := fun hne => by
  have h1 : ∀ x ∈ l.take q.toNat, x < n := fun x hx => by
   obtain ⟨k, hk, hk2⟩ := List.getElem_of_mem hx
   rw [List.length_take] at hk
   exact e4 k x (by omega) (by rw [← hk2, List.getElem_take, List.getElem?_eq_getElem])
  have h2 : ∀ x ∈ l.drop q.toNat, n < x := fun x hx => by
   obtain ⟨k, hk, hk2⟩ := List.getElem_of_mem hx
   rw [List.length_drop] at hk
   rw [List.getElem_drop] at hk2
   have h0 := e5 (l[q.toNat]'(by omega)) (List.getElem?_eq_getElem _)
   have h00 := hne (l[q.toNat]'(by omega)) (List.getElem?_eq_getElem _)
   by_cases k0 : k = 0
   ·subst k0
    have : l[q.toNat]'(by omega) = x := by rw [← hk2]; congr 1
    omega
   ·have := hget q.toNat (q.toNat + k) (by omega) (by omega) (by omega)
    omega
  rw [List.append_assoc]
  refine List.pairwise_append.2 ⟨hs.sublist (List.take_sublist _ _), List.pairwise_cons.2 ⟨h2, hs.sublist (List.drop_sublist _ _)⟩, fun a ha b hb => ?_⟩
  rcases List.mem_cons.1 hb with e | e
  ·rw [e]; exact h1 a ha
  ·have := h1 a ha; have := h2 b e; omega
 have hmem : ∀ x, x ∈ l.take q.toNat ++ [n] ++ l.drop q.toNat ↔ x = n ∨ x ∈ l := fun x => by
  have : x ∈ l ↔ x ∈ l.take q.toNat ∨ x ∈ l.drop q.toNat := by rw [← List.mem_append, List.take_append_drop]
  rw [this]
  simp only [List.mem_append, List.mem_singleton]
  constructor
  ·rintro ((h | h) | h)
   ·exact .inr (.inl h)
   ·exact .inl h
   ·exact .inr (.inr h)
  ·rintro (h | h | h)
   ·exact .inl (.inr h)
   ·exact .inl (.inl h)
   ·exact .inr h
 have happ : (∃ l', Option.bind (subM l 0 q) (fun x0_1 => Option.bind (appM ([] : List Int) x0_1) fun ys0_1 => Option.bind (subM l q (l.length : Int)) fun x0_2 => Option.bind (appM ys0_1 ([n] : List Int)) fun ys0_2 => Option.bind (appM ys0_2 x0_2) fun ys0_3 => some ys0_3) = some l' ∧ l' = l.take q.toNat ++ [n] ++ l.drop q.toNat) := by
  rw [show subM l 0 q = some (l.take q.toNat) from subM_some.2 ⟨⟨Int.le_refl _, e2, e3⟩, by simp⟩, Option.bind_some, appM_ok (by simp; omega), Option.bind_some, show subM l q (l.length : Int) = some (l.drop q.toNat) from subM_some.2 ⟨⟨e2, e3, Int.le_refl _⟩, by simp⟩, Option.bind_some, List.nil_append, appM_ok (by simp; omega), Option.bind_some, appM_ok (by simp; omega)]
  exact ⟨_, rfl, rfl⟩
 by_cases e : q < (l.length : Int)
 ·obtain ⟨x, hx, hx2, hxm⟩ := getI_in (xs := l) (j := q) e2 e
  by_cases ex : x = n
  ·refine ⟨l, bindt (a := q) (bindt e1 rfl) ?_, hs, fun y => ?_, by omega⟩
   ·rw [if_pos (by simpa using e), hx, Option.bind_some, Option.bind_some, if_pos (by simpa using ex)]
   ·subst ex
    exact ⟨.inr, fun h => h.elim (fun h => h ▸ hxm) id⟩
  ·obtain ⟨l', g1, g2⟩ := happ
   refine ⟨l', bindt (a := q) (bindt e1 rfl) ?_, by rw [g2]; exact hnew (fun y hy => by rw [hx2] at hy; cases hy; exact ex), by rw [g2]; exact hmem, by rw [g2]; simp; omega⟩
   rw [if_pos (by simpa using e), hx, Option.bind_some, Option.bind_some, if_neg (by simpa using ex)]
   exact g1
 ·obtain ⟨l', g1, g2⟩ := happ
  refine ⟨l', bindt (a := q) (bindt e1 rfl) ?_, by rw [g2]; exact hnew (fun y hy => by have := (List.getElem?_eq_some_iff.1 hy).1; omega), by rw [g2]; exact hmem, by rw [g2]; simp; omega⟩
  rw [if_neg (by simpa using e)]
  exact g1
end Unt
end Go.Wk
namespace Go.Wk
open Go
namespace Unt
theorem blkOf {c : Code_} {x : Block_} (h : x ∈ c.blocks) : ∃ b, getI c.blocks b = some x := by
 obtain ⟨n, hn⟩ := List.getElem?_of_mem h
 exact ⟨(n : Int), getI_some.2 ⟨by omega, by simpa using hn⟩⟩
end Unt
end Go.Wk
namespace Go.Wk
open Go
namespace Unt
set_option maxRecDepth 10000
theorem sums_boundU {α : Type} {f : α → Nat} {B : Nat} : ∀ {l : List α}, (∀ x ∈ l, f x ≤ B) → sums f l ≤ l.length * B
 | [], _ => Nat.zero_le _
 | x :: l, h => by
  have h1 := h x (by simp)
  have h2 := sums_boundU (l := l) fun y hy => h y (by simp [hy])
  simp only [sums, List.length_cons, Nat.add_mul, Nat.one_mul]
  omega
theorem sums_memU {α : Type} {f : α → Nat} {x : α} : ∀ {l : List α}, x ∈ l → f x ≤ sums f l
 | y :: l, h => by
  rcases List.mem_cons.1 h with e | e
  ·subst e; simp only [sums]; omega
  ·have := sums_memU (f := f) e
   simp only [sums]; omega
theorem argsU {u : Unit_} (hu : Ok u) {k : Int} {c : Code_} {y : Ins_} (h : insB u k c y = true) : y.args.length ≤ 3 := by
 have hi := iok h
 by_cases e : y.op = 14
 ·have h1 := (hi.call e).2.2
  unfold parOf at h1
  split at h1
  ·rename_i c' hc'
   have := (hu.cok hc').params
   omega
  ·omega
 ·have h1 := hi.plain e
  unfold nargs at h1
  split at h1
  ·omega
  ·split at h1 <;> omega
theorem valid_w {u : Unit_} (hu : Ok u) : (wCodeS u.codes : Int) ≤ 900000000 := by
 have hcnt : cntU u ≤ 800 := by
  have := hu.valid
  simp only [unitB, Bool.and_eq_true, decide_eq_true_eq] at this
  exact this.2.2
 have hc : ∀ c ∈ u.codes, wCode c ≤ 200000000 := fun c hcm => by
  obtain ⟨n, hn⟩ := List.getElem?_of_mem hcm
  have hck := hu.cok (getI_some.2 ⟨by omega, by simpa using hn⟩ : getI u.codes (n : Int) = some c)
  have hnb := hck.nb
  have hb : ∀ x ∈ c.blocks, wBlock x ≤ 1000000 := fun x hx => by
   obtain ⟨b, hb⟩ := blkOf hx
   have hbo := hck.bok hb
   have h1 : cntB x ≤ cntC c := sums_memU (f := cntB) hx
   have h2 : cntC c ≤ cntU u := sums_memU (f := cntC) hcm
   unfold cntB at h1
   have p1 : wPhiS x.phis ≤ x.phis.length * 161 := sums_boundU fun f hf => by
    have := (hbo.phis f hf).2.2.1
    have := predsL_len c b
    unfold wPhi; omega
   have p2 : wInsS x.ins ≤ x.ins.length * 6 := sums_boundU fun y hy => by
    have := argsU hu (hbo.ins y hy)
    unfold wIns; omega
   have p3 := hbo.jump
   unfold wBlock
   omega
  have := sums_boundU (f := wBlock) hb
  unfold wCode wBlockS
  have h3 : c.blocks.length * 1000000 ≤ 160 * 1000000 := Nat.mul_le_mul_right _ (by omega)
  omega
 have h4 := hu.codes
 have := sums_boundU (f := wCode) hc
 have h5 : u.codes.length * 200000000 ≤ 4 * 200000000 := Nat.mul_le_mul_right _ (by omega)
 unfold wCodeS
 omega
end Unt
end Go.Wk
namespace Go.Wk
open Go
namespace Unt
set_option maxRecDepth 10000
theorem used_ok (r : List Int) (hl : r.length ≤ 1000) : ∃ n : Int, impl_ColoursUsed r = some n ∧ spec_ColoursUsed r = some n ∧ 0 ≤ n ∧ n ≤ (r.length : Int) := by
 rcases forN_list (xs := r) (body := (fun (i1_1 : Int) (xs1_1 : (MapS Bool)) => (Option.bind (Option.bind (getI r i1_1) fun x2_1 => Option.bind (impl_ColoursUsed_1 x2_1) fun r2_1 => Option.bind (if r2_1 then some (MapS.ins xs1_1 x2_1 true) else some xs1_1 : Option ((MapS Bool))) fun s2_1 => some s2_1 : Option ((MapS Bool))) fun s1_1 => some (.inl s1_1) : Option (((MapS Bool)) ⊕ (Empty))))) (s := (MapS.mk0 : MapS Bool)) (fun l m => ∀ c, m.Has c ↔ c ∈ l ∧ 0 ≤ c) (fun _ => False) (fun c => ⟨fun h => absurd h MapS.has_mk0, fun h => by simp at h⟩) (fun l x q m he hm => by
   left
   have hx : getI r (l.length : Int) = some x := by rw [he, getI_mid]
   refine ⟨if 0 ≤ x then m.ins x true else m, ?_, fun c => ?_⟩
   ·rw [hx, Option.bind_some]
    show Option.bind (Option.bind (some (decide (0 ≤ x))) _) _ = _
    rw [Option.bind_some]
    by_cases h : 0 ≤ x
    ·simp [h]
    ·simp [h]
   ·by_cases h : 0 ≤ x
    ·rw [if_pos h, MapS.has_ins, hm, List.mem_append, List.mem_singleton]
     constructor
     ·rintro (e | ⟨a, b⟩)
      ·subst e; exact ⟨.inr rfl, h⟩
      ·exact ⟨.inl a, b⟩
     ·rintro ⟨a | a, b⟩
      ·exact .inr ⟨a, b⟩
      ·exact .inl a
    ·rw [if_neg h, hm, List.mem_append, List.mem_singleton]
     constructor
     ·rintro ⟨a, b⟩; exact ⟨.inl a, b⟩
     ·rintro ⟨a | a, b⟩
      ·exact ⟨a, b⟩
      ·subst a; exact absurd b h) with ⟨m, h1, h2⟩ | ⟨_, _, h⟩
 rotate_left
 ·exact h.elim
 rcases forN_list (xs := r) (body := (fun (i1_1 : Int) (xs1_1 : (List Int)) => (Option.bind (Option.bind (getI r i1_1) fun x2_1 => Option.bind (if decide ((decide (x2_1 < 0)) = false) then Option.bind (spec_l7Insert xs1_1 x2_1) fun r3_1 => some r3_1 else some xs1_1 : Option ((List Int))) fun s2_1 => some s2_1 : Option ((List Int))) fun s1_1 => some (.inl s1_1) : Option (((List Int)) ⊕ (Empty))))) (s := ([] : List Int)) (fun l s => s.Pairwise (· < ·) ∧ s.length ≤ l.length ∧ ∀ c, c ∈ s ↔ c ∈ l ∧ 0 ≤ c) (fun _ => False) ⟨.nil, Nat.le_refl _, fun c => by simp⟩ (fun l x q s he hs => by
   left
   obtain ⟨s1, s2, s3⟩ := hs
   have hx : getI r (l.length : Int) = some x := by rw [he, getI_mid]
   have hll : l.length ≤ 1000 := by rw [he] at hl; simp at hl; omega
   by_cases h : 0 ≤ x
   ·obtain ⟨s', p1, p2, p3, p4⟩ := insert_ok (n := x) s1 (by omega)
    refine ⟨s', ?_, p2, by simp; omega, fun c => ?_⟩
    ·rw [hx, Option.bind_some]
     have e : decide ((decide (x < 0)) = false) = true := by simp; omega
     rw [if_pos e, p1]
     rfl
    ·rw [p3, s3, List.mem_append, List.mem_singleton]
     constructor
     ·rintro (e | ⟨a, b⟩)
      ·subst e; exact ⟨.inr rfl, h⟩
      ·exact ⟨.inl a, b⟩
     ·rintro ⟨a | a, b⟩
      ·exact .inr ⟨a, b⟩
      ·exact .inl a
   ·refine ⟨s, ?_, s1, by simp; omega, fun c => ?_⟩
    ·rw [hx, Option.bind_some]
     have e : ¬ decide ((decide (x < 0)) = false) = true := by simp; omega
     rw [if_neg e]
     rfl
    ·rw [s3, List.mem_append, List.mem_singleton]
     constructor
     ·rintro ⟨a, b⟩; exact ⟨.inl a, b⟩
     ·rintro ⟨a | a, b⟩
      ·exact ⟨a, b⟩
      ·subst a; exact absurd b h) with ⟨s, g1, g2, g3, g4⟩ | ⟨_, _, h⟩
 rotate_left
 ·exact h.elim
 have e : m.keys = s := sorted_eq (MapS.keys_sorted m) g2 fun c => (h2 c).trans (g4 c).symm
 refine ⟨(s.length : Int), ?_, ?_, by omega, by omega⟩
 ·unfold impl_ColoursUsed impl_different
  refine bindt (bindt h1 ?_) rfl
  show some m.len = _
  rw [MapS.len_keys, e]
 ·unfold spec_ColoursUsed spec_l21Kinds
  exact bindt (bindt g1 rfl) rfl
theorem regs_ok {u : Unit_} {k : Int} {c : Code_} (hck : COk u k c) : ∀ x ∈ c.blocks, RegsB (fun r => 0 ≤ r ∧ r < c.regs) x := fun x hx => by
 obtain ⟨b, hb⟩ := blkOf hx
 have hbo := hck.bok hb
 refine ⟨fun p hp => ⟨(hbo.phis p hp).2.1, (hbo.phis p hp).2.2.2⟩, fun y hy => ?_, fun hj => ?_, ?_⟩
 ·have hi := iok (hbo.ins y hy)
  refine ⟨fun hm => ?_, hi.args⟩
  refine hi.to (fun e => ?_) fun e => ?_
  ·rw [e] at hm; exact absurd hm (by decide)
  ·rw [e] at hm; exact absurd hm (by decide)
 ·rcases hbo.jump with h | h | h
  ·exact absurd h.1 hj
  ·exact h.2.2
  ·exact h.2.2
 ·rcases hbo.jump with h | h | h
  ·exact .inl h.1
  ·exact .inr (.inl h.1)
  ·exact .inr (.inr h.1)
def paint (c : Code_) (r : List Int) (head : List Ins_) (n : Int) : Code_ :=
 let bl := c.blocks.map (mapBlk fun x => c.params + at_ r x)
 ⟨c.params, c.params + n, match bl with
  | [] => []
  | x :: q => { x with ins := head ++ x.ins } :: q⟩
theorem recoloured_both {u : Unit_} (hs : Small u) (hfit : ∀ c ∈ u.codes, ∀ b ∈ c.blocks, SmB b) {k : Int} (hp : plB u k = true) {most : Int} (m0 : 1 ≤ most) (m1 : most ≤ 16) : ∃ c t r, getI u.codes k = some c ∧ spec_l21Table c = some t ∧ spec_l21Colours t most = some r ∧ (r.length : Int) = c.regs ∧
  ((-1 ∈ r ∧ impl_recoloured c most = some (⟨0, 0, []⟩, false)) ∨ ((∀ x ∈ r, 0 ≤ x) ∧ ∃ c', impl_recoloured c most = some (c', true) ∧ spec_l21Paint c r = some c' ∧ ∀ b ∈ c'.blocks, ∃ b0 ∈ c.blocks, b.phis.length = b0.phis.length ∧ b.ins.length ≤ b0.ins.length + 3 ∧ b.next_.length = b0.next_.length)) := by
 obtain ⟨c, hc, hck, R, out, t, o1, o2, t1, t2⟩ := clash_both hs hp
 obtain ⟨r, h1, h2, h3, h4⟩ := colours_both hck m0 m1 o1 o2 t2
 have hregs := hck.regs
 have hpar := hck.params
 have hnb := hck.nb
 have hcm := List.mem_of_getElem? (getI_some.1 hc).2
 have hrl : (r.length : Int) = c.regs := by omega
 refine ⟨c, t, r, hc, t1, h2, hrl, ?_⟩
 by_cases hneg : -1 ∈ r
 ·left
  refine ⟨hneg, ?_⟩
  unfold impl_recoloured
  refine bindt h1 (bindt (contains_int r (-1)) ?_)
  rw [decide_eq_true hneg]
  rfl
 right
 have hpos : ∀ x ∈ r, 0 ≤ x := fun x hx => by
  have := h4 x hx
  rcases Int.lt_or_eq_of_le this.1 with h | h
  ·omega
  ·exact absurd (h ▸ hx) hneg
 refine ⟨hpos, ?_⟩
 obtain ⟨n, n1, n2, n3, n4⟩ := used_ok r (by omega)
 obtain ⟨c2, hc2, _, _, _, ins, preds, li, lo, l1, g1, l2, g2, l3, l4, l5⟩ := live_both hs (k := k) (by simp only [plB, Bool.and_eq_true] at hp; exact hp.1)
 rw [hc] at hc2; cases hc2
 obtain ⟨x0, hx0, _⟩ := getI_in (xs := c.blocks) (j := 0) (Int.le_refl _) (by omega)
 obtain ⟨mm, hm0, _⟩ := getI_in (xs := ins) (j := 0) (Int.le_refl _) (by rw [l2.len]; omega)
 obtain ⟨l0, hl0, _⟩ := getI_in (xs := li) (j := 0) (Int.le_refl _) (by rw [g2.li]; omega)
 have hl0r := g2.ri 0 l0 hl0
 have hsame : ∀ q, mm.Has q ↔ HasB l0 q := fun q => by
  have := l3 0 q
  unfold insH insL at this
  rw [hm0, hl0] at this
  simpa using this
 have hmr : ∀ q, mm.Has q → 0 ≤ q ∧ q < c.regs := fun q hq => l2.reg 0 q ⟨mm, hm0, hq⟩
 have hkl : mm.keys.length ≤ 300 := by
  have := MapS.len_le (m := mm) (n := c.regs.toNat) fun q hq => by have := hmr q hq; omega
  omega
 have hat : ∀ x, 0 ≤ x → x < c.regs → getI r x = some (at_ r x) ∧ 0 ≤ at_ r x ∧ at_ r x < most := fun x x0 x1 => by
  have h := at_get (l := r) x0 (by omega)
  have hmem := List.mem_of_getElem? (getI_some.1 h).2
  exact ⟨h, hpos _ hmem, (h4 _ hmem).2⟩
 have hf : ∀ x, (0 ≤ x ∧ x < c.regs) → (fun y0 => impl_recoloured_1 y0 c r) x = some (c.params + at_ r x) := fun x hx => by
  obtain ⟨q1, q2, q3⟩ := hat x hx.1 hx.2
  show Option.bind (getI r x) _ = _
  rw [q1, Option.bind_some, w64_id (by omega) (by omega)]
 have hRB := regs_ok hck
 have hto : forN (fun (i1_1 : Int) (xs1_1 : (List Int)) => (Option.bind (getI r i1_1) fun x1_1 => Option.bind (appM xs1_1 ([w64 (c.params + x1_1)] : List Int)) fun ys1_1 => some (.inl ys1_1) : Option (((List Int)) ⊕ (Empty)))) ((c.regs : Int) - 0).toNat 0 ([] : List Int) = some (.inl (r.map fun y => c.params + y)) := by
  have h := mapLoop (xs := r) (body := (fun (i1_1 : Int) (xs1_1 : (List Int)) => (Option.bind (getI r i1_1) fun x1_1 => Option.bind (appM xs1_1 ([w64 (c.params + x1_1)] : List Int)) fun ys1_1 => some (.inl ys1_1) : Option (((List Int)) ⊕ (Empty))))) (fun y => c.params + y) (by omega) (fun l x q s he hss => by
   have hx := h4 x (by rw [he]; simp)
   rw [he, getI_mid, Option.bind_some, w64_id (by omega) (by omega), appM_ok (by simpa using hss)]; rfl)
  rw [hrl] at h
  exact h
 have htoG : ∀ x, (0 ≤ x ∧ x < c.regs) → getI (r.map fun y => c.params + y) x = some (c.params + at_ r x) := fun x hx => by
  obtain ⟨q1, _⟩ := hat x hx.1 hx.2
  have := (getI_some.1 q1).2
  exact getI_some.2 ⟨hx.1, by rw [List.getElem?_map, this]; rfl⟩
 have hargs : ∀ x ∈ c.blocks, (∀ p ∈ x.phis, p.args.length ≤ 1000000) ∧ ∀ p ∈ x.ins, p.args.length ≤ 1000000 := fun x hx => by
  obtain ⟨b, hb⟩ := blkOf hx
  have hbo := hck.bok hb
  refine ⟨fun p hp => ?_, fun y hy => ?_⟩
  ·have h1 := (hbo.phis p hp).2.2.1
   have := predsL_len c b
   omega
  ·have hu : Ok u := ⟨atB_unit (by simp only [plB, Bool.and_eq_true] at hp; exact hp.1), hs⟩
   have := argsU hu (hbo.ins y hy)
   omega
 let mk : Int → Ins_ := fun x => ⟨2, c.params + at_ r x, [x], 0⟩
 have hheadI := filtLoop (X := Empty) (body := (fun (i1_1 : Int) (xs1_1 : (List Ins_)) => (Option.bind (Option.bind (getI mm.keys i1_1) fun x2_1 => Option.bind (if decide (x2_1 < c.params) then Option.bind (getI r x2_1) fun x3_1 => Option.bind (appM xs1_1 ([(⟨2, w64 (c.params + x3_1), ([x2_1] : List Int), 0⟩ : Ins_)] : List Ins_)) fun ys3_1 => some ys3_1 else some xs1_1 : Option ((List Ins_))) fun s2_1 => some s2_1 : Option ((List Ins_))) fun s1_1 => some (.inl s1_1) : Option (((List Ins_)) ⊕ (Empty))))) (xs := mm.keys) (fun x => decide (x < c.params)) mk (fun l x q s he hss => by
  have hx : mm.Has x := by show x ∈ mm.keys; rw [he]; simp
  have hxr := hmr x hx
  obtain ⟨q1, q2, q3⟩ := hat x hxr.1 hxr.2
  rw [he, getI_app, Option.bind_some]
  by_cases e : x < c.params
  ·rw [decide_eq_true e, if_pos rfl, if_pos rfl, q1, Option.bind_some, appM_ok (by simp; omega), w64_id (by omega) (by omega)]; rfl
  ·rw [decide_eq_false e]; rfl) mm.keys [] [] rfl (by simp; omega)
 have hheadS := intLoop (X := Empty) (body := (fun (i1_2 : Int) (xs1_2 : (List Ins_)) => (Option.bind (Option.bind (getI l0 i1_2) fun x2_1 => Option.bind (if x2_1 then Option.bind (getI r i1_2) fun x3_1 => Option.bind (appM xs1_2 ([(⟨2, w64 (c.params + x3_1), ([i1_2] : List Int), 0⟩ : Ins_)] : List Ins_)) fun ys3_1 => some ys3_1 else some xs1_2 : Option ((List Ins_))) fun s2_1 => some s2_1 : Option ((List Ins_))) fun s1_1 => some (.inl s1_1) : Option (((List Ins_)) ⊕ (Empty))))) (fun x => decide (HasB l0 x)) mk c.params.toNat 0 [] (fun j s j0 j1 hss => by
  obtain ⟨v, hv, hv2⟩ := hasB_at (l := l0) (r := j) j0 (by omega)
  obtain ⟨q1, q2, q3⟩ := hat j j0 (by omega)
  rw [hv, Option.bind_some]
  cases v with
  | false =>
   have : ¬ HasB l0 j := fun h => by have := hv2.2 h; cases this
   simp [this]
  | true =>
   rw [if_pos rfl, q1, Option.bind_some, appM_ok (by simp; omega), w64_id (by omega) (by omega)]
   simp [hv2.1 rfl]
   rfl) (by simp; omega)
 have hfl : mm.keys.filter (fun x => decide (x < c.params)) = (ints 0 c.params.toNat).filter fun x => decide (HasB l0 x) := by
  refine sorted_eq (List.Pairwise.filter _ (MapS.keys_sorted mm)) (List.Pairwise.filter _ ints_sorted) fun q => ?_
  rw [List.mem_filter, List.mem_filter, mem_ints]
  simp only [decide_eq_true_eq]
  constructor
  ·rintro ⟨a, b⟩
   have := hmr q a
   exact ⟨by omega, (hsame q).1 a⟩
  ·rintro ⟨a, b⟩
   exact ⟨(hsame q).2 b, by omega⟩
 have hhl : ((mm.keys.filter (fun x => decide (x < c.params))).map mk).length ≤ 3 := by
  rw [List.length_map, hfl]
  have := List.length_filter_le (fun x => decide (HasB l0 x)) (ints 0 c.params.toNat)
  rw [ints_len] at this
  omega
 obtain ⟨y0, ys, hbl⟩ : ∃ y0 ys, c.blocks = y0 :: ys := by
  cases e : c.blocks with
  | nil => rw [e] at hnb; simp at hnb
  | cons a b => exact ⟨a, b, rfl⟩
 have hy0 : y0 ∈ c.blocks := by rw [hbl]; simp
 have hsmb := hfit c hcm
 have hblm : c.blocks.map (mapBlk fun x => c.params + at_ r x) = mapBlk (fun x => c.params + at_ r x) y0 :: ys.map (mapBlk fun x => c.params + at_ r x) := by rw [hbl]; rfl
 obtain ⟨G, hG⟩ : ∃ G : Int → Int, ∀ x, c.params + at_ r x = G x := ⟨fun x => c.params + at_ r x, fun _ => rfl⟩
 have hG2 : (fun x => c.params + at_ r x) = G := funext hG
 simp only [hG] at hf htoG
 rw [hG2] at hblm
 generalize hH : (mm.keys.filter (fun x => decide (x < c.params))).map mk = H at hheadI hhl
 rw [← hfl, hH] at hheadS
 rw [List.nil_append] at hheadI hheadS
 have hinsl : (mapBlk G y0).ins.length = y0.ins.length := by simp [mapBlk]
 have hy0s := (hsmb y0 hy0).ins
 refine ⟨⟨c.params, c.params + n, { mapBlk G y0 with ins := H ++ (mapBlk G y0).ins } :: ys.map (mapBlk G)⟩, ?_, ?_, fun b hb => ?_⟩
 ·unfold impl_recoloured
  refine bindt h1 (bindt (contains_int r (-1)) ?_)
  rw [decide_eq_false hneg]
  simp only [Bool.false_eq_true, if_false]
  refine bindt (cloneCode_ok c (by omega) hsmb) (bindt n1 ?_)
  refine bindt (each_impl hf (⟨c.params, w64 (c.params + n), c.blocks⟩ : Code_) hRB) ?_
  refine bindt l1 (bindt hm0 ?_)
  have hkeys : impl_sortedKeys_bool mm = some mm.keys := by
   show appM [] mm.keys = _
   rw [appM_ok (by simp; omega)]; rfl
  refine bindt hkeys ?_
  rw [show ((mm.keys.length : Int) - 0).toNat = mm.keys.length by omega]
  refine bindt hheadI ?_
  rw [Sum.elim_inl]
  show Option.bind (getI (c.blocks.map (mapBlk G)) 0) _ = _
  rw [hblm]
  refine bindt (a := mapBlk G y0) rfl ?_
  rw [appM_ok (by rw [hinsl]; omega), Option.bind_some, w64_id (by omega) (by omega)]
  rfl
 ·unfold spec_l21Paint
  rw [fitS (by omega), Option.bind_some]
  refine bindt hto ?_
  rw [Sum.elim_inl]
  refine bindt (each_spec htoG c (by omega) hsmb hRB hargs) (bindt g1 (bindt hl0 ?_))
  rw [fitS (by omega), Option.bind_some, show ((c.params : Int) - 0).toNat = c.params.toNat by omega]
  refine bindt hheadS ?_
  rw [Sum.elim_inl]
  show Option.bind (getI (c.blocks.map (mapBlk G)) 0) _ = _
  rw [hblm]
  refine bindt (a := mapBlk G y0) rfl ?_
  rw [appM_ok (by rw [hinsl]; omega), Option.bind_some]
  refine bindt n2 ?_
  rw [w64_id (by omega) (by omega)]
  rfl
 ·rcases List.mem_cons.1 hb with e | e
  ·refine ⟨y0, hy0, ?_⟩
   rw [e]
   simp [mapBlk]
   omega
  ·obtain ⟨z, hz, rfl⟩ := List.mem_map.1 e
   refine ⟨z, by rw [hbl]; simp [hz], by simp [mapBlk], by simp [mapBlk], rfl⟩
end Unt
end Go.Wk
namespace Go.Wk
open Go
namespace Unt
set_option maxRecDepth 10000
theorem few_ins {u : Unit_} (hu : Ok u) {c : Code_} (hc : c ∈ u.codes) {x : Block_} (hx : x ∈ c.blocks) : x.phis.length ≤ 800 ∧ x.ins.length ≤ 800 ∧ x.next_.length ≤ 2 := by
 have hcnt : cntU u ≤ 800 := by
  have := hu.valid
  simp only [unitB, Bool.and_eq_true, decide_eq_true_eq] at this
  exact this.2.2
 obtain ⟨n, hn⟩ := List.getElem?_of_mem hc
 have hck := hu.cok (getI_some.2 ⟨by omega, by simpa using hn⟩ : getI u.codes (n : Int) = some c)
 obtain ⟨b, hb⟩ := blkOf hx
 have hbo := hck.bok hb
 have h1 : cntB x ≤ cntC c := sums_memU (f := cntB) hx
 have h2 : cntC c ≤ cntU u := sums_memU (f := cntC) hc
 unfold cntB at h1
 have := hbo.jump
 omega
theorem colourUnit_ok (u : Unit_) (hf : Fits u) (most : Int) : ∃ r b, impl_ColourUnit u most = some (r, b) ∧ spec_ColourUnit u most = some (r, b) ∧ (wCodeS r.codes : Int) ≤ 900000000 := by
 have hs := hf.small
 unfold impl_ColourUnit spec_ColourUnit
 rw [plain_ok hs, specValid_ok u hs, (in16 most).1, (in16 most).2, Option.bind_some, Option.bind_some]
 cases hv : unitB u with
 | false =>
  have : plB u 0 = false := by
   rw [Bool.eq_false_iff]
   intro h
   simp only [plB, Bool.and_eq_true] at h
   rw [atB_unit h.1] at hv; cases hv
  rw [this]
  exact ⟨⟨[]⟩, false, rfl, rfl, by decide⟩
 | true =>
 have hu : Ok u := ⟨hv, hs⟩
 have hcodes := hu.codes
 have hat : ∀ k : Int, 0 ≤ k → k < (u.codes.length : Int) → atB u k = true := fun k h0 h1 => by
  simp only [atB, Bool.and_eq_true, inB_iff]
  exact ⟨hv, h0, by omega⟩
 rw [phiCountS_ok hs hv]
 by_cases hphi : phU u = 0
 rotate_left
 ·have : plB u 0 = false := by simp [plB, hphi]
  rw [this]
  refine ⟨⟨[]⟩, false, rfl, ?_, by decide⟩
  have h0 : (0 : Int) < (phU u : Int) := by omega
  refine bindt (a := true) ?_ rfl
  simp only [Bool.not_true, Bool.false_eq_true, if_false, Option.bind_some]
  rw [decide_eq_true h0]; rfl
 have hpl : ∀ k : Int, 0 ≤ k → k < (u.codes.length : Int) → plB u k = true := fun k h0 h1 => by
  unfold plB
  rw [hat k h0 h1, hphi]; rfl
 rw [hpl 0 (by omega) (by omega), hphi]
 by_cases hm : 1 ≤ most ∧ most ≤ 16
 rotate_left
 ·have : (decide (1 ≤ most) && decide (most ≤ 16)) = false := by
   rw [Bool.eq_false_iff]
   intro h
   simp only [Bool.and_eq_true, decide_eq_true_eq] at h
   exact hm h
  rw [this]
  exact ⟨⟨[]⟩, false, rfl, rfl, by decide⟩
 obtain ⟨m0, m1⟩ := hm
 rw [decide_eq_true m0, decide_eq_true m1]
 simp only [Bool.and_self, Bool.not_true, Bool.false_eq_true, if_false, Option.bind_some]
 rw [show decide ((0 : Int) < ((0 : Nat) : Int)) = false from rfl]
 simp only [Bool.false_eq_true, if_false, Option.bind_some]
 have hrec : ∀ (l : List Code_) x r, u.codes = l ++ x :: r → ∃ t q c' b, spec_l21Table x = some t ∧ spec_l21Colours t most = some q ∧ impl_recoloured x most = some (c', b) ∧
   ((b = false ∧ -1 ∈ q) ∨ (b = true ∧ (∀ z ∈ q, 0 ≤ z) ∧ spec_l21Paint x q = some c' ∧ ∀ y ∈ c'.blocks, ∃ b0 ∈ x.blocks, y.phis.length = b0.phis.length ∧ y.ins.length ≤ b0.ins.length + 3 ∧ y.next_.length = b0.next_.length)) := fun l x r he => by
  have hl : (l.length : Int) < (u.codes.length : Int) := by rw [he]; simp; omega
  obtain ⟨c, t, q, h1, h2, h3, _, h5⟩ := recoloured_both hs (fun c hc b hb => hf.smb hc hb) (hpl (l.length : Int) (by omega) hl) m0 m1
  rw [he, getI_mid] at h1
  cases h1
  rcases h5 with ⟨g1, g2⟩ | ⟨g1, c', g2, g3, g4⟩
  ·exact ⟨t, q, _, _, h2, h3, g2, .inl ⟨rfl, g1⟩⟩
  ·exact ⟨t, q, c', _, h2, h3, g2, .inr ⟨rfl, g1, g3, g4⟩⟩
 have himpl : ∃ z, forN (fun i (xs : List Code_ × Bool) => Option.bind (getI u.codes i) fun x => Option.bind (impl_ColourUnit_1 x most xs.2) fun y => Option.bind (appM xs.1 ([y.1] : List Code_)) fun ys => (some (.inl (ys, y.2)) : Option ((List Code_ × Bool) ⊕ Empty))) (((u.codes.length : Int) : Int) - 0).toNat 0 (([] : List Code_), true) = some (.inl z) ∧ z.1 = u.codes.map (fun c => ((impl_recoloured c most).getD (c, false)).1) ∧ z.2 = u.codes.all (fun c => ((impl_recoloured c most).getD (c, false)).2) := by
  rcases forN_list (xs := u.codes) (body := fun i (xs : List Code_ × Bool) => Option.bind (getI u.codes i) fun x => Option.bind (impl_ColourUnit_1 x most xs.2) fun y => Option.bind (appM xs.1 ([y.1] : List Code_)) fun ys => (some (.inl (ys, y.2)) : Option ((List Code_ × Bool) ⊕ Empty))) (s := (([] : List Code_), true))
   (fun l s => s.1 = l.map (fun c => ((impl_recoloured c most).getD (c, false)).1) ∧ s.2 = l.all (fun c => ((impl_recoloured c most).getD (c, false)).2)) (fun _ => False) ⟨rfl, rfl⟩ (fun l x r s he hI => by
    left
    obtain ⟨t, q, c', b, _, _, h3, _⟩ := hrec l x r he
    have hlen := congrArg List.length he
    simp at hlen
    have hsl : s.1.length = l.length := by rw [hI.1]; simp
    refine ⟨(s.1 ++ [c'], s.2 && b), ?_, ?_, ?_⟩
    ·rw [he, getI_mid, Option.bind_some]
     unfold impl_ColourUnit_1
     rw [h3, Option.bind_some]
     cases s.2 <;> · simp only [Bool.false_eq_true, if_true, if_false, Option.bind_some]; rw [appM_ok (by simp; omega)]; rfl
    ·simp [hI.1, h3]
    ·simp [hI.2, h3]) with ⟨z, h1, h2⟩ | ⟨_, _, h⟩
  ·exact ⟨z, h1, h2⟩
  ·exact h.elim
 obtain ⟨⟨zl, zb⟩, z1, z2, z3⟩ := himpl
 dsimp only at z2 z3
 have hI : impl_mappedS (fun y0 y1 => impl_ColourUnit_1 y0 most y1) u.codes true = some (zl, zb) := bindt z1 rfl
 rw [hI, Option.bind_some]
 have hspec := forN_list (xs := u.codes) (body := (fun (i1_1 : Int) (xs1_1 : (List Code_)) => (Option.bind (getI u.codes i1_1) fun x1_1 => Option.bind (spec_l21Table x1_1) fun r1_4 => Option.bind (spec_l21Colours r1_4 most) fun r1_5 => Option.bind (forN (S := Unit) (X := Unit_ × Bool) (fun i2_1 xs2_1 => Option.bind (getI r1_5 i2_1) fun x2_1 => if decide (x2_1 < 0) then some (.inr ((⟨[]⟩ : Unit_), false)) else some (.inl ())) (((r1_5.length : Int) : Int) - 0).toNat 0 ()) (Sum.elim (fun xs1_2 => Option.bind (spec_l21Paint x1_1 r1_5) fun r1_7 => Option.bind (appM xs1_1 ([r1_7] : List Code_)) fun ys1_1 => some (.inl ys1_1)) (fun e0 => some (.inr e0))) : Option (((List Code_)) ⊕ (Unit_ × Bool))))) (s := ([] : List Code_))
  (fun l s => s = l.map (fun c => ((impl_recoloured c most).getD (c, false)).1) ∧ l.all (fun c => ((impl_recoloured c most).getD (c, false)).2) = true) (fun e => e = (⟨[]⟩, false) ∧ u.codes.all (fun c => ((impl_recoloured c most).getD (c, false)).2) = false) ⟨rfl, rfl⟩ (fun l x r s he hI => by
   obtain ⟨t, q, c', b, h1, h2, h3, h4⟩ := hrec l x r he
   have hlen := congrArg List.length he
   simp at hlen
   have hsl : s.length = l.length := by rw [hI.1]; simp
   have hneg := forN_list (xs := q) (body := (fun (i2_1 : Int) (xs2_1 : Unit) => (Option.bind (getI q i2_1) fun x2_1 => if decide (x2_1 < 0) then some (.inr ((⟨[]⟩ : Unit_), false)) else some (.inl ()) : Option ((Unit) ⊕ (Unit_ × Bool))))) (s := ()) (fun l _ => ∀ z ∈ l, 0 ≤ z) (fun e => e = (⟨[]⟩, false) ∧ ∃ z ∈ q, z < 0) (fun z hz => by simp at hz) (fun l' z r' _ he' hI' => by
    by_cases hz : z < 0
    ·right
     refine ⟨(⟨[]⟩, false), ?_, rfl, z, by rw [he']; simp, hz⟩
     rw [he', getI_mid, Option.bind_some, decide_eq_true hz]; rfl
    ·left
     refine ⟨(), ?_, fun w hw => ?_⟩
     ·rw [he', getI_mid, Option.bind_some, decide_eq_false hz]; rfl
     ·rcases List.mem_append.1 hw with h | h
      ·exact hI' w h
      ·rw [List.mem_singleton] at h; omega)
   rcases h4 with ⟨rfl, g1⟩ | ⟨rfl, g1, g2, _⟩
   ·right
    rcases hneg with ⟨_, k1, k2⟩ | ⟨e, k1, k2, _⟩
    ·have := k2 _ g1; omega
    ·refine ⟨e, ?_, k2, ?_⟩
     ·rw [he, getI_mid, Option.bind_some, h1, Option.bind_some, h2, Option.bind_some, k1]; rfl
     ·rw [he]; simp [h3]
   ·left
    rcases hneg with ⟨_, k1, k2⟩ | ⟨e, k1, _, z, k2, k3⟩
    ·refine ⟨s ++ [c'], ?_, ?_, ?_⟩
     ·rw [he, getI_mid, Option.bind_some, h1, Option.bind_some, h2, Option.bind_some, k1, Option.bind_some, Sum.elim_inl, g2, Option.bind_some, appM_ok (by simp; omega)]; rfl
     ·simp [hI.1, h3]
     ·simp [hI.2, h3]
    ·have := g1 _ k2; omega)
 rcases hspec with ⟨s', k1, k2, k3⟩ | ⟨e, k1, k2, k3⟩
 ·rw [k3] at z3
  subst z3
  have hzs : s' = zl := by rw [k2, z2]
  subst hzs
  have hsm : Small ⟨s'⟩ := fun c' hc' b hb => by
   have hc2 : c' ∈ u.codes.map (fun c => ((impl_recoloured c most).getD (c, false)).1) := by rw [← z2]; exact hc'
   obtain ⟨c, hc, rfl⟩ := List.mem_map.1 hc2
   obtain ⟨l, r, he⟩ := List.append_of_mem hc
   obtain ⟨t, q, c', bb, h1, h2, h3, h4⟩ := hrec l c r he
   rw [h3] at hb
   have hb' : b ∈ c'.blocks := hb
   have hall := List.all_eq_true.1 k3 c hc
   rw [h3] at hall
   have : bb = true := hall
   rcases h4 with ⟨rfl, _⟩ | ⟨_, _, _, g4⟩
   ·cases this
   obtain ⟨b0, q1, q2, q3, q4⟩ := g4 b hb'
   have := few_ins hu hc q1
   omega
  have hsp : ∀ b, unitB ⟨s'⟩ = b → (Option.bind (forN (fun (i1_1 : Int) (xs1_1 : (List Code_)) => (Option.bind (getI u.codes i1_1) fun x1_1 => Option.bind (spec_l21Table x1_1) fun r1_4 => Option.bind (spec_l21Colours r1_4 most) fun r1_5 => Option.bind (forN (S := Unit) (X := Unit_ × Bool) (fun i2_1 xs2_1 => Option.bind (getI r1_5 i2_1) fun x2_1 => if decide (x2_1 < 0) then some (.inr ((⟨[]⟩ : Unit_), false)) else some (.inl ())) (((r1_5.length : Int) : Int) - 0).toNat 0 ()) (Sum.elim (fun xs1_2 => Option.bind (spec_l21Paint x1_1 r1_5) fun r1_7 => Option.bind (appM xs1_1 ([r1_7] : List Code_)) fun ys1_1 => some (.inl ys1_1)) (fun e0 => some (.inr e0))) : Option (((List Code_)) ⊕ (Unit_ × Bool)))) (((u.codes.length : Int) : Int) - 0).toNat 0 []) (Sum.elim (fun xs0_1 => Option.bind (spec_UnitValid (⟨xs0_1⟩ : Unit_)) fun r0_2 => if !(r0_2) then some ((⟨[]⟩ : Unit_), false) else some ((⟨xs0_1⟩ : Unit_), true)) (fun e0 => some e0))) = some (if b = true then (⟨s'⟩, true) else (⟨[]⟩, false)) := fun b hb => by
   refine bindt k1 ?_
   show Option.bind (spec_UnitValid ⟨s'⟩) _ = _
   rw [specValid_ok _ hsm, hb]
   cases b <;> rfl
  unfold impl_onlyValid
  simp only [Bool.not_true, Bool.false_eq_true, if_false]
  rw [implValid_ok _ hsm]
  cases hq : unitB ⟨s'⟩ with
  | false => exact ⟨⟨[]⟩, false, rfl, hsp _ hq, by decide⟩
  | true => exact ⟨⟨s'⟩, true, rfl, hsp _ hq, valid_w ⟨hq, hsm⟩⟩
 ·rw [k3] at z3
  subst z3
  refine ⟨⟨[]⟩, false, rfl, ?_, by decide⟩
  subst k2
  exact bindt k1 rfl
theorem lawColourUnit (u : Unit_) (most : Int) (hl : LUnit u) : laws_FnExactColourUnit u most = some true := by
 unfold laws_FnExactColourUnit
 rw [szUnit_ok u hl (by decide) (by decide), Option.bind_some, lt0 (by decide)]
 by_cases hn : (nUnit u : Int) ≤ 1048576
 rotate_left
 ·simp [hn]
 have hf : Fits u := by unfold Fits; omega
 have hw := w_le u
 obtain ⟨r, b, h1, h2, h3⟩ := colourUnit_ok u hf most
 have hm1 := markUnit_ok u 1 (by decide) (by unfold BM; omega)
 have hm2 := markUnit_ok r 1 (by decide) (by unfold BM; omega)
 have hh2 := heldUnit_ok r 1 (by decide) (by unfold BM; omega)
 have e1 : ¬ (1 + (wCodeS u.codes : Int) < 0) := by omega
 have e2 : ¬ (1 + (wCodeS r.codes : Int) < 0) := by omega
 simp only [hn, decide_true, Bool.not_true, Bool.false_eq_true, if_false, toUnit_ok u hf, Option.bind_some, h1, h2, eqUnit_ok, hm1, hm2, hh2, e1, e2, decide_false, ne_eq, not_true_eq_false]
end Unt
end Go.Wk
