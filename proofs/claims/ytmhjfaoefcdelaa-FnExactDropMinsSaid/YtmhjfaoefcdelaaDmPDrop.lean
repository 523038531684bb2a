/- A part of the proof of FnExactDropMinsSaid. -/
import Derived.Test.YtmhjfaoefcdelaaDmPMins
namespace Go.Wk
open Go
namespace DropMins
open Fits

theorem copy_ok (f : Mfn) (h : f.ins.length ≤ 1048576) : spec_l24Copy f = some f := by
  unfold spec_l24Copy
  rw [appM_ok (by simp; omega)]
  rfl
theorem clone_ok (f : Mfn) (h : f.ins.length ≤ 1048576) : impl_cloneMfn f = some f := by
  unfold impl_cloneMfn slices_Clone_S_impl_Mins_impl_Mins
  rw [appM_ok (by simp; omega)]
  rfl

theorem contains_int (l : List Int) (v : Int) : slices_Contains_S_int_int l v = some (decide (v ∈ l)) := by
  unfold slices_Contains_S_int_int slices_Index_S_int_int
  rcases forN_find (xs := l) (fun x => decide (v = x)) (fun i => i) (body := fun i1_1 xs1_1 => Option.bind (getI l i1_1) fun x1_1 => if decide (v = x1_1) then some (.inr i1_1) else some (.inl ())) (by
      intro a x r he
      have hx : getI l (a.length : Int) = some x := by rw [he, getI_mid]
      simp only [hx, Option.bind_some]) with ⟨h1, h2⟩ | ⟨a, x, r, h1, h2, h3, h4⟩
  · rw [h2]
    have : v ∉ l := fun hm => by
      rw [List.any_eq_false] at h1
      exact h1 v hm (by simp)
    simp [this]
  · rw [h4]
    have : v ∈ l := by
      rw [h1, of_decide_eq_true h3]; simp
    simp [this]

/-- who goes -/
def Gone (n : Nat) (list : List Int) (gone : List Bool) : Prop := gone.length = n ∧ ∀ i : Nat, i < n → gone[i]? = some (decide ((i : Int) ∈ list) && decide ((i : Int) ≤ (n : Int) - 2))

theorem gone_ok (f : Mfn) (list : List Int) :
    ∃ g, forN (fun (i1_1 : Int) (xs1_1 : (List Bool)) => (Option.bind (Option.bind (getI list i1_1) fun x2_1 => Option.bind (spec_l1In x2_1 0 (((f.ins.length : Int)) - 2)) fun r2_1 => Option.bind (if r2_1 then Option.bind (getI xs1_1 x2_1) fun x3_1 => some (xs1_1.set (x2_1).toNat true) else some xs1_1 : Option ((List Bool))) fun s2_1 => some s2_1 : Option ((List Bool))) fun s1_1 => some (.inl s1_1) : Option (((List Bool)) ⊕ (Empty)))) ((list.length : Int) - 0).toNat 0 (List.replicate f.ins.length false) = some (.inl g) ∧ Gone f.ins.length list g := by
  rcases forN_list (X := Empty) (xs := list) (s := List.replicate f.ins.length false) (body := (fun (i1_1 : Int) (xs1_1 : (List Bool)) => (Option.bind (Option.bind (getI list i1_1) fun x2_1 => Option.bind (spec_l1In x2_1 0 (((f.ins.length : Int)) - 2)) fun r2_1 => Option.bind (if r2_1 then Option.bind (getI xs1_1 x2_1) fun x3_1 => some (xs1_1.set (x2_1).toNat true) else some xs1_1 : Option ((List Bool))) fun s2_1 => some s2_1 : Option ((List Bool))) fun s1_1 => some (.inl s1_1) : Option (((List Bool)) ⊕ (Empty))))) (fun l g => Gone f.ins.length l g) (fun _ => False)
    ⟨by simp, fun i hi => by simp [hi]⟩ (fun l x r g he hg => .inl (by
      have hx : getI list (l.length : Int) = some x := by rw [he, getI_mid]
      simp only [hx, Option.bind_some, l1In_ok]
      obtain ⟨h1, h2⟩ := hg
      cases hin : inB x 0 ((f.ins.length : Int) - 2) with
      | false =>
        refine ⟨g, by simp, h1, fun i hi => ?_⟩
        rw [h2 i hi]
        have hne : (i : Int) ≤ (f.ins.length : Int) - 2 → (i : Int) ≠ x := fun h3 h4 => by
          subst h4
          simp [inB] at hin
          omega
        by_cases h3 : (i : Int) ≤ (f.ins.length : Int) - 2
        · simp [h3, hne h3]
        · simp [h3]
      | true =>
        simp only [inB, Bool.and_eq_true, decide_eq_true_eq] at hin
        obtain ⟨y, hy, _⟩ := getI_in (xs := g) hin.1 (by omega)
        refine ⟨g.set x.toNat true, by simp [hy], by simpa using h1, fun i hi => ?_⟩
        rw [List.getElem?_set]
        by_cases h3 : x.toNat = i
        · have h4 : (i : Int) = x := by omega
          rw [if_pos h3, if_pos (by omega), h4]
          simp [hin.2]
        · have h4 : (i : Int) ≠ x := by omega
          rw [if_neg h3, h2 i hi]
          simp [h4])) with h | ⟨_, _, h⟩
  · exact h
  · exact h.elim

theorem loop1 (f : Mfn) (list : List Int) (gone : List Bool) (hg : Gone f.ins.length list gone) (hl : f.ins.length ≤ 1048576) :
    ∃ moved out, forN (fun (i1_1 : Int) (xs1_1 : (List Int) × (List Mins)) => (Option.bind (Option.bind (getI xs1_1.1 i1_1) fun x2_1 => Option.bind (getI gone i1_1) fun x2_2 => Option.bind (if !(x2_2) then Option.bind (getI f.ins i1_1) fun x3_1 => Option.bind (appM xs1_1.2 ([x3_1] : List Mins)) fun ys3_1 => some ys3_1 else some xs1_1.2 : Option ((List Mins))) fun s2_1 => some s2_1 : Option ((List Mins))) fun s1_1 => some (.inl ((xs1_1.1.set (i1_1).toNat (xs1_1.2.length : Int)), s1_1)) : Option (((List Int) × (List Mins)) ⊕ (Empty)))) ((f.ins.length : Int) - 0).toNat 0 (List.replicate f.ins.length 0, ([] : List Mins)) = some (.inl (moved, out)) ∧
      forN (fun (i1_1 : Int) (xs1_1 : (List Mins) × (List Int)) => (Option.bind (Option.bind (getI f.ins i1_1) fun x2_1 => Option.bind (getI xs1_1.2 i1_1) fun x2_2 => Option.bind (if decide (i1_1 = (((f.ins.length : Int)) - 1)) then some true else Option.bind (slices_Contains_S_int_int list i1_1) fun r3_1 => some (!(r3_1)) : Option (Bool)) fun s2_1 => Option.bind (if s2_1 then Option.bind (appM xs1_1.1 ([x2_1] : List Mins)) fun ys3_1 => some ys3_1 else some xs1_1.1 : Option ((List Mins))) fun s2_2 => some s2_2 : Option ((List Mins))) fun s1_1 => some (.inl (s1_1, (xs1_1.2.set (i1_1).toNat (xs1_1.1.length : Int)))) : Option (((List Mins) × (List Int)) ⊕ (Empty)))) ((f.ins.length : Int) - 0).toNat 0 (([] : List Mins), List.replicate f.ins.length 0) = some (.inl (out, moved)) ∧
      moved.length = f.ins.length ∧ (∀ x ∈ out, x ∈ f.ins) ∧ out.length ≤ f.ins.length := by
  obtain ⟨⟨moved, out⟩, ⟨out', moved'⟩, h1, h2, h3, h4, h5, h6, h7⟩ := forN_rel (b1 := (fun (i1_1 : Int) (xs1_1 : (List Int) × (List Mins)) => (Option.bind (Option.bind (getI xs1_1.1 i1_1) fun x2_1 => Option.bind (getI gone i1_1) fun x2_2 => Option.bind (if !(x2_2) then Option.bind (getI f.ins i1_1) fun x3_1 => Option.bind (appM xs1_1.2 ([x3_1] : List Mins)) fun ys3_1 => some ys3_1 else some xs1_1.2 : Option ((List Mins))) fun s2_1 => some s2_1 : Option ((List Mins))) fun s1_1 => some (.inl ((xs1_1.1.set (i1_1).toNat (xs1_1.2.length : Int)), s1_1)) : Option (((List Int) × (List Mins)) ⊕ (Empty))))) (b2 := (fun (i1_1 : Int) (xs1_1 : (List Mins) × (List Int)) => (Option.bind (Option.bind (getI f.ins i1_1) fun x2_1 => Option.bind (getI xs1_1.2 i1_1) fun x2_2 => Option.bind (if decide (i1_1 = (((f.ins.length : Int)) - 1)) then some true else Option.bind (slices_Contains_S_int_int list i1_1) fun r3_1 => some (!(r3_1)) : Option (Bool)) fun s2_1 => Option.bind (if s2_1 then Option.bind (appM xs1_1.1 ([x2_1] : List Mins)) fun ys3_1 => some ys3_1 else some xs1_1.1 : Option ((List Mins))) fun s2_2 => some s2_2 : Option ((List Mins))) fun s1_1 => some (.inl (s1_1, (xs1_1.2.set (i1_1).toNat (xs1_1.1.length : Int)))) : Option (((List Mins) × (List Int)) ⊕ (Empty))))) (k := ((f.ins.length : Int) - 0).toNat) (i := 0)
    (s := (List.replicate f.ins.length 0, ([] : List Mins))) (t := (([] : List Mins), List.replicate f.ins.length 0))
    (fun i s t => t.1 = s.2 ∧ t.2 = s.1 ∧ s.1.length = f.ins.length ∧ (∀ x ∈ s.2, x ∈ f.ins) ∧ (s.2.length : Int) ≤ i) ⟨rfl, rfl, by simp, by simp, by simp⟩
    (by
      rintro j ⟨moved, out⟩ ⟨out', moved'⟩ hj0 hj1 ⟨rfl, rfl, h3, h4, h5⟩
      dsimp only at h3 h4 h5 ⊢
      have hj : j < (f.ins.length : Int) := by omega
      obtain ⟨x, hx, _, hxm⟩ := getI_in (xs := f.ins) hj0 hj
      obtain ⟨y, hy, _⟩ := getI_in (xs := moved') hj0 (by omega)
      have hgj := hg.2 j.toNat (by omega)
      have hgj' : getI gone j = some (decide (j ∈ list) && decide (j ≤ (f.ins.length : Int) - 2)) := by
        rw [getI, if_pos hj0, hgj, show ((j.toNat : Nat) : Int) = j by omega]
      have happ : appM out' [x] = some (out' ++ [x]) := appM_ok (by simp; omega)
      have hmem : ∀ y ∈ out' ++ [x], y ∈ f.ins := by
        intro z hz
        rcases List.mem_append.1 hz with h | h
        · exact h4 z h
        · rw [List.mem_singleton.1 h]; exact hxm
      simp only [hx, hy, hgj', contains_int, Option.bind_some, happ]
      by_cases hlast : j = (f.ins.length : Int) - 1
      · have hn : ¬ j ≤ (f.ins.length : Int) - 2 := by omega
        simp only [hlast, decide_true, if_true] at *
        simp only [hn, decide_false, Bool.and_false, Bool.not_false, if_true, Option.bind_some]
        exact ⟨_, _, rfl, rfl, rfl, rfl, by simpa using h3, hmem, by simp; omega⟩
      · have hn : j ≤ (f.ins.length : Int) - 2 := by omega
        simp only [hlast, hn, decide_false, decide_true, Bool.and_true]
        by_cases hm : j ∈ list
        · simp only [hm, decide_true, Bool.not_true, Bool.false_eq_true, if_false, Option.bind_some]
          exact ⟨_, _, rfl, rfl, rfl, rfl, by simpa using h3, h4, by dsimp only; omega⟩
        · simp only [hm, decide_false, Bool.not_false, Bool.false_eq_true, if_false, if_true, Option.bind_some]
          exact ⟨_, _, rfl, rfl, rfl, rfl, by simpa using h3, hmem, by simp; omega⟩)
  dsimp only at h3 h4 h5 h6 h7
  subst h3; subst h4
  exact ⟨_, _, h1, h2, h5, h6, by omega⟩

theorem loop2 (f : Mfn) (hf : fits f.ins = true) (moved : List Int) (out : List Mins) (h1 : moved.length = f.ins.length) (h2 : ∀ x ∈ out, x ∈ f.ins) :
    ∃ res, forN ((fun (xs0_1 : List Int × List Mins) => (fun (i1_2 : Int) (xs1_2 : (List Mins)) => (Option.bind (Option.bind (getI xs1_2 i1_2) fun x2_3 => Option.bind (spec_l24Jumps x2_3) fun r2_1 => Option.bind (if r2_1 then Option.bind (getI xs0_1.1 x2_3.n_) fun x3_2 => some (xs1_2.set (i1_2).toNat (⟨x2_3.op, x2_3.a_, x2_3.b, x2_3.c, x3_2⟩ : Mins)) else some xs1_2 : Option ((List Mins))) fun s2_2 => some s2_2 : Option ((List Mins))) fun s1_2 => some (.inl s1_2) : Option (((List Mins)) ⊕ (Empty))))) (moved, out)) ((out.length : Int) - 0).toNat 0 out = some (.inl res) ∧
      forN ((fun (xs0_1 : List Mins × List Int) => (fun (i1_2 : Int) (xs1_2 : (List Mins)) => (Option.bind (Option.bind (getI xs1_2 i1_2) fun x2_3 => Option.bind (impl_jumpOp x2_3.op) fun r2_1 => Option.bind (if r2_1 then Option.bind (getI xs0_1.2 x2_3.n_) fun x3_1 => some (xs1_2.set (i1_2).toNat (⟨x2_3.op, x2_3.a_, x2_3.b, x2_3.c, x3_1⟩ : Mins)) else some xs1_2 : Option ((List Mins))) fun s2_3 => some s2_3 : Option ((List Mins))) fun s1_2 => some (.inl s1_2) : Option (((List Mins)) ⊕ (Empty))))) (out, moved)) ((out.length : Int) - 0).toNat 0 out = some (.inl res) ∧ res.length = out.length := by
  obtain ⟨s', t', g1, g2, rfl, g4, _⟩ := forN_rel (b1 := (fun (xs0_1 : List Int × List Mins) => (fun (i1_2 : Int) (xs1_2 : (List Mins)) => (Option.bind (Option.bind (getI xs1_2 i1_2) fun x2_3 => Option.bind (spec_l24Jumps x2_3) fun r2_1 => Option.bind (if r2_1 then Option.bind (getI xs0_1.1 x2_3.n_) fun x3_2 => some (xs1_2.set (i1_2).toNat (⟨x2_3.op, x2_3.a_, x2_3.b, x2_3.c, x3_2⟩ : Mins)) else some xs1_2 : Option ((List Mins))) fun s2_2 => some s2_2 : Option ((List Mins))) fun s1_2 => some (.inl s1_2) : Option (((List Mins)) ⊕ (Empty))))) (moved, out)) (b2 := (fun (xs0_1 : List Mins × List Int) => (fun (i1_2 : Int) (xs1_2 : (List Mins)) => (Option.bind (Option.bind (getI xs1_2 i1_2) fun x2_3 => Option.bind (impl_jumpOp x2_3.op) fun r2_1 => Option.bind (if r2_1 then Option.bind (getI xs0_1.2 x2_3.n_) fun x3_1 => some (xs1_2.set (i1_2).toNat (⟨x2_3.op, x2_3.a_, x2_3.b, x2_3.c, x3_1⟩ : Mins)) else some xs1_2 : Option ((List Mins))) fun s2_3 => some s2_3 : Option ((List Mins))) fun s1_2 => some (.inl s1_2) : Option (((List Mins)) ⊕ (Empty))))) (out, moved)) (k := ((out.length : Int) - 0).toNat) (i := 0)
    (s := out) (t := out) (fun j s t => t = s ∧ s.length = out.length ∧ ∀ i : Nat, j ≤ i → s[i]? = out[i]?) ⟨rfl, rfl, fun _ _ => rfl⟩
    (by
      rintro j _ s hj0 hj1 ⟨rfl, h3, h4⟩
      obtain ⟨x, hx, hx2, _⟩ := getI_in (xs := s) hj0 (by omega)
      have hxo : x ∈ f.ins := by
        rw [h4 j.toNat (by omega)] at hx2
        exact h2 x (List.mem_of_getElem? hx2)
      simp only [hx, Option.bind_some, l24Jumps_ok, jumpOp_ok]
      cases hj : jumps x with
      | false => exact ⟨s, s, by simp, by simp, rfl, h3, fun i hi => h4 i (by omega)⟩
      | true =>
        have hin : 0 ≤ x.n_ ∧ x.n_ < (moved.length : Int) := by
          unfold fits at hf
          simp only [Bool.and_eq_true, Bool.not_eq_true', List.any_eq_false] at hf
          have := hf.1 x hxo
          simp [off, hj, inB] at this
          omega
        obtain ⟨y, hy, _⟩ := getI_in (xs := moved) hin.1 hin.2
        simp only [hy, Option.bind_some, if_true]
        refine ⟨_, _, rfl, rfl, rfl, by simpa using h3, fun i hi => ?_⟩
        rw [List.getElem?_set_ne (by omega)]
        exact h4 i (by omega))
  exact ⟨_, g1, g2, g4⟩

theorem core (f : Mfn) (list : List Int) (hl : f.ins.length ≤ 1048576) : ∃ g, spec_DropMins f list = some g ∧ impl_DropMins f list = some g ∧ g.ins.length ≤ f.ins.length := by
  unfold spec_DropMins impl_DropMins
  rw [fits_spec, fits_impl _ hl]
  simp only [Option.bind_some]
  cases hf : fits f.ins with
  | false =>
    simp only [Bool.not_false, if_true]
    rw [copy_ok f hl, clone_ok f hl]
    exact ⟨f, rfl, rfl, Nat.le_refl _⟩
  | true =>
    simp only [Bool.not_true, Bool.false_eq_true, if_false]
    rw [makeM_ok (by omega) (by omega), makeM_ok (by omega) (by omega)]
    simp only [Option.bind_some, Int.toNat_natCast]
    obtain ⟨gone, hg1, hg2⟩ := gone_ok f list
    rw [hg1]
    obtain ⟨moved, out, h1, h2, h3, h4, h5⟩ := loop1 f list gone hg2 hl
    obtain ⟨res, r1, r2, r3⟩ := loop2 f hf moved out h3 h4
    unfold spec_l24Drop
    rw [makeM_ok (by omega) (by omega)]
    simp only [Option.bind_some, Int.toNat_natCast, Sum.elim_inl]
    rw [h1, h2]
    simp only [Option.bind_some, Sum.elim_inl]
    simp only at r1 r2
    rw [r1, r2]
    exact ⟨⟨f.params, f.slots, res⟩, rfl, rfl, by simpa [r3] using h5⟩

theorem law (aF : Mfn) (aList : List Int) (hl : aF.ins.length ≤ 140737488355328) : laws_FnExactDropMins aF aList = some true := by
  unfold laws_FnExactDropMins
  by_cases h0 : (1048576 : Int) < aList.length
  · simp [h0]
  rw [if_neg (by simpa using h0), szMfn_ok _ _ (by omega) (by omega) hl, Option.bind_some]
  by_cases h : (1048576 : Int) - aF.ins.length < 0
  · simp [h]
  have hl' : aF.ins.length ≤ 1048576 := by omega
  have hk' : aList.length ≤ 1048576 := by omega
  rw [if_neg h, if_neg (by simpa using h), toMfn_ok _ hl']
  obtain ⟨g, g1, g2, g3⟩ := core aF aList hl'
  have hm1 : laws_markMfn aF 1 = some (1 + 5 * (aF.ins.length : Int), mkL mkMins (fun _ => 5) aF.ins 1) := by
    unfold laws_markMfn
    rw [markMinsS_ok _ _ (by omega) (by omega)]; rfl
  have hm2 : laws_markMfn g 1 = some (1 + 5 * (g.ins.length : Int), mkL mkMins (fun _ => 5) g.ins 1) := by
    unfold laws_markMfn
    rw [markMinsS_ok _ _ (by omega) (by omega)]; rfl
  have hh : laws_heldMfn ⟨g.params, g.slots, mkL mkMins (fun _ => 5) g.ins 1⟩ 1 = some (1 + 5 * (g.ins.length : Int)) := by
    unfold laws_heldMfn
    rw [heldMinsS_ok _ _ (by omega) (by omega), Option.bind_some, if_neg (by simp; omega)]
  simp only [toIntS_ok _ hk', Option.bind_some, g1, g2, eqMfn_ok, eqIntS_ok, hm1, hm2, hh, decide_true, Bool.not_true, Bool.false_eq_true, if_false]
  rw [markIntS_ok _ _ (by omega) (by omega)]
  have e1 : ¬ (1 + 5 * (aF.ins.length : Int) + (aList.length : Int) < 0) := by omega
  have e2 : ¬ (1 + 5 * (g.ins.length : Int) < 0) := by omega
  simp [e1, e2]
end DropMins
end Go.Wk
