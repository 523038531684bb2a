/- A part of the proof of FnEncodeMinsCardSaid. -/
import Derived.Test.YtmhjfaoefcdelaaDoorTwPLaw
namespace Go.Wk
open Go
namespace Lay

/-! ### what is drawn -/
theorem xor_nn (a b : Int) (ha : 0 ≤ a ∧ a < 1073741824) (hb : 0 ≤ b ∧ b < 1073741824) : 0 ≤ bitsK IntKind.i64 (· ^^^ ·) a b := by
  unfold bitsK
  have h : (BitVec.ofInt 64 a ^^^ BitVec.ofInt 64 b).toNat < 2 ^ 30 := by
    rw [BitVec.toNat_xor]
    refine Nat.xor_lt_two_pow ?_ ?_ <;> rw [BitVec.toNat_ofInt] <;> omega
  show 0 ≤ IntKind.i64.wrap ((BitVec.ofInt 64 a ^^^ BitVec.ofInt 64 b).toNat : Int)
  rw [IntKind.wrap_i64]
  omega

theorem tmod_in {a n : Int} (ha : 0 ≤ a) (hn : 0 < n) : 0 ≤ a.tmod n ∧ a.tmod n < n := ⟨Int.tmod_nonneg _ ha, Int.tmod_lt_of_pos _ hn⟩

theorem pick_ok (b : List UInt8) (hb : b.length ≤ 2000) (p n : Int) (h0 : 0 ≤ p) (h1 : p ≤ 1000000) : ∃ v, pspec_l30Rd__pick ⟨b, p⟩ n = some (v, ⟨b, p + 1⟩) ∧ 0 ≤ v ∧ (0 < n → v < n) := by
  unfold pspec_l30Rd__pick
  have e1 : w64 (p + 1) = p + 1 := w64_id (by omega) (by omega)
  have e2 : w64 (p + 1 - 1) = p := by rw [w64_id (by omega) (by omega)]; omega
  simp only [e1, e2]
  by_cases hn : n < 1
  · simp only [hn, decide_true, if_true, Option.bind_some]
    exact ⟨0, rfl, by omega, by omega⟩
  by_cases hl : b.length = 0
  · simp only [hn, hl, decide_false, Bool.false_eq_true, if_false, Option.bind_some, Int.natCast_zero, decide_true, if_true]
    exact ⟨0, rfl, by omega, by omega⟩
  have hbl : ¬ ((b.length : Int) = 0) := by omega
  have hn0 : ¬ n = 0 := by omega
  simp only [hn, hbl, decide_false, Bool.false_eq_true, if_false, Option.bind_some]
  by_cases hk : p < (b.length : Int)
  · obtain ⟨x, hx, _⟩ := getI_in (xs := b) h0 hk
    simp only [hk, decide_true, if_true, hx, Option.bind_some, remM, hn0, if_false]
    have := tmod_in (a := ((x.toNat : Nat) : Int)) (n := n) (by omega) (by omega)
    exact ⟨_, rfl, this.1, fun _ => this.2⟩
  · have hpl : (0 : Int) < (b.length : Int) := by omega
    have e3 : w64 (w64 (p * 7) + 3) = p * 7 + 3 := by rw [w64_id (n := p * 7) (by omega) (by omega), w64_id (by omega) (by omega)]
    obtain ⟨x, hx, _⟩ := getI_in (xs := b) (tmod_in h0 hpl).1 (tmod_in h0 hpl).2
    obtain ⟨y, hy, _⟩ := getI_in (xs := b) (tmod_in (a := p * 7 + 3) (by omega) hpl).1 (tmod_in (a := p * 7 + 3) (by omega) hpl).2
    have hd : 0 ≤ p.tdiv (b.length : Int) ∧ p.tdiv (b.length : Int) ≤ p := ⟨Int.tdiv_nonneg h0 (by omega), Int.tdiv_le_self _ h0⟩
    have e4 : w64 (p.tdiv (b.length : Int)) = p.tdiv (b.length : Int) := w64_id (by omega) (by omega)
    have hx8 : (x.toNat : Int) < 256 := by have := x.toNat_lt; omega
    have hy8 : (y.toNat : Int) < 256 := by have := y.toNat_lt; omega
    have hz : ∃ z : Int, w64 (w64 (w64 (w64 ((x.toNat : Int) * 131) + w64 ((y.toNat : Int) * 1117)) + w64 (p * 29)) + w64 (p.tdiv (b.length : Int) * 53)) = z ∧ 0 ≤ z ∧ z < 1073741824 := by
      refine ⟨_, rfl, ?_⟩
      rw [w64_id (n := (x.toNat : Int) * 131) (by omega) (by omega), w64_id (n := (y.toNat : Int) * 1117) (by omega) (by omega), w64_id (n := p * 29) (by omega) (by omega),
        w64_id (n := p.tdiv (b.length : Int) * 53) (by omega) (by omega), w64_id (n := (x.toNat : Int) * 131 + (y.toNat : Int) * 1117) (by omega) (by omega),
        w64_id (n := (x.toNat : Int) * 131 + (y.toNat : Int) * 1117 + p * 29) (by omega) (by omega), w64_id (by omega) (by omega)]
      omega
    obtain ⟨z, hz, hz0, hz1⟩ := hz
    have hq : 0 ≤ z.tdiv 64 ∧ z.tdiv 64 ≤ z := ⟨Int.tdiv_nonneg hz0 (by omega), Int.tdiv_le_self _ hz0⟩
    have e5 : w64 (z.tdiv 64) = z.tdiv 64 := w64_id (by omega) (by omega)
    simp only [hk, decide_false, Bool.false_eq_true, if_false, remM, quoM, hbl, hn0, Option.bind_some, e3, hx, hy, e4, hz, e5]
    have := tmod_in (xor_nn z (z.tdiv 64) ⟨hz0, hz1⟩ ⟨hq.1, by omega⟩) (show 0 < n by omega)
    exact ⟨_, rfl, this.1, fun _ => this.2⟩

theorem num_ok (b : List UInt8) (hb : b.length ≤ 2000) (p : Int) (l : List Int) (hl : 0 < l.length) (h0 : 0 ≤ p) (h1 : p ≤ 1000000) : ∃ v, pspec_l30Rd__num ⟨b, p⟩ l = some (v, ⟨b, p + 1⟩) ∧ v ∈ l := by
  obtain ⟨v, h2, h3, h4⟩ := pick_ok b hb p (l.length : Int) h0 h1
  obtain ⟨x, hx, _, hm⟩ := getI_in (xs := l) h3 (h4 (by omega))
  exact ⟨x, bindt h2 (bindt hx rfl), hm⟩

theorem inl_of {S : Type} {r : Option (S ⊕ Empty)} {I : S → Prop} (h : (∃ s, r = some (.inl s) ∧ I s) ∨ ∃ x : Empty, r = some (.inr x) ∧ False) : ∃ s, r = some (.inl s) ∧ I s := by
  rcases h with h | ⟨x, _⟩
  · exact h
  · cases x

theorem bindE {A B : Type} {o : Option A} {a : A} {f : A → Option B} {P : B → Prop} (h : o = some a) (h2 : ∃ c, f a = some c ∧ P c) : ∃ c, Option.bind o f = some c ∧ P c := by
  obtain ⟨c, h3, h4⟩ := h2
  exact ⟨c, bindt h h3, h4⟩

def At (b : List UInt8) (lo hi : Int) {A : Type} (c : A × l30Rd) : Prop := c.2.b = b ∧ lo ≤ c.2.p ∧ c.2.p ≤ hi

theorem some_ok' (b : List UInt8) (hb : b.length ≤ 2000) (p k n : Int) (f : Mfn) (h0 : 0 ≤ p) (h1 : p ≤ 900000) : ∃ c, spec_l22Some ⟨b, p⟩ k f n = some c ∧ At b p (p + 10) c := by
  unfold spec_l22Some
  obtain ⟨op, ho, hm⟩ := num_ok b hb p ([1, 1, 2, 3, 4, 5, 8, 9, 10, 13, 21, 6, 7, 11, 12, 14, 15, 16, 17, 18, 19, 20, 22] : List Int) (by decide) h0 (by omega)
  have hop : 1 ≤ op ∧ op ≤ 22 := by
    simp only [List.mem_cons, List.not_mem_nil, or_false] at hm
    omega
  obtain ⟨w, t, hw, ht⟩ := word_ok (⟨op, 0, 0, 0, 0⟩ : Mins) (by simp [inB]; omega)
  have htl : t.b.length ≤ 3 := by
    simp only [List.mem_cons, Prod.mk.injEq, List.not_mem_nil, or_false] at ht
    rcases ht with ⟨_, h⟩ | ⟨_, h⟩ | ⟨_, h⟩ | ⟨_, h⟩ | ⟨_, h⟩ <;> rw [h] <;> decide
  replace hw : spec_l22Word op = some (w, t) := hw
  rw [ho]
  simp only [Option.bind_some, hw]
  obtain ⟨s, hs, hI⟩ := inl_of (forN_law (body := fun (i1_1 : Int) (xs1_1 : Int × Int × Int × Int) => (Option.bind (pspec_l30Rd__num (⟨b, xs1_1.1⟩ : l30Rd) ([4, 8, 2] : List Int)) fun r1_1 => Option.bind (pspec_l30Rd__pick (⟨b, r1_1.2.p⟩ : l30Rd) r1_1.1) fun r1_2 => Option.bind (getI t.b i1_1) fun x1_1 => Option.bind (Option.bind (if decide (x1_1 = (65 : UInt8)) then some (r1_2.1, xs1_1.2.2.1, xs1_1.2.2.2) else Option.bind (if decide (x1_1 = (66 : UInt8)) then some (r1_2.1, xs1_1.2.2.2) else Option.bind (if decide (x1_1 = (67 : UInt8)) then some r1_2.1 else some xs1_1.2.2.2 : Option (Int)) fun s4_1 => some (xs1_1.2.2.1, s4_1) : Option (Int × Int)) fun s3_1 => some (xs1_1.2.1, s3_1.1, s3_1.2) : Option (Int × Int × Int)) fun s2_1 => some (s2_1.1, s2_1.2.1, s2_1.2.2) : Option (Int × Int × Int)) fun s1_1 => some (.inl (r1_2.2.p, s1_1.1, s1_1.2.1, s1_1.2.2)) : Option ((Int × Int × Int × Int) ⊕ Empty)))
    (k := ((t.b.length : Int) - 0).toNat) (i := 0) (s := (p + 1, 0, 0, 0)) (fun j s => s.1 = p + 1 + 2 * j) (fun _ => False) (by simp) (fun j s hj1 hj2 hs => .inl (by
      obtain ⟨p1, a1, a2, a3⟩ := s
      simp only at hs
      subst hs
      obtain ⟨v, hv, _⟩ := num_ok b hb (p + 1 + 2 * j) ([4, 8, 2] : List Int) (by decide) (by omega) (by omega)
      obtain ⟨u, hu, _⟩ := pick_ok b hb (p + 1 + 2 * j + 1) v (by omega) (by omega)
      obtain ⟨c, hc, _⟩ := getI_in (xs := t.b) (j := j) hj1 (by omega)
      simp only [hv, hu, hc, Option.bind_some]
      by_cases c1 : c = 65
      · simp only [c1, decide_true, if_true, Option.bind_some]
        exact ⟨_, rfl, by simp only; omega⟩
      · by_cases c2 : c = 66
        · simp only [c2, show ¬ (66 : UInt8) = 65 by decide, decide_true, decide_false, Bool.false_eq_true, if_true, if_false, Option.bind_some]
          exact ⟨_, rfl, by simp only; omega⟩
        · by_cases c3 : c = 67
          · simp only [c3, show ¬ (67 : UInt8) = 65 by decide, show ¬ (67 : UInt8) = 66 by decide, decide_true, decide_false, Bool.false_eq_true, if_true, if_false, Option.bind_some]
            exact ⟨_, rfl, by simp only; omega⟩
          · simp only [c1, c2, c3, decide_false, Bool.false_eq_true, if_false, Option.bind_some]
            exact ⟨_, rfl, by simp only; omega⟩)))
  obtain ⟨p1, a1, a2, a3⟩ := s
  simp only at hI
  have hp1 : p + 1 ≤ p1 ∧ p1 ≤ p + 7 := by omega
  refine bindE hs ?_
  simp only [Sum.elim_inl]
  -- the number
  have hstep : ∃ q v mo, (Option.bind (if decide (op = 1) then Option.bind (pspec_l30Rd__num (⟨b, p1⟩ : l30Rd) ([0, 1, 2, 3, 15, 16, 255] : List Int)) fun r2_1 => some (r2_1.2.p, r2_1.1, 0) else Option.bind (if decide (op = 14) then some k else Option.bind (if decide (op = 15) then some (decide (op = 15)) else some (decide (op = 16)) : Option (Bool)) fun s3_2 => Option.bind (if s3_2 then some f.slots else Option.bind (if decide (op = 17) then some 3 else Option.bind (if decide (op = 18) then some f.params else Option.bind (if decide (op = 20) then some (decide (op = 20)) else some (decide (op = 21)) : Option (Bool)) fun s6_1 => Option.bind (if s6_1 then some n else some 0 : Option (Int)) fun s6_2 => some s6_2 : Option (Int)) fun s5_1 => some s5_1 : Option (Int)) fun s4_2 => some s4_2 : Option (Int)) fun s3_3 => some s3_3 : Option (Int)) fun s2_2 => some (p1, 0, s2_2) : Option (Int × Int × Int)) fun s1_2 => some (s1_2.1, s1_2.2.1, s1_2.2.2) : Option (Int × Int × Int)) = some (q, v, mo) ∧ p1 ≤ q ∧ q ≤ p1 + 1 := by
    by_cases c1 : op = 1
    · obtain ⟨v, hv, _⟩ := num_ok b hb p1 ([0, 1, 2, 3, 15, 16, 255] : List Int) (by decide) (by omega) (by omega)
      simp only [c1, decide_true, if_true, hv, Option.bind_some]
      exact ⟨_, _, _, rfl, by omega, by omega⟩
    · have hin : ∃ mo, (Option.bind (if decide (op = 14) then some k else Option.bind (if decide (op = 15) then some (decide (op = 15)) else some (decide (op = 16)) : Option (Bool)) fun s3_2 => Option.bind (if s3_2 then some f.slots else Option.bind (if decide (op = 17) then some 3 else Option.bind (if decide (op = 18) then some f.params else Option.bind (if decide (op = 20) then some (decide (op = 20)) else some (decide (op = 21)) : Option (Bool)) fun s6_1 => Option.bind (if s6_1 then some n else some 0 : Option (Int)) fun s6_2 => some s6_2 : Option (Int)) fun s5_1 => some s5_1 : Option (Int)) fun s4_2 => some s4_2 : Option (Int)) fun s3_3 => some s3_3 : Option (Int)) fun s2_2 => some (p1, 0, s2_2) : Option (Int × Int × Int)) = some (p1, 0, mo) := by
        by_cases c14 : op = 14
        · exact ⟨k, by simp [c14]⟩
        by_cases c15 : op = 15
        · exact ⟨f.slots, by simp [c15]⟩
        by_cases c16 : op = 16
        · exact ⟨f.slots, by simp [c16]⟩
        by_cases c17 : op = 17
        · exact ⟨3, by simp [c17]⟩
        by_cases c18 : op = 18
        · exact ⟨f.params, by simp [c18]⟩
        by_cases c20 : op = 20
        · exact ⟨n, by simp [c20]⟩
        by_cases c21 : op = 21
        · exact ⟨n, by simp [c21]⟩
        exact ⟨0, by simp [c14, c15, c16, c17, c18, c20, c21]⟩
      obtain ⟨mo, hmo⟩ := hin
      refine ⟨p1, 0, mo, ?_, by omega, by omega⟩
      rw [decide_eq_false c1]
      exact bindt hmo rfl
  obtain ⟨q, v, mo, hq, q1, q2⟩ := hstep
  refine bindE hq ?_
  simp only
  have h2 : ∃ u q', (if decide (0 < mo) then Option.bind (pspec_l30Rd__pick (⟨b, q⟩ : l30Rd) mo) fun r1_3 => some (r1_3.1, r1_3.2.p) else some (v, q) : Option (Int × Int)) = some (u, q') ∧ q ≤ q' ∧ q' ≤ q + 1 := by
    by_cases c : 0 < mo
    · obtain ⟨u, hu, _⟩ := pick_ok b hb q mo (by omega) (by omega)
      exact ⟨u, q + 1, by simp [c, hu], by omega, by omega⟩
    · exact ⟨v, q, by simp [c], by omega, by omega⟩
  obtain ⟨u, q', hu, q3, q4⟩ := h2
  refine bindE hu ?_
  simp only
  have h3 : ∃ y, (if decide (mo = 0) then if decide (op = 14) then some true else if decide (op = 15) then some true else if decide (op = 16) then some true else some (decide (op = 18)) else some false : Option (Bool)) = some y := by
    split
    · split
      · exact ⟨_, rfl⟩
      · split
        · exact ⟨_, rfl⟩
        · split <;> exact ⟨_, rfl⟩
    · exact ⟨_, rfl⟩
  obtain ⟨y, hy⟩ := h3
  refine bindE hy ?_
  cases y
  · exact ⟨_, rfl, rfl, show p ≤ q' by omega, show q' ≤ p + 10 by omega⟩
  · exact ⟨_, rfl, rfl, show p ≤ q' by omega, show q' ≤ p + 10 by omega⟩

theorem some_ok (b : List UInt8) (hb : b.length ≤ 2000) (p k n : Int) (f : Mfn) (h0 : 0 ≤ p) (h1 : p ≤ 900000) : ∃ x p', spec_l22Some ⟨b, p⟩ k f n = some (x, ⟨b, p'⟩) ∧ p ≤ p' ∧ p' ≤ p + 10 := by
  obtain ⟨⟨x, ⟨b', p'⟩⟩, h2, h3, h4, h5⟩ := some_ok' b hb p k n f h0 h1
  simp only at h3 h4 h5
  subst h3
  exact ⟨x, p', h2, h4, h5⟩

theorem bindP {A B : Type} {o : Option A} {f : A → Option B} {P : B → Prop} (Q : A → Prop) (h : ∃ a, o = some a ∧ Q a) (h2 : ∀ a, Q a → ∃ c, f a = some c ∧ P c) : ∃ c, Option.bind o f = some c ∧ P c := by
  obtain ⟨a, h3, h4⟩ := h
  exact bindE h3 (h2 a h4)

theorem forE {S B : Type} {body : Int → S → Option (S ⊕ Empty)} {k : Nat} {i : Int} {s : S} {f : S ⊕ Empty → Option B} {P : B → Prop} (I : Int → S → Prop) (h0 : I i s)
    (hs : ∀ j s, i ≤ j → j < i + k → I j s → ∃ c, body j s = some c ∧ ∃ s', c = .inl s' ∧ I (j + 1) s') (hk : ∀ s, I (i + k) s → ∃ c, f (.inl s) = some c ∧ P c) : ∃ c, Option.bind (forN body k i s) f = some c ∧ P c := by
  obtain ⟨s', h1, h2⟩ := inl_of (forN_law (body := body) (k := k) (i := i) (s := s) I (fun _ => False) h0 (fun j s h1 h2 h3 => .inl (by
    obtain ⟨c, h4, s', h5, h6⟩ := hs j s h1 h2 h3
    subst h5
    exact ⟨s', h4, h6⟩)))
  exact bindE h1 (hk s' h2)

theorem mach_ok (b : List UInt8) (hb : b.length ≤ 2000) (p : Int) (h0 : 0 ≤ p) (h1 : p ≤ 1000) :
    ∃ c, spec_l22Mach ⟨b, p⟩ = some c ∧ (At b p (p + 2000) c ∧ 1 ≤ c.1.fns.length ∧ ∀ f ∈ c.1.fns, 1 ≤ f.ins.length ∧ f.ins.length ≤ 20) := by
  unfold spec_l22Mach
  obtain ⟨v, hv, hm⟩ := num_ok b hb p ([1, 2, 1, 3] : List Int) (by decide) h0 (by omega)
  have hv3 : 1 ≤ v ∧ v ≤ 3 := by simp only [List.mem_cons, List.not_mem_nil, or_false] at hm; omega
  refine bindE hv (bindE (fitI_some.2 (show v ≤ _ by omega)) (a := ()) ?_)
  refine forE (fun j s => p + 1 ≤ s.1 ∧ s.1 ≤ p + 1 + 250 * j ∧ (s.2.length : Int) = j ∧ ∀ f ∈ s.2, 1 ≤ f.ins.length ∧ f.ins.length ≤ 20) ⟨by simp, by simp, by simp, by simp⟩ ?_ ?_
  · rintro j ⟨q, fs⟩ hj1 hj2 ⟨i1, i2, i3, i4⟩
    simp only at i1 i2 i3 i4 ⊢
    have hq : 0 ≤ q ∧ q ≤ p + 1000 := by omega
    obtain ⟨v1, hv1, _⟩ := num_ok b hb q ([1, 0, 2, 3] : List Int) (by decide) (by omega) (by omega)
    obtain ⟨v2, hv2, _⟩ := num_ok b hb (q + 1) ([2, 0, 5, 1] : List Int) (by decide) (by omega) (by omega)
    obtain ⟨n, hn, hnm⟩ := num_ok b hb (q + 1 + 1) ([6, 9, 14, 3, 1, 20] : List Int) (by decide) (by omega) (by omega)
    have hn2 : 1 ≤ n ∧ n ≤ 20 := by simp only [List.mem_cons, List.not_mem_nil, or_false] at hnm; omega
    refine bindE hv1 (bindE hv2 (bindE hn ?_))
    have ew : w64 (n - 1) = n - 1 := w64_id (by omega) (by omega)
    simp only [ew]
    refine bindE (fitI_some.2 (show n - 1 ≤ _ by omega)) (a := ()) ?_
    refine forE (fun j s => q + 3 ≤ s.1 ∧ s.1 ≤ q + 3 + 10 * j ∧ (s.2.length : Int) = j) ⟨by simp; omega, by simp; omega, by simp⟩ ?_ ?_
    · rintro j2 ⟨q2, is⟩ hk1 hk2 ⟨k1, k2, k3⟩
      simp only at k1 k2 k3 ⊢
      obtain ⟨x, q3, hx, e1, e2⟩ := some_ok b hb q2 j n ⟨v1, v2, is⟩ (by omega) (by omega)
      refine bindE hx (bindE (appM_ok (by simp; omega)) ?_)
      exact ⟨_, rfl, _, rfl, by simp only; omega, by simp only; omega, by simp; omega⟩
    · rintro ⟨q2, is⟩ ⟨k1, k2, k3⟩
      simp only at k1 k2 k3 ⊢
      have hi : (is.length : Int) = n - 1 := by omega
      simp only [Sum.elim_inl]
      refine bindP (fun c => q2 ≤ c.1 ∧ c.1 ≤ q2 + 1) ?_ ?_
      · by_cases c : 1 < n
        · obtain ⟨u, hu, _⟩ := pick_ok b hb q2 6 (by omega) (by omega)
          simp only [c, decide_true, if_true]
          exact bindE hu ⟨_, rfl, by simp only; omega, by simp only; omega⟩
        · simp only [c, decide_false, Bool.false_eq_true, if_false]
          exact ⟨_, rfl, by simp only; omega, by simp only; omega⟩
      · rintro ⟨q4, t⟩ ⟨k4, k5⟩
        simp only at k4 k5 ⊢
        refine bindP (fun c => q4 + 1 = c.1 ∧ (c.2.length : Int) = n) ?_ ?_
        · cases t
          · obtain ⟨u, hu, _⟩ := pick_ok b hb q4 8 (by omega) (by omega)
            simp only [Bool.false_eq_true, if_false]
            exact bindE hu (bindE (appM_ok (by simp; omega)) ⟨_, rfl, rfl, by simp; omega⟩)
          · obtain ⟨u, hu, _⟩ := pick_ok b hb q4 n (by omega) (by omega)
            simp only [if_true]
            exact bindE hu (bindE (appM_ok (by simp; omega)) ⟨_, rfl, rfl, by simp; omega⟩)
        · rintro ⟨q5, is'⟩ ⟨k6, k7⟩
          simp only at k6 k7 ⊢
          refine bindE (appM_ok (by simp; omega)) ⟨_, rfl, _, rfl, by simp only; omega, by simp only; omega, by simp; omega, ?_⟩
          intro f hf
          rcases List.mem_append.1 hf with hf | hf
          · exact i4 f hf
          · rw [List.mem_singleton.1 hf]
            simp only
            omega
  · rintro ⟨q, fs⟩ ⟨i1, i2, i3, i4⟩
    simp only at i1 i2 i3 i4 ⊢
    exact ⟨_, rfl, ⟨rfl, by simp only; omega, by simp only; omega⟩, by simp only; omega, i4⟩

theorem bent_ok (b : List UInt8) (hb : b.length ≤ 2000) (p : Int) (h0 : 0 ≤ p) (h1 : p ≤ 1000) : ∃ c, spec_l22Bent ⟨b, p⟩ = some c ∧ (At b p (p + 3000) c ∧ 1 ≤ c.1.fns.length) := by
  unfold spec_l22Bent
  obtain ⟨⟨m, ⟨b', q⟩⟩, hm, ⟨e1, e2, e3⟩, e4, e5⟩ := mach_ok b hb p h0 h1
  simp only at e1 e2 e3 e4 e5
  subst e1
  refine bindE hm ?_
  obtain ⟨i, hi, i0, i1⟩ := pick_ok b' hb q (m.fns.length : Int) (by omega) (by omega)
  refine bindE hi ?_
  obtain ⟨f, hf, _, hfm⟩ := getI_in (xs := m.fns) i0 (i1 (by omega))
  refine bindE hf ?_
  obtain ⟨f1, f2⟩ := e5 f hfm
  obtain ⟨j, hj, j0, j1⟩ := pick_ok b' hb (q + 1) (f.ins.length : Int) (by omega) (by omega)
  refine bindE hj ?_
  obtain ⟨x, hx, _, _⟩ := getI_in (xs := f.ins) j0 (j1 (by omega))
  refine bindE hx ?_
  obtain ⟨v, hv, _⟩ := num_ok b' hb (q + 1 + 1) ([-1, 8, 64, 300, (f.ins.length : Int), 1] : List Int) (by simp) (by omega) (by omega)
  refine bindE hv ?_
  obtain ⟨u, hu, _⟩ := pick_ok b' hb (q + 1 + 1 + 1) 28 (by omega) (by omega)
  refine bindE hu ?_
  obtain ⟨u2, hu2, _⟩ := pick_ok b' hb (q + 1 + 1 + 1 + 1) 25 (by omega) (by omega)
  obtain ⟨u3, hu3, _⟩ := num_ok b' hb (q + 1 + 1 + 1 + 1) ([65, -1, 0, 64] : List Int) (by simp) (by omega) (by omega)
  obtain ⟨u4, hu4, _⟩ := num_ok b' hb (q + 1 + 1 + 1 + 1) ([4, -1, 0] : List Int) (by simp) (by omega) (by omega)
  have hsub : subM f.ins 0 ((f.ins.length : Int) - 1) = some ((f.ins.take ((f.ins.length : Int) - 1).toNat).drop (0 : Int).toNat) := if_pos ⟨by omega, by omega, by omega⟩
  let Q : List Mfn × Int → Prop := fun c => c.1.length = m.fns.length ∧ p ≤ c.2 ∧ c.2 ≤ p + 3000
  have hQ : ∀ (l : List Mfn) (r : Int), l.length = m.fns.length → (r = q + 4 ∨ r = q + 5) → Q (l, r) := fun l r h2 h3 => ⟨h2, by simp only; omega, by simp only; omega⟩
  refine bindP Q ?_ ?_
  · refine bindP Q ?_ (fun a ha => ⟨_, rfl, ha⟩)
    by_cases c0 : u = 0
    · simp only [c0, decide_true, if_true]
      exact bindE hu2 ⟨_, rfl, hQ _ _ (by simp) (.inr (show q + 1 + 1 + 1 + 1 + 1 = q + 5 by omega))⟩
    simp only [c0, decide_false, Bool.false_eq_true, if_false]
    refine bindP Q ?_ (fun a ha => ⟨_, rfl, ha⟩)
    by_cases c1 : u = 1
    · simp only [c1, decide_true, if_true]
      exact ⟨_, rfl, hQ _ _ (by simp) (by omega)⟩
    simp only [c1, decide_false, Bool.false_eq_true, if_false]
    refine bindP Q ?_ (fun a ha => ⟨_, rfl, ha⟩)
    by_cases c2 : u = 2
    · simp only [c2, decide_true, if_true]
      exact ⟨_, rfl, hQ _ _ (by simp) (by omega)⟩
    simp only [c2, decide_false, Bool.false_eq_true, if_false]
    refine bindP Q ?_ (fun a ha => ⟨_, rfl, ha⟩)
    by_cases c3 : u = 3
    · simp only [c3, decide_true, if_true]
      exact ⟨_, rfl, hQ _ _ (by simp) (by omega)⟩
    simp only [c3, decide_false, Bool.false_eq_true, if_false]
    refine bindP Q ?_ (fun a ha => ⟨_, rfl, ha⟩)
    by_cases c4 : u = 4
    · simp only [c4, decide_true, if_true]
      exact bindE hu3 ⟨_, rfl, hQ _ _ (by simp) (.inr (show q + 1 + 1 + 1 + 1 + 1 = q + 5 by omega))⟩
    simp only [c4, decide_false, Bool.false_eq_true, if_false]
    refine bindP Q ?_ (fun a ha => ⟨_, rfl, ha⟩)
    by_cases c5 : u = 5
    · simp only [c5, decide_true, if_true]
      exact bindE hsub ⟨_, rfl, hQ _ _ (by simp) (by omega)⟩
    simp only [c5, decide_false, Bool.false_eq_true, if_false]
    refine bindP Q ?_ (fun a ha => ⟨_, rfl, ha⟩)
    by_cases c6 : u = 6
    · simp only [c6, decide_true, if_true]
      exact bindE hu4 ⟨_, rfl, hQ _ _ (by simp) (.inr (show q + 1 + 1 + 1 + 1 + 1 = q + 5 by omega))⟩
    simp only [c6, decide_false, Bool.false_eq_true, if_false]
    exact ⟨_, rfl, hQ _ _ (by simp) (by omega)⟩
  · rintro ⟨l, r⟩ ⟨g1, g2, g3⟩
    simp only at g1 g2 g3
    exact ⟨_, rfl, ⟨rfl, g2, g3⟩, by simp only; omega⟩

theorem open_ok (code : List UInt8) : ∃ b, spec_l30Open code = some ⟨b, 0⟩ ∧ b.length ≤ 2000 := by
  unfold spec_l30Open
  by_cases c : 2000 < (code.length : Int)
  · have hs : subM code 0 2000 = some ((code.take (2000 : Int).toNat).drop (0 : Int).toNat) := if_pos ⟨by omega, by omega, by omega⟩
    simp only [c, decide_true, if_true]
    exact ⟨_, bindt (bindt hs rfl) rfl, by simp; omega⟩
  · simp only [c, decide_false, Bool.false_eq_true, if_false]
    exact ⟨code, rfl, by omega⟩

theorem draw_ok (code : List UInt8) : ∃ x, spec_DrawEncodeMins code = some x ∧ True := by
  unfold spec_DrawEncodeMins
  refine bindP (fun _ => True) ?_ (fun a _ => ⟨a, rfl, trivial⟩)
  unfold spec_DrawMinsText
  obtain ⟨b, hb, hl⟩ := open_ok code
  refine bindE hb ?_
  obtain ⟨⟨m, ⟨b', q⟩⟩, hm, ⟨e1, e2, e3⟩, e4⟩ := bent_ok b hl 0 (by omega) (by omega)
  simp only at e1 e2 e3 e4
  subst e1
  refine bindE hm ?_
  obtain ⟨f, hf, _, _⟩ := getI_in (xs := m.fns) (j := (m.fns.length : Int) - 1) (by omega) (by omega)
  refine bindE hf ?_
  by_cases c : (f.ins.length : Int) = 0
  · simp only [c, decide_true, if_true]
    exact ⟨_, rfl, trivial⟩
  · simp only [c, decide_false, Bool.false_eq_true, if_false]
    obtain ⟨j, hj, j0, j1⟩ := pick_ok b' hl q (f.ins.length : Int) (by omega) (by omega)
    refine bindE hj ?_
    obtain ⟨x, hx, _, _⟩ := getI_in (xs := f.ins) j0 (j1 (by omega))
    exact bindE hx ⟨_, rfl, trivial⟩

/-! ### one instruction -/
theorem core (x : Mins) : ∃ l b, spec_EncodeMins x = some (l, b) ∧ impl_EncodeMins x = some (l, b) ∧ l.length ≤ 3 ∧ (b = true → l = enc x ∧ jumps x.op = false ∧ inB x.n_ 0 255 = true) := by
  unfold spec_EncodeMins impl_EncodeMins impl_isByte
  obtain ⟨f, _, hf⟩ := formOf_ok x
  rw [hf]
  simp only [Option.bind_some, l24Jumps_ok, jumpOp_ok, l1In_ok, within_ok]
  cases hin : inB x.op 1 22 with
  | false =>
    have hw : spec_l22Word x.op = some (mkS [], mkS []) := by
      unfold spec_l22Word
      rw [l1In_ok, hin]
      rfl
    rw [hw]
    exact ⟨[], false, by simp, by simp, by simp, by simp⟩
  | true =>
    obtain ⟨w, t, hw, ht⟩ := word_ok x hin
    have hne : t ≠ mkS [] := by
      rintro rfl
      simp [mkS] at ht
    rw [hw]
    simp only [Option.bind_some, rest_ok _ x t ht, hne, decide_false, Bool.false_eq_true, if_false, Bool.true_and]
    cases hj : jumps x.op with
    | true =>
      refine ⟨[], false, by simp, ?_, by simp, by simp⟩
      cases rest (mask x.op) x <;> simp
    | false =>
      cases hr : rest (mask x.op) x with
      | false => exact ⟨[], false, by simp, by simp, by simp, by simp⟩
      | true =>
        cases hn : inB x.n_ 0 255 with
        | false =>
          refine ⟨[], false, by simp, ?_, by simp, by simp⟩
          cases inB x.a_ 0 7 <;> cases inB x.b 0 7 <;> cases inB x.c 0 7 <;> simp
        | true =>
          cases ha : inB x.a_ 0 7 with
          | false => exact ⟨[], false, by simp, by simp, by simp, by simp⟩
          | true =>
            cases hb : inB x.b 0 7 with
            | false => exact ⟨[], false, by simp, by simp, by simp, by simp⟩
            | true =>
              cases hc : inB x.c 0 7 with
              | false => exact ⟨[], false, by simp, by simp, by simp, by simp⟩
              | true =>
                obtain ⟨l, h1, h2, h3⟩ := enc_ok x hin hj ha hb
                exact ⟨l, true, by simp [h1], by simp [h2], h3, fun _ => ⟨by simp [enc, h1], rfl, rfl⟩⟩

theorem enc_three (f : Mfn) (q0_1 : layout) (x z : Mins) (l m : List UInt8) (hf : f.ins = [x, x, z]) (hx : jumps x.op = false) (hz : jumps z.op = false) (ex : impl_encoded x = some l) (ez : impl_encoded z = some m)
    (hl : l.length ≤ 3) (hm : m.length ≤ 3) : forN (fun (i1_1 : Int) (xs1_1 : (List UInt8)) => (Option.bind (Option.bind (getI f.ins i1_1) fun x2_1 => Option.bind (impl_jumpOp x2_1.op) fun r2_1 => if !(r2_1) then Option.bind (impl_encoded x2_1) fun r2_2 => Option.bind (appM xs1_1 r2_2) fun ys2_1 => some ys2_1 else Option.bind (getI q0_1.long i1_1) fun x2_2 => Option.bind (if x2_2 then some ((byteI x2_1.op) + (128 : UInt8)) else some (byteI x2_1.op) : Option (UInt8)) fun s2_1 => Option.bind (appM xs1_1 ([s2_1] : List UInt8)) fun ys2_2 => Option.bind (if decide (x2_1.op = 21) then Option.bind (appM ys2_2 ([(byteI x2_1.a_)] : List UInt8)) fun ys3_1 => some ys3_1 else some ys2_2 : Option ((List UInt8))) fun s2_2 => Option.bind (getI q0_1.places x2_1.n_) fun x2_3 => Option.bind (getI q0_1.long i1_1) fun x2_4 => Option.bind (if x2_4 then Option.bind (appM s2_2 ([(byteI (x2_3.tmod 256)), (byteI (w64 (x2_3.tdiv 256)))] : List UInt8)) fun ys3_2 => some ys3_2 else Option.bind (pimpl_layout__offset q0_1 i1_1) fun r3_1 => Option.bind (appM s2_2 ([(byteI r3_1)] : List UInt8)) fun ys3_3 => some ys3_3 : Option ((List UInt8))) fun s2_3 => some s2_3 : Option ((List UInt8))) fun s1_1 => some (.inl s1_1) : Option (((List UInt8)) ⊕ (Empty)))) (((f.ins.length : Int) : Int) - 0).toNat 0 [] = some (.inl (l ++ l ++ m)) := by
  rw [hf]
  show forN _ 3 0 [] = _
  have g0 : getI [x, x, z] 0 = some x := rfl
  have g1 : getI [x, x, z] (0 + 1) = some x := rfl
  have g2 : getI [x, x, z] (0 + 1 + 1) = some z := rfl
  refine (forN_inl (s' := l) ?_).trans ((forN_inl (s' := l ++ l) ?_).trans ((forN_inl (s' := l ++ l ++ m) ?_).trans rfl))
  · simp [g0, jumpOp_ok, hx, ex, appM_ok (show ([] : List UInt8).length + l.length ≤ 2147483648 by simp; omega)]
  · simp only [g1, jumpOp_ok, hx, ex, Option.bind_some, Bool.not_false, if_true, appM_ok (show l.length + l.length ≤ 2147483648 by omega)]
  · simp only [g2, jumpOp_ok, hz, ez, Option.bind_some, Bool.not_false, if_true, appM_ok (show (l ++ l).length + m.length ≤ 2147483648 by simp; omega)]

theorem encFn_three (x : Mins) (hj : jumps x.op = false) (hn : inB x.n_ 0 255 = true) :
    ∃ l b, impl_EncodeFn ⟨3, 64, [x, x, ⟨22, 3, 0, 0, 0⟩]⟩ = some (l, b) ∧ (b = true → l = enc x ++ enc x ++ [22, 3]) := by
  have hr : ∀ y ∈ ([x, x, ⟨22, 3, 0, 0, 0⟩] : List Mins), -9223372036854775808 ≤ y.n_ := by
    have := range_cases.1 hn
    intro y hy
    simp only [List.mem_cons, List.not_mem_nil, or_false] at hy
    rcases hy with rfl | rfl | rfl
    · omega
    · omega
    · simp
  rcases both ⟨3, 64, [x, x, ⟨22, 3, 0, 0, 0⟩]⟩ (by simp) hr with ⟨_, h2⟩ | ⟨lg, hg, hlen, h1, h2, h3, h4⟩
  · exact ⟨[], false, bindt h2 rfl, by simp⟩
  · obtain ⟨_, e2, e3⟩ := enc_both hg (show x ∈ _ by simp) hj
    have hz : impl_encoded ⟨22, 3, 0, 0, 0⟩ = some [22, 3] := by
      unfold impl_encoded impl_shapeOf
      decide
    exact ⟨_, true, bindt h4 (bindt (enc_three _ _ x ⟨22, 3, 0, 0, 0⟩ (enc x) [22, 3] rfl hj (by decide) e2 hz e3 (by simp)) rfl), fun _ => rfl⟩

theorem lawTwo (code : List UInt8) : laws_FnEncodeMins code = some true := by
  unfold laws_FnEncodeMins
  by_cases c : 1048576 < (code.length : Int)
  · simp only [c, decide_true, if_true]
  simp only [c, decide_false, Bool.false_eq_true, if_false]
  obtain ⟨x, hx, _⟩ := draw_ok code
  obtain ⟨l, b, h1, h2, h3, h4⟩ := core x
  refine bindt hx (bindt h2 (bindt h1 ?_))
  simp only [ne_eq, not_true_eq_false, decide_false, Bool.false_eq_true, if_false, Option.bind_some]
  cases b with
  | false => simp
  | true =>
    obtain ⟨rfl, hj, hn⟩ := h4 rfl
    obtain ⟨m, t, h5, h6⟩ := encFn_three x hj hn
    simp only [Bool.not_true, Bool.false_eq_true, if_false]
    refine bindt h5 ?_
    cases t with
    | false => rfl
    | true =>
      obtain rfl := h6 rfl
      have a1 : catS (strL (enc x)) (strL (enc x)) = some (strL (enc x ++ enc x)) := catS_some.2 ⟨by rw [strL_b (by omega)]; omega, by rw [strL_b (by simp; omega), strL_b (by omega)]⟩
      have a2 : catS (strL (enc x ++ enc x)) (mkS [22, 3]) = some (strL (enc x ++ enc x ++ [22, 3])) := catS_some.2 ⟨by rw [strL_b (by simp; omega)]; simp [mkS]; omega, by rw [strL_b (by simp; omega), strL_b (by simp; omega)]; rfl⟩
      simp only [Bool.not_true, Bool.false_eq_true, if_false, a1, a2, Option.bind_some, decide_true]
end Lay
end Go.Wk
