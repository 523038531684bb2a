/- A part of the proof of FnExactEncodeMinsCardSaid. -/
import Derived.Test.YtmhjfaoefcdelaaDoorEmModels
import Derived.Test.YtmhjfaoefcdelaaDoorWkP
namespace Go.Wk
open Go
namespace EncodeMins

def inB (n low high : Int) : Bool := decide (low ≤ n) && decide (n ≤ high)
def jumps (op : Int) : Bool := decide (op = 20) || decide (op = 21)

theorem l24Jumps_ok (x : Mins) : spec_l24Jumps x = some (jumps x.op) := by
  unfold spec_l24Jumps jumps
  by_cases h : x.op = 20 <;> simp [h]
theorem jumpOp_ok (op : Int) : impl_jumpOp op = some (jumps op) := by
  unfold impl_jumpOp jumps
  by_cases h : op = 20 <;> simp [h]
theorem l1In_ok (n low high : Int) : spec_l1In n low high = some (inB n low high) := by
  unfold spec_l1In inB
  by_cases h : low ≤ n <;> simp [h]
theorem within_ok (n low high : Int) : impl_within n low high = some (inB n low high) := by
  unfold impl_within inB
  by_cases h : low ≤ n <;> simp [h]

/-- a field that an instruction has not is 0; A B C N: bits 0 .. 3 -/
def rest (m : Nat) (x : Mins) : Bool := (m.testBit 0 || decide (x.a_ = 0)) && (m.testBit 1 || decide (x.b = 0)) && (m.testBit 2 || decide (x.c = 0)) && (m.testBit 3 || decide (x.n_ = 0))

theorem field_ok (x : Mins) : spec_l22Field x 65 = some x.a_ ∧ spec_l22Field x 66 = some x.b ∧ spec_l22Field x 67 = some x.c ∧ spec_l22Field x 78 = some x.n_ := by
  unfold spec_l22Field
  refine ⟨by simp, by simp, by simp, by simp⟩

theorem rest_ok (m : Nat) (x : Mins) (t : Str) (hs : (m, t.b) ∈ [(9, [65, 78]), (3, [65, 66]), (7, [65, 66, 67]), (1, [65]), (8, [78])]) : spec_l22Rest x t = some (rest m x) := by
  obtain ⟨s, h⟩ := t
  obtain ⟨h1, h2, h3, h4⟩ := field_ok x
  have e4 : ((4 : Int) - 0).toNat = 4 := rfl
  simp only [List.mem_cons, Prod.mk.injEq, List.not_mem_nil, or_false] at hs
  unfold spec_l22Rest rest
  rcases hs with ⟨rfl, rfl⟩ | ⟨rfl, rfl⟩ | ⟨rfl, rfl⟩ | ⟨rfl, rfl⟩ | ⟨rfl, rfl⟩ <;>
  · simp [mkS, forN, getI, h1, h2, h3, h4, Nat.testBit, e4]
    by_cases ha : x.a_ = 0 <;> by_cases hb : x.b = 0 <;> by_cases hc : x.c = 0 <;> by_cases hn : x.n_ = 0 <;> simp [ha, hb, hc, hn]

theorem bits_ok : (∀ k ∈ ([9, 3, 7, 1, 8] : List Int), ∀ i ∈ ([0, 1, 2, 3] : List Int), decide (andI k (shlI 1 i) = 0) = !(k.toNat.testBit i.toNat)) := by decide

theorem form_loop (x_ : Mins) (x0_1 : form) (m : Nat) (hm : m ∈ [9, 3, 7, 1, 8]) (hk : x0_1.fields = (m : Int)) :
    forN (fun (i1_1 : Int) (xs1_1 : Unit) => (Option.bind (getI ([x_.a_, x_.b, x_.c, x_.n_] : List Int) i1_1) fun x1_1 => Option.bind (if decide ((andI x0_1.fields (shlI 1 i1_1)) = 0) then some (decide (x1_1 ≠ 0)) else some false : Option (Bool)) fun s1_1 => if s1_1 then some (.inr ((⟨(mkS []), 0⟩ : form), false)) else some (.inl ()) : Option ((Unit) ⊕ (form × Bool)))) ((4 : Int) - 0).toNat 0 () = if rest m x_ then some (.inl ()) else some (.inr (⟨mkS [], 0⟩, false)) := by
  have e4 : ((4 : Int) - 0).toNat = 4 := rfl
  have hb : ∀ i ∈ ([0, 1, 2, 3] : List Int), decide (andI x0_1.fields (shlI 1 i) = 0) = !(m.testBit i.toNat) := by
    intro i hi
    rw [hk]
    exact bits_ok (m : Int) (by simp at hm ⊢; omega) i hi
  have b0 := hb 0 (by simp)
  have b1 := hb 1 (by simp)
  have b2 := hb 2 (by simp)
  have b3 := hb 3 (by simp)
  simp only [show ((0 : Int)).toNat = 0 from rfl, show ((1 : Int)).toNat = 1 from rfl, show ((2 : Int)).toNat = 2 from rfl, show ((3 : Int)).toNat = 3 from rfl] at b0 b1 b2 b3
  rw [e4]
  unfold rest
  simp only [forN, getI, Int.zero_add, show (1 : Int) + 1 = 2 from rfl, show (2 : Int) + 1 = 3 from rfl, b0, b1, b2, b3]
  cases m.testBit 0 <;> cases m.testBit 1 <;> cases m.testBit 2 <;> cases m.testBit 3 <;>
    by_cases ha : x_.a_ = 0 <;> by_cases hb : x_.b = 0 <;> by_cases hc : x_.c = 0 <;> by_cases hn : x_.n_ = 0 <;> simp [ha, hb, hc, hn]

def mask (op : Int) : Nat := ([0, 9, 3, 7, 7, 7, 7, 7, 7, 7, 3, 3, 3, 1, 8, 9, 9, 9, 9, 1, 8, 9, 1] : List Nat).getD op.toNat 0

theorem formOf_ok (x : Mins) : ∃ f, impl_formOf x = some (if inB x.op 1 22 && rest (mask x.op) x then (f, true) else (⟨mkS [], 0⟩, false)) := by
  unfold impl_formOf
  rw [within_ok, Option.bind_some]
  cases hin : inB x.op 1 22 with
  | false => exact ⟨⟨mkS [], 0⟩, by simp⟩
  | true =>
    simp only [inB, Bool.and_eq_true, decide_eq_true_eq] at hin
    have hf : ∃ f, getI glob_impl_forms x.op = some f ∧ f.fields = (mask x.op : Int) ∧ mask x.op ∈ [9, 3, 7, 1, 8] := by
      have h : ∀ j : Nat, j < 23 → 1 ≤ j → ∃ f, glob_impl_forms[j]? = some f ∧ f.fields = ((([0, 9, 3, 7, 7, 7, 7, 7, 7, 7, 3, 3, 3, 1, 8, 9, 9, 9, 9, 1, 8, 9, 1] : List Nat).getD j 0 : Nat) : Int) ∧ ([0, 9, 3, 7, 7, 7, 7, 7, 7, 7, 3, 3, 3, 1, 8, 9, 9, 9, 9, 1, 8, 9, 1] : List Nat).getD j 0 ∈ [9, 3, 7, 1, 8] := by
        intro j hj h1
        have : j = 1 ∨ j = 2 ∨ j = 3 ∨ j = 4 ∨ j = 5 ∨ j = 6 ∨ j = 7 ∨ j = 8 ∨ j = 9 ∨ j = 10 ∨ j = 11 ∨ j = 12 ∨ j = 13 ∨ j = 14 ∨ j = 15 ∨ j = 16 ∨ j = 17 ∨ j = 18 ∨ j = 19 ∨ j = 20 ∨ j = 21 ∨ j = 22 := by omega
        rcases this with rfl | rfl | rfl | rfl | rfl | rfl | rfl | rfl | rfl | rfl | rfl | rfl | rfl | rfl | rfl | rfl | rfl | rfl | rfl | rfl | rfl | rfl <;> exact ⟨_, rfl, rfl, by decide⟩
      obtain ⟨f, h1, h2, h3⟩ := h x.op.toNat (by omega) (by omega)
      exact ⟨f, by rw [getI, if_pos (by omega), h1], h2, h3⟩
    obtain ⟨f, h1, h2, h3⟩ := hf
    refine ⟨f, ?_⟩
    simp only [h1, Option.bind_some, Bool.not_true, Bool.false_eq_true, if_false, Bool.true_and]
    rw [form_loop x f (mask x.op) h3 h2]
    cases rest (mask x.op) x <;> simp

theorem word_ok (x : Mins) (hin : inB x.op 1 22 = true) : ∃ w t, spec_l22Word x.op = some (w, t) ∧ (mask x.op, t.b) ∈ [(9, [65, 78]), (3, [65, 66]), (7, [65, 66, 67]), (1, [65]), (8, [78])] := by
  unfold spec_l22Word
  rw [l1In_ok, hin, Option.bind_some]
  simp only [Bool.not_true, Bool.false_eq_true, if_false]
  simp only [inB, Bool.and_eq_true, decide_eq_true_eq] at hin
  generalize x.op = op at hin
  have : op = 1 ∨ op = 2 ∨ op = 3 ∨ op = 4 ∨ op = 5 ∨ op = 6 ∨ op = 7 ∨ op = 8 ∨ op = 9 ∨ op = 10 ∨ op = 11 ∨ op = 12 ∨ op = 13 ∨ op = 14 ∨ op = 15 ∨ op = 16 ∨ op = 17 ∨ op = 18 ∨ op = 19 ∨ op = 20 ∨ op = 21 ∨ op = 22 := by omega
  rcases this with rfl | rfl | rfl | rfl | rfl | rfl | rfl | rfl | rfl | rfl | rfl | rfl | rfl | rfl | rfl | rfl | rfl | rfl | rfl | rfl | rfl | rfl <;> exact ⟨_, _, rfl, by decide⟩

theorem shape_ok (op : Int) (h1 : inB op 1 22 = true) : impl_shapeOf op = some (if op = 1 ∨ (15 ≤ op ∧ op ≤ 18) then 0 else if op = 2 ∨ (10 ≤ op ∧ op ≤ 12) then 1 else if op = 13 ∨ op = 19 ∨ op = 22 then 3 else if op = 14 then 4 else if op = 20 ∨ op = 21 then 5 else 2) := by
  simp only [inB, Bool.and_eq_true, decide_eq_true_eq] at h1
  have : op = 1 ∨ op = 2 ∨ op = 3 ∨ op = 4 ∨ op = 5 ∨ op = 6 ∨ op = 7 ∨ op = 8 ∨ op = 9 ∨ op = 10 ∨ op = 11 ∨ op = 12 ∨ op = 13 ∨ op = 14 ∨ op = 15 ∨ op = 16 ∨ op = 17 ∨ op = 18 ∨ op = 19 ∨ op = 20 ∨ op = 21 ∨ op = 22 := by omega
  unfold impl_shapeOf
  rcases this with rfl | rfl | rfl | rfl | rfl | rfl | rfl | rfl | rfl | rfl | rfl | rfl | rfl | rfl | rfl | rfl | rfl | rfl | rfl | rfl | rfl | rfl <;> simp

theorem byte_two (a b : Int) (ha : 0 ≤ a ∧ a ≤ 7) (hb : 0 ≤ b ∧ b ≤ 7) : byteI (w64 (a + w64 (8 * b))) = byteI a + (8 : UInt8) * byteI b := by
  simp (disch := omega) only [w64_id]
  apply UInt8.toNat_inj.1
  have h1 := byteI_toNat (a + 8 * b)
  have h2 := byteI_toNat a
  have h3 := byteI_toNat b
  rw [UInt8.toNat_add, UInt8.toNat_mul, show (8 : UInt8).toNat = 8 from rfl]
  omega

theorem enc_ok (x : Mins) (h1 : inB x.op 1 22 = true) (hj : jumps x.op = false) (ha : inB x.a_ 0 7 = true) (hb : inB x.b 0 7 = true) : ∃ l, spec_l25Plain x = some l ∧ impl_encoded x = some l ∧ l.length ≤ 3 := by
  unfold spec_l25Plain impl_encoded
  rw [shape_ok _ h1]
  simp only [l1In_ok, Option.bind_some]
  simp only [inB, Bool.and_eq_true, decide_eq_true_eq] at h1 ha hb
  simp only [jumps, Bool.or_eq_false_iff, decide_eq_false_iff_not] at hj
  rw [byte_two _ _ ha hb]
  by_cases c1 : x.op = 1
  · simp [c1]
  by_cases c2 : 15 ≤ x.op ∧ x.op ≤ 18
  · simp [c1, c2, inB]
  by_cases c3 : 3 ≤ x.op ∧ x.op ≤ 9
  · have n2 : x.op ≠ 2 := by omega
    have n3 : ¬ (10 ≤ x.op ∧ x.op ≤ 12) := by omega
    have n4 : ¬ (x.op = 13 ∨ x.op = 19 ∨ x.op = 22) := by omega
    have n5 : x.op ≠ 14 := by omega
    have n6 : ¬ (x.op = 20 ∨ x.op = 21) := by omega
    have m1 : ¬ (x.op = 1 ∨ 15 ≤ x.op ∧ x.op ≤ 18) := by omega
    have m2 : ¬ (x.op = 2 ∨ 10 ≤ x.op ∧ x.op ≤ 12) := by omega
    simp [c1, c2, c3, inB, n2, n3, n4, n5, n6]
  by_cases c4 : x.op = 2
  · simp [c4, inB]
  by_cases c5 : 10 ≤ x.op ∧ x.op ≤ 12
  · simp [c1, c2, c3, c4, c5, inB]
  by_cases c6 : x.op = 14
  · simp [c6, inB]
  · have n4 : x.op = 13 ∨ x.op = 19 ∨ x.op = 22 := by omega
    simp [c1, c2, c3, c4, c5, c6, n4, inB]

theorem core (x : Mins) : ∃ l b, (∃ l', spec_EncodeMins x = some (l', b) ∧ l' = l) ∧ impl_EncodeMins x = some (l, b) ∧ l.length ≤ 3 := by
  unfold spec_EncodeMins impl_EncodeMins impl_isByte
  obtain ⟨f, hf⟩ := formOf_ok x
  rw [hf]
  simp only [Option.bind_some, l24Jumps_ok, jumpOp_ok, l1In_ok, within_ok]
  cases hin : inB x.op 1 22 with
  | false =>
    have hw : spec_l22Word x.op = some (mkS [], mkS []) := by
      unfold spec_l22Word
      rw [l1In_ok, hin]
      rfl
    rw [hw]
    exact ⟨[], false, ⟨[], by simp, rfl⟩, by simp, by simp⟩
  | true =>
    obtain ⟨w, t, hw, ht⟩ := word_ok x hin
    have hne : t ≠ mkS [] := by
      rintro rfl
      simp [mkS] at ht
    rw [hw]
    simp only [Option.bind_some, rest_ok _ x t ht, hne, decide_false, Bool.false_eq_true, if_false, Bool.true_and]
    cases hj : jumps x.op with
    | true =>
      refine ⟨[], false, ⟨[], by simp, rfl⟩, ?_, by simp⟩
      cases rest (mask x.op) x <;> simp
    | false =>
      cases hr : rest (mask x.op) x with
      | false => exact ⟨[], false, ⟨[], by simp, rfl⟩, by simp, by simp⟩
      | true =>
        cases hn : inB x.n_ 0 255 with
        | false =>
          refine ⟨[], false, ⟨[], by simp, rfl⟩, ?_, by simp⟩
          cases inB x.a_ 0 7 <;> cases inB x.b 0 7 <;> cases inB x.c 0 7 <;> simp
        | true =>
          cases ha : inB x.a_ 0 7 with
          | false => exact ⟨[], false, ⟨[], by simp, rfl⟩, by simp, by simp⟩
          | true =>
            cases hb : inB x.b 0 7 with
            | false => exact ⟨[], false, ⟨[], by simp, rfl⟩, by simp, by simp⟩
            | true =>
              cases hc : inB x.c 0 7 with
              | false => exact ⟨[], false, ⟨[], by simp, rfl⟩, by simp, by simp⟩
              | true =>
                obtain ⟨l, h1, h2, h3⟩ := enc_ok x hin hj ha hb
                exact ⟨l, true, ⟨l, by simp [h1], rfl⟩, by simp [h2], h3⟩

theorem eqByteS_ok (a b : List UInt8) : laws_eqByteS a b = some (decide (a = b)) := by
  unfold laws_eqByteS
  by_cases h : a.length = b.length
  · rw [if_neg (by simp [h]), forN_eqs (ys := b) (e := false) h]
    · by_cases h' : a = b <;> simp [h']
    · intro l x r l' y r' h1 h2 h3
      rw [h1, h2, getI_mid, h3, getI_mid]
      simp only [Option.bind_some]
      by_cases h' : x = y <;> simp [h']
  · have h1 : ¬ (a.length : Int) = b.length := by omega
    rw [if_pos (by simpa using h1), decide_eq_false]
    intro h2; subst h2; exact h rfl

theorem markByteS_ok (a : List UInt8) (k : Int) (hk : 0 ≤ k) (hB : k + a.length ≤ 4611686018427387904) : laws_markByteS a k = some (k + a.length, mkL (fun k _ => byteI k) (fun _ => 1) a k) := by
  unfold laws_markByteS
  rw [forN_mark (fun k _ => byteI k) (fun _ => 1) 4611686018427387904 hk (by rw [sums_const]; omega)]
  · simp [sums_const]
  · intro l x r k h0 h1
    simp only [getI_mid, Option.bind_some]
    simp (disch := omega) only [w64_id]
    rw [show ((l.length : Int)).toNat = l.length by omega, set_mid]
    rfl

theorem heldByteS_ok (a : List UInt8) (k : Int) (hk : 0 ≤ k) (hB : k + a.length ≤ 4611686018427387904) : laws_heldByteS (mkL (fun k _ => byteI k) (fun _ => 1) a k) k = some (k + a.length) := by
  unfold laws_heldByteS
  rw [forN_held (fun k _ => byteI k) (fun _ => 1) 4611686018427387904 hk (by rw [sums_const]; omega)]
  · simp [sums_const]
  · intro l x r j he h0 h1
    simp only [he, getI_mid, Option.bind_some]
    simp (disch := omega) only [w64_id]
    simp

theorem law (aX : Mins) : laws_FnExactEncodeMins aX = some true := by
  unfold laws_FnExactEncodeMins
  obtain ⟨l, b, ⟨l', h1, rfl⟩, h2, h3⟩ := core aX
  have hm := markByteS_ok l' 1 (by omega) (by omega)
  have hh := heldByteS_ok l' 1 (by omega) (by omega)
  have e : ¬ (1 + (l'.length : Int) < 0) := by omega
  simp [laws_toMins, h1, h2, eqByteS_ok, hm, hh, e]
end EncodeMins
end Go.Wk
