/- A part of the proof of FnEncodeMinsCardSaid. -/
import Derived.Test.YtmhjfaoefcdelaaDoorTwModels
import Derived.Test.YtmhjfaoefcdelaaDoorWkP
namespace Go.Wk
open Go
namespace Lay

def inB (n low high : Int) : Bool := decide (low ≤ n) && decide (n ≤ high)
def jumps (op : Int) : Bool := decide (op = 20) || decide (op = 21)

theorem l24Jumps_ok (x : Mins) : spec_l24Jumps x = some (jumps x.op) := by
  unfold spec_l24Jumps jumps
  by_cases h : x.op = 20 <;> simp [h]
theorem jumpOp_ok (op : Int) : impl_jumpOp op = some (jumps op) := by
  unfold impl_jumpOp jumps
  by_cases h : op = 20 <;> simp [h]
theorem l1In_ok (n low high : Int) : spec_l1In n low high = some (inB n low high) := by
  unfold spec_l1In inB
  by_cases h : low ≤ n <;> simp [h]
theorem within_ok (n low high : Int) : impl_within n low high = some (inB n low high) := by
  unfold impl_within inB
  by_cases h : low ≤ n <;> simp [h]

/-- a field that an instruction has not is 0; A B C N: bits 0 .. 3 -/
def rest (m : Nat) (x : Mins) : Bool := (m.testBit 0 || decide (x.a_ = 0)) && (m.testBit 1 || decide (x.b = 0)) && (m.testBit 2 || decide (x.c = 0)) && (m.testBit 3 || decide (x.n_ = 0))

theorem field_ok (x : Mins) : spec_l22Field x 65 = some x.a_ ∧ spec_l22Field x 66 = some x.b ∧ spec_l22Field x 67 = some x.c ∧ spec_l22Field x 78 = some x.n_ := by
  unfold spec_l22Field
  refine ⟨by simp, by simp, by simp, by simp⟩

theorem rest_ok (m : Nat) (x : Mins) (t : Str) (hs : (m, t.b) ∈ [(9, [65, 78]), (3, [65, 66]), (7, [65, 66, 67]), (1, [65]), (8, [78])]) : spec_l22Rest x t = some (rest m x) := by
  obtain ⟨s, h⟩ := t
  obtain ⟨h1, h2, h3, h4⟩ := field_ok x
  have e4 : ((4 : Int) - 0).toNat = 4 := rfl
  simp only [List.mem_cons, Prod.mk.injEq, List.not_mem_nil, or_false] at hs
  unfold spec_l22Rest rest
  rcases hs with ⟨rfl, rfl⟩ | ⟨rfl, rfl⟩ | ⟨rfl, rfl⟩ | ⟨rfl, rfl⟩ | ⟨rfl, rfl⟩ <;>
  · simp [mkS, forN, getI, h1, h2, h3, h4, Nat.testBit, e4]
    by_cases ha : x.a_ = 0 <;> by_cases hb : x.b = 0 <;> by_cases hc : x.c = 0 <;> by_cases hn : x.n_ = 0 <;> simp [ha, hb, hc, hn]

theorem bits_ok : (∀ k ∈ ([9, 3, 7, 1, 8] : List Int), ∀ i ∈ ([0, 1, 2, 3] : List Int), decide (andI k (shlI 1 i) = 0) = !(k.toNat.testBit i.toNat)) := by decide

theorem form_loop (x_ : Mins) (x0_1 : form) (m : Nat) (hm : m ∈ [9, 3, 7, 1, 8]) (hk : x0_1.fields = (m : Int)) :
    forN (fun (i1_1 : Int) (xs1_1 : Unit) => (Option.bind (getI ([x_.a_, x_.b, x_.c, x_.n_] : List Int) i1_1) fun x1_1 => Option.bind (if decide ((andI x0_1.fields (shlI 1 i1_1)) = 0) then some (decide (x1_1 ≠ 0)) else some false : Option (Bool)) fun s1_1 => if s1_1 then some (.inr ((⟨(mkS []), 0⟩ : form), false)) else some (.inl ()) : Option ((Unit) ⊕ (form × Bool)))) ((4 : Int) - 0).toNat 0 () = if rest m x_ then some (.inl ()) else some (.inr (⟨mkS [], 0⟩, false)) := by
  have e4 : ((4 : Int) - 0).toNat = 4 := rfl
  have hb : ∀ i ∈ ([0, 1, 2, 3] : List Int), decide (andI x0_1.fields (shlI 1 i) = 0) = !(m.testBit i.toNat) := by
    intro i hi
    rw [hk]
    exact bits_ok (m : Int) (by simp at hm ⊢; omega) i hi
  have b0 := hb 0 (by simp)
  have b1 := hb 1 (by simp)
  have b2 := hb 2 (by simp)
  have b3 := hb 3 (by simp)
  simp only [show ((0 : Int)).toNat = 0 from rfl, show ((1 : Int)).toNat = 1 from rfl, show ((2 : Int)).toNat = 2 from rfl, show ((3 : Int)).toNat = 3 from rfl] at b0 b1 b2 b3
  rw [e4]
  unfold rest
  simp only [forN, getI, Int.zero_add, show (1 : Int) + 1 = 2 from rfl, show (2 : Int) + 1 = 3 from rfl, b0, b1, b2, b3]
  cases m.testBit 0 <;> cases m.testBit 1 <;> cases m.testBit 2 <;> cases m.testBit 3 <;>
    by_cases ha : x_.a_ = 0 <;> by_cases hb : x_.b = 0 <;> by_cases hc : x_.c = 0 <;> by_cases hn : x_.n_ = 0 <;> simp [ha, hb, hc, hn]

def mask (op : Int) : Nat := ([0, 9, 3, 7, 7, 7, 7, 7, 7, 7, 3, 3, 3, 1, 8, 9, 9, 9, 9, 1, 8, 9, 1] : List Nat).getD op.toNat 0

theorem formOf_ok (x : Mins) : ∃ f, (inB x.op 1 22 = true → f.fields = (mask x.op : Int) ∧ mask x.op ∈ [9, 3, 7, 1, 8]) ∧ impl_formOf x = some (if inB x.op 1 22 && rest (mask x.op) x then (f, true) else (⟨mkS [], 0⟩, false)) := by
  unfold impl_formOf
  rw [within_ok, Option.bind_some]
  cases hin : inB x.op 1 22 with
  | false => exact ⟨⟨mkS [], 0⟩, by simp, by simp⟩
  | true =>
    simp only [inB, Bool.and_eq_true, decide_eq_true_eq] at hin
    have hf : ∃ f, getI glob_impl_forms x.op = some f ∧ f.fields = (mask x.op : Int) ∧ mask x.op ∈ [9, 3, 7, 1, 8] := by
      have h : ∀ j : Nat, j < 23 → 1 ≤ j → ∃ f, glob_impl_forms[j]? = some f ∧ f.fields = ((([0, 9, 3, 7, 7, 7, 7, 7, 7, 7, 3, 3, 3, 1, 8, 9, 9, 9, 9, 1, 8, 9, 1] : List Nat).getD j 0 : Nat) : Int) ∧ ([0, 9, 3, 7, 7, 7, 7, 7, 7, 7, 3, 3, 3, 1, 8, 9, 9, 9, 9, 1, 8, 9, 1] : List Nat).getD j 0 ∈ [9, 3, 7, 1, 8] := by
        intro j hj h1
        have : j = 1 ∨ j = 2 ∨ j = 3 ∨ j = 4 ∨ j = 5 ∨ j = 6 ∨ j = 7 ∨ j = 8 ∨ j = 9 ∨ j = 10 ∨ j = 11 ∨ j = 12 ∨ j = 13 ∨ j = 14 ∨ j = 15 ∨ j = 16 ∨ j = 17 ∨ j = 18 ∨ j = 19 ∨ j = 20 ∨ j = 21 ∨ j = 22 := by omega
        rcases this with rfl | rfl | rfl | rfl | rfl | rfl | rfl | rfl | rfl | rfl | rfl | rfl | rfl | rfl | rfl | rfl | rfl | rfl | rfl | rfl | rfl | rfl <;> exact ⟨_, rfl, rfl, by decide⟩
      obtain ⟨f, h1, h2, h3⟩ := h x.op.toNat (by omega) (by omega)
      exact ⟨f, by rw [getI, if_pos (by omega), h1], h2, h3⟩
    obtain ⟨f, h1, h2, h3⟩ := hf
    refine ⟨f, fun _ => ⟨h2, h3⟩, ?_⟩
    simp only [h1, Option.bind_some, Bool.not_true, Bool.false_eq_true, if_false, Bool.true_and]
    rw [form_loop x f (mask x.op) h3 h2]
    cases rest (mask x.op) x <;> simp

theorem word_ok (x : Mins) (hin : inB x.op 1 22 = true) : ∃ w t, spec_l22Word x.op = some (w, t) ∧ (mask x.op, t.b) ∈ [(9, [65, 78]), (3, [65, 66]), (7, [65, 66, 67]), (1, [65]), (8, [78])] := by
  unfold spec_l22Word
  rw [l1In_ok, hin, Option.bind_some]
  simp only [Bool.not_true, Bool.false_eq_true, if_false]
  simp only [inB, Bool.and_eq_true, decide_eq_true_eq] at hin
  generalize x.op = op at hin
  have : op = 1 ∨ op = 2 ∨ op = 3 ∨ op = 4 ∨ op = 5 ∨ op = 6 ∨ op = 7 ∨ op = 8 ∨ op = 9 ∨ op = 10 ∨ op = 11 ∨ op = 12 ∨ op = 13 ∨ op = 14 ∨ op = 15 ∨ op = 16 ∨ op = 17 ∨ op = 18 ∨ op = 19 ∨ op = 20 ∨ op = 21 ∨ op = 22 := by omega
  rcases this with rfl | rfl | rfl | rfl | rfl | rfl | rfl | rfl | rfl | rfl | rfl | rfl | rfl | rfl | rfl | rfl | rfl | rfl | rfl | rfl | rfl | rfl <;> exact ⟨_, _, rfl, by decide⟩

theorem shape_ok (op : Int) (h1 : inB op 1 22 = true) : impl_shapeOf op = some (if op = 1 ∨ (15 ≤ op ∧ op ≤ 18) then 0 else if op = 2 ∨ (10 ≤ op ∧ op ≤ 12) then 1 else if op = 13 ∨ op = 19 ∨ op = 22 then 3 else if op = 14 then 4 else if op = 20 ∨ op = 21 then 5 else 2) := by
  simp only [inB, Bool.and_eq_true, decide_eq_true_eq] at h1
  have : op = 1 ∨ op = 2 ∨ op = 3 ∨ op = 4 ∨ op = 5 ∨ op = 6 ∨ op = 7 ∨ op = 8 ∨ op = 9 ∨ op = 10 ∨ op = 11 ∨ op = 12 ∨ op = 13 ∨ op = 14 ∨ op = 15 ∨ op = 16 ∨ op = 17 ∨ op = 18 ∨ op = 19 ∨ op = 20 ∨ op = 21 ∨ op = 22 := by omega
  unfold impl_shapeOf
  rcases this with rfl | rfl | rfl | rfl | rfl | rfl | rfl | rfl | rfl | rfl | rfl | rfl | rfl | rfl | rfl | rfl | rfl | rfl | rfl | rfl | rfl | rfl <;> simp

theorem byte_two (a b : Int) (ha : 0 ≤ a ∧ a ≤ 7) (hb : 0 ≤ b ∧ b ≤ 7) : byteI (w64 (a + w64 (8 * b))) = byteI a + (8 : UInt8) * byteI b := by
  simp (disch := omega) only [w64_id]
  apply UInt8.toNat_inj.1
  have h1 := byteI_toNat (a + 8 * b)
  have h2 := byteI_toNat a
  have h3 := byteI_toNat b
  rw [UInt8.toNat_add, UInt8.toNat_mul, show (8 : UInt8).toNat = 8 from rfl]
  omega

theorem enc_ok (x : Mins) (h1 : inB x.op 1 22 = true) (hj : jumps x.op = false) (ha : inB x.a_ 0 7 = true) (hb : inB x.b 0 7 = true) : ∃ l, spec_l25Plain x = some l ∧ impl_encoded x = some l ∧ l.length ≤ 3 := by
  unfold spec_l25Plain impl_encoded
  rw [shape_ok _ h1]
  simp only [l1In_ok, Option.bind_some]
  simp only [inB, Bool.and_eq_true, decide_eq_true_eq] at h1 ha hb
  simp only [jumps, Bool.or_eq_false_iff, decide_eq_false_iff_not] at hj
  rw [byte_two _ _ ha hb]
  by_cases c1 : x.op = 1
  · simp [c1]
  by_cases c2 : 15 ≤ x.op ∧ x.op ≤ 18
  · simp [c1, c2, inB]
  by_cases c3 : 3 ≤ x.op ∧ x.op ≤ 9
  · have n2 : x.op ≠ 2 := by omega
    have n3 : ¬ (10 ≤ x.op ∧ x.op ≤ 12) := by omega
    have n4 : ¬ (x.op = 13 ∨ x.op = 19 ∨ x.op = 22) := by omega
    have n5 : x.op ≠ 14 := by omega
    have n6 : ¬ (x.op = 20 ∨ x.op = 21) := by omega
    have m1 : ¬ (x.op = 1 ∨ 15 ≤ x.op ∧ x.op ≤ 18) := by omega
    have m2 : ¬ (x.op = 2 ∨ 10 ≤ x.op ∧ x.op ≤ 12) := by omega
    simp [c1, c2, c3, inB, n2, n3, n4, n5, n6]
  by_cases c4 : x.op = 2
  · simp [c4, inB]
  by_cases c5 : 10 ≤ x.op ∧ x.op ≤ 12
  · simp [c1, c2, c3, c4, c5, inB]
  by_cases c6 : x.op = 14
  · simp [c6, inB]
  · have n4 : x.op = 13 ∨ x.op = 19 ∨ x.op = 22 := by omega
    simp [c1, c2, c3, c4, c5, c6, n4, inB]


/-! ### what MachValid asks -/
def lim (k slots params len op : Int) : Int := if op = 14 then k - 1 else if op = 15 ∨ op = 16 then slots - 1 else if op = 17 then 2 else if op = 18 then params - 1 else if op = 20 ∨ op = 21 then len - 1 else 255
def okIns (k slots params len : Int) (x : Mins) : Bool := inB x.op 1 22 && rest (mask x.op) x && (inB x.a_ 0 7 && inB x.b 0 7 && inB x.c 0 7) && (!(mask x.op).testBit 3 || inB x.n_ 0 (lim k slots params len x.op))

theorem op_cases {op : Int} (h : inB op 1 22 = true) : op = 1 ∨ op = 2 ∨ op = 3 ∨ op = 4 ∨ op = 5 ∨ op = 6 ∨ op = 7 ∨ op = 8 ∨ op = 9 ∨ op = 10 ∨ op = 11 ∨ op = 12 ∨ op = 13 ∨ op = 14 ∨ op = 15 ∨ op = 16 ∨ op = 17 ∨ op = 18 ∨ op = 19 ∨ op = 20 ∨ op = 21 ∨ op = 22 := by
  simp only [inB, Bool.and_eq_true, decide_eq_true_eq] at h
  omega

theorem eight_ok : ∀ k ∈ ([9, 3, 7, 1, 8] : List Nat), decide (andI (k : Int) 8 = 0) = !(k.testBit 3) := by decide

section
variable {m : Mach} {k : Int} {fn : Mfn} (hk : getI m.fns k = some fn) (h0 : 0 ≤ k) (h1 : k ≤ 1000000) (hs : 0 ≤ fn.slots ∧ fn.slots ≤ 64) (hp : 0 ≤ fn.params ∧ fn.params ≤ 3)
include hk h0 h1 hs hp

theorem minsOk_ok (x : Mins) : impl_minsOk m k x = some (okIns k fn.slots fn.params fn.ins.length x) := by
  unfold impl_minsOk okIns
  obtain ⟨f, hm, hf⟩ := formOf_ok x
  rw [hf]
  simp only [Option.bind_some, within_ok]
  cases hin : inB x.op 1 22 with
  | false => simp
  | true =>
    obtain ⟨hm1, hm2⟩ := hm hin
    cases hr : rest (mask x.op) x with
    | false => simp
    | true =>
      simp only [Bool.and_true, if_true, Bool.not_true, Bool.false_eq_true, if_false, Bool.true_and]
      have h8 := eight_ok (mask x.op) hm2
      rw [← hm1] at h8
      cases ha : inB x.a_ 0 7 <;> cases hb : inB x.b 0 7 <;> cases hc : inB x.c 0 7 <;> simp only [Bool.not_true, Bool.not_false, Bool.false_eq_true, if_true, if_false, Option.bind_some, Bool.and_true, Bool.and_false, Bool.false_and, Bool.true_and]
      have hl : (Option.bind (if decide (x.op = 14) then some (w64 (k - 1)) else Option.bind (if decide (x.op = 15) then some (decide (x.op = 15)) else some (decide (x.op = 16)) : Option (Bool)) fun s2_1 => Option.bind (if s2_1 then Option.bind (getI m.fns k) fun x3_1 => some (w64 (x3_1.slots - 1)) else Option.bind (if decide (x.op = 17) then some 2 else Option.bind (if decide (x.op = 18) then Option.bind (getI m.fns k) fun x5_1 => some (w64 (x5_1.params - 1)) else Option.bind (if decide (x.op = 20) then some (decide (x.op = 20)) else some (decide (x.op = 21)) : Option (Bool)) fun s5_1 => Option.bind (if s5_1 then Option.bind (getI m.fns k) fun x6_1 => some (((x6_1.ins.length : Int)) - 1) else some 255 : Option (Int)) fun s5_2 => some s5_2 : Option (Int)) fun s4_1 => some s4_1 : Option (Int)) fun s3_1 => some s3_1 : Option (Int)) fun s2_2 => some s2_2 : Option (Int)) fun s1_1 => some s1_1 : Option (Int)) = some (lim k fn.slots fn.params fn.ins.length x.op) := by
        unfold lim
        rw [hk]
        by_cases c1 : x.op = 14
        · simp (disch := omega) [c1, w64_id]
        by_cases c2 : x.op = 15
        · simp (disch := omega) [c2, w64_id]
        by_cases c3 : x.op = 16
        · simp (disch := omega) [c3, w64_id]
        by_cases c4 : x.op = 17
        · simp [c4]
        by_cases c5 : x.op = 18
        · simp (disch := omega) [c5, w64_id]
        by_cases c6 : x.op = 20
        · simp [c6]
        by_cases c7 : x.op = 21
        · simp [c7]
        · simp [c1, c2, c3, c4, c5, c6, c7]
      rw [hl]
      simp only [Option.bind_some]
      rw [h8]
      cases (mask x.op).testBit 3 <;> simp

theorem l22Ins_ok (x : Mins) : spec_l22Ins m k x = some (okIns k fn.slots fn.params fn.ins.length x) := by
  unfold spec_l22Ins okIns
  rw [hk]
  simp only [Option.bind_some, l1In_ok]
  cases hin : inB x.op 1 22 with
  | false =>
    have hw : spec_l22Word x.op = some (mkS [], mkS []) := by
      unfold spec_l22Word
      rw [l1In_ok, hin]
      rfl
    rw [hw]
    simp
  | true =>
    obtain ⟨w, t, hw, ht⟩ := word_ok x hin
    have hne : t ≠ mkS [] := by
      rintro rfl
      simp [mkS] at ht
    rw [hw]
    simp only [Option.bind_some, rest_ok _ x t ht, hne, decide_false, Bool.false_eq_true, if_false, Bool.true_and]
    cases hr : rest (mask x.op) x with
    | false => simp
    | true =>
      simp only [Bool.not_true, Bool.false_eq_true, if_false]
      have hloop : forN (S := Unit) (X := Bool) (fun i1_1 xs1_1 => Option.bind (Option.bind (getI (t).b i1_1) fun x2_1 => if decide (x2_1 ≠ (78 : UInt8)) then Option.bind (getI (t).b i1_1) fun x2_2 => Option.bind (spec_l22Field x x2_2) fun r2_1 => some (!(inB r2_1 0 7)) else some false : Option (Bool)) fun s1_1 => if s1_1 then some (.inr false) else some (.inl ())) ((((t).b.length : Int) : Int) - 0).toNat 0 () = if (inB x.a_ 0 7 && inB x.b 0 7 && inB x.c 0 7) then some (.inl ()) else some (.inr false) := by
        obtain ⟨h1, h2, h3, h4⟩ := field_ok x
        have z : inB 0 0 7 = true := by decide
        obtain ⟨s, hs⟩ := t
        simp only [List.mem_cons, Prod.mk.injEq, List.not_mem_nil, or_false] at ht
        rcases ht with ⟨hm, rfl⟩ | ⟨hm, rfl⟩ | ⟨hm, rfl⟩ | ⟨hm, rfl⟩ | ⟨hm, rfl⟩ <;> rw [hm] at hr <;> simp [rest, Nat.testBit] at hr
        · obtain ⟨hb, hc⟩ := hr
          simp [forN, getI, h1, hb, hc, z]
          cases inB x.a_ 0 7 <;> simp
        · obtain ⟨hc, hn⟩ := hr
          simp [forN, getI, h1, h2, hc, z]
          cases inB x.a_ 0 7 <;> cases inB x.b 0 7 <;> simp
        · simp [forN, getI, h1, h2, h3]
          cases inB x.a_ 0 7 <;> cases inB x.b 0 7 <;> cases inB x.c 0 7 <;> simp
        · obtain ⟨⟨hb, hc⟩, hn⟩ := hr
          simp [forN, getI, h1, hb, hc, z]
          cases inB x.a_ 0 7 <;> simp
        · obtain ⟨⟨ha, hb⟩, hc⟩ := hr
          simp [forN, getI, ha, hb, hc, z]
      rw [hloop]
      cases ha : (inB x.a_ 0 7 && inB x.b 0 7 && inB x.c 0 7) with
      | false => simp
      | true =>
        simp only [if_true, Option.bind_some, Sum.elim_inl, Bool.true_and]
        rw [w64_id (n := k - 1) (by omega) (by omega), w64_id (n := fn.slots - 1) (by omega) (by omega), w64_id (n := fn.params - 1) (by omega) (by omega)]
        rcases op_cases hin with h | h | h | h | h | h | h | h | h | h | h | h | h | h | h | h | h | h | h | h | h | h <;> rw [h] <;> simp [mask, lim, Nat.testBit]
end

/-- a function of a machine -/
def okFn (k : Int) (f : Mfn) : Bool := inB f.params 0 3 && inB f.slots 0 64 && (f.ins.getLast?.any fun x => decide (x.op = 20) || decide (x.op = 22)) && f.ins.all (okIns k f.slots f.params f.ins.length)
def total (fs : List Mfn) : Nat := (fs.map (·.ins.length)).sum
def okFns : Int → List Mfn → Bool
  | _, [] => true
  | k, f :: r => okFn k f && okFns (k + 1) r
def validM (m : Mach) : Bool := inB m.fns.length 1 4 && okFns 0 m.fns && decide (total m.fns ≤ 2000)

theorem okFns_append (k : Int) (l r : List Mfn) : okFns k (l ++ r) = (okFns k l && okFns (k + l.length) r) := by
  induction l generalizing k with
  | nil => simp [okFns]
  | cons x l ih =>
    simp only [List.cons_append, okFns, ih, List.length_cons, Bool.and_assoc]
    rw [show k + ((l.length + 1 : Nat) : Int) = k + 1 + l.length by omega]

theorem total_append (l r : List Mfn) : total (l ++ r) = total l + total r := by simp [total]

theorem last_get {l : List Mins} (h : l ≠ []) : getI l ((l.length : Int) - 1) = some (l.getLast h) := by
  have : 0 < l.length := List.length_pos_iff.2 h
  rw [getI, if_pos (by omega), show ((l.length : Int) - 1).toNat = l.length - 1 by omega, List.getElem?_eq_getElem (by omega), List.getLast_eq_getElem]

theorem any_not {α : Type} (l : List α) (p : α → Bool) : (l.any fun x => !(p x)) = !(l.all p) := by
  induction l with
  | nil => rfl
  | cons x l ih => simp [ih]

theorem contains_ok (s_ : List Mins) (f : Mins → Option Bool) (p : Mins → Bool) (h : ∀ x ∈ s_, f x = some (p x)) : slices_ContainsFunc_S_impl_Mins_impl_Mins s_ f = some (s_.any p) := by
  unfold slices_ContainsFunc_S_impl_Mins_impl_Mins slices_IndexFunc_S_impl_Mins_impl_Mins
  rcases forN_find (xs := s_) (body := (fun (i1_1 : Int) (xs1_1 : Unit) => (Option.bind (getI s_ i1_1) fun x1_1 => Option.bind (f x1_1) fun r1_1 => if r1_1 then some (.inr i1_1) else some (.inl ()) : Option ((Unit) ⊕ (Int))))) p (fun i => i) (fun l' x r he => by
      rw [he, getI_mid]
      simp [h x (by rw [he]; simp)]) with ⟨h1, h2⟩ | ⟨l', x, r, he, h1, h2, h3⟩
  · rw [h2]
    simp [h1]
  · rw [h3]
    have : s_.any p = true := by rw [he]; simp [h2]
    simp [this]


/-! ### both say the same -/
theorem range_cases {n low high : Int} : inB n low high = true ↔ low ≤ n ∧ n ≤ high := by simp [inB]
section
variable {m : Mach} (hb : ∀ f ∈ m.fns, f.ins.length ≤ 1048576)
include hb

theorem impl_valid : impl_MachValid m = some (validM m) := by
  unfold impl_MachValid validM
  rw [within_ok, Option.bind_some]
  cases hn : inB m.fns.length 1 4 with
  | false => simp
  | true =>
    simp only [Bool.not_true, Bool.false_eq_true, if_false, Bool.true_and]
    have hn' := range_cases.1 hn
    rcases forN_list (xs := m.fns) (body := (fun (i1_1 : Int) (xs1_1 : Int) => (Option.bind (getI m.fns i1_1) fun x1_1 => Option.bind (Option.bind (impl_within x1_1.params 0 3) fun r2_1 => if !(r2_1) then some true else Option.bind (impl_within x1_1.slots 0 64) fun r2_2 => if !(r2_2) then some true else some (decide (((x1_1.ins.length : Int)) = 0)) : Option (Bool)) fun s1_1 => if s1_1 then some (.inr false) else Option.bind (getI x1_1.ins (((x1_1.ins.length : Int)) - 1)) fun x1_2 => Option.bind (if decide (x1_2.op ≠ 20) then some (decide (x1_2.op ≠ 22)) else some false : Option (Bool)) fun s1_2 => if s1_2 then some (.inr false) else Option.bind (slices_ContainsFunc_S_impl_Mins_impl_Mins x1_1.ins (fun y0 => impl_MachValid_1 y0 m i1_1)) fun r1_1 => if r1_1 then some (.inr false) else some (.inl (w64 (xs1_1 + ((x1_1.ins.length : Int))))) : Option ((Int) ⊕ (Bool))))) (s := 0) (fun l acc => okFns 0 l = true ∧ acc = (total l : Int) ∧ total l ≤ 1048576 * l.length) (fun y => y = false ∧ okFns 0 m.fns = false) ⟨rfl, rfl, by simp [total]⟩ (fun l f r acc he ⟨h1, h2, h3⟩ => by
        have hfm : f ∈ m.fns := by rw [he]; simp
        have hlen := hb f hfm
        have hll : l.length ≤ 4 := by rw [he] at hn'; simp at hn'; omega
        have hg : getI m.fns (l.length : Int) = some f := by rw [he, getI_mid]
        have hval : okFns 0 m.fns = (okFn (l.length : Int) f && okFns (l.length + 1 : Int) r) := by
          rw [he, okFns_append, h1]
          simp [okFns]
        rw [hg]
        simp only [Option.bind_some, within_ok]
        cases hp : inB f.params 0 3 with
        | false => exact .inr ⟨false, by simp, rfl, by rw [hval]; simp [okFn, hp]⟩
        | true =>
          cases hs : inB f.slots 0 64 with
          | false => exact .inr ⟨false, by simp, rfl, by rw [hval]; simp [okFn, hs]⟩
          | true =>
            by_cases hz : f.ins = []
            · exact .inr ⟨false, by simp [hz], rfl, by rw [hval]; simp [okFn, hz]⟩
            · have hz' : ¬ ((f.ins.length : Int) = 0) := by
                have := List.length_pos_iff.2 hz
                omega
              simp only [Bool.not_true, Bool.false_eq_true, if_false, Option.bind_some, hz', decide_false, last_get hz]
              have hlast : f.ins.getLast? = some (f.ins.getLast hz) := List.getLast?_eq_some_getLast hz
              by_cases ho : (f.ins.getLast hz).op = 20 ∨ (f.ins.getLast hz).op = 22
              · have e1 : (Option.bind (if decide ((f.ins.getLast hz).op ≠ 20) then some (decide ((f.ins.getLast hz).op ≠ 22)) else some false : Option Bool) fun s1_2 => if s1_2 then some (.inr false) else Option.bind (slices_ContainsFunc_S_impl_Mins_impl_Mins f.ins (fun y0 => impl_MachValid_1 y0 m l.length)) fun r1_1 => if r1_1 then some (.inr false) else some (.inl (w64 (acc + ((f.ins.length : Int)))))) = (Option.bind (slices_ContainsFunc_S_impl_Mins_impl_Mins f.ins (fun y0 => impl_MachValid_1 y0 m l.length)) fun r1_1 => if r1_1 then some (.inr false) else some (.inl (w64 (acc + ((f.ins.length : Int))))) : Option (Int ⊕ Bool)) := by
                  rcases ho with ho | ho <;> simp [ho]
                rw [e1, contains_ok f.ins _ (fun x => !(okIns l.length f.slots f.params f.ins.length x)) (fun x _ => by
                  unfold impl_MachValid_1
                  rw [minsOk_ok hg (by omega) (by omega) (range_cases.1 hs) (range_cases.1 hp)]
                  rfl), any_not]
                cases ha : f.ins.all (okIns l.length f.slots f.params f.ins.length) with
                | false => exact .inr ⟨false, by simp, rfl, by rw [hval]; simp [okFn, ha]⟩
                | true =>
                  refine .inl ⟨_, rfl, ?_, ?_, ?_⟩
                  · rw [okFns_append, h1]
                    simp only [okFns, okFn, hp, hs, hlast, Option.any_some, Bool.true_and, Bool.and_true, Int.zero_add, ha]
                    rcases ho with ho | ho <;> simp [ho]
                  · rw [h2, total_append, w64_id (by omega) (by omega)]
                    simp [total]
                  · rw [total_append]
                    simp [total] at h3 ⊢
                    omega
              · have e2 : ¬ (f.ins.getLast hz).op = 20 ∧ ¬ (f.ins.getLast hz).op = 22 := by omega
                exact .inr ⟨false, by simp [e2], rfl, by rw [hval]; simp [okFn, hlast, e2]⟩) with ⟨acc, h1, h2, h3, h4⟩ | ⟨y, h1, rfl, h2⟩
    · rw [h1]
      simp only [Option.bind_some, Sum.elim_inl, h2, Bool.true_and, h3]
      congr 1
      rw [decide_eq_decide]
      omega
    · rw [h1]
      simp [h2]

theorem spec_valid : spec_MachValid m = some (validM m) := by
  unfold spec_MachValid validM
  rw [l1In_ok, Option.bind_some]
  cases hn : inB m.fns.length 1 4 with
  | false => simp
  | true =>
    simp only [Bool.not_true, Bool.false_eq_true, if_false, Bool.true_and]
    have hn' := range_cases.1 hn
    rcases forN_list (xs := m.fns) (body := (fun (i1_1 : Int) (xs1_1 : Int) => (Option.bind (getI m.fns i1_1) fun x1_1 => Option.bind (Option.bind (spec_l1In x1_1.params 0 3) fun r2_1 => if !(r2_1) then some true else Option.bind (spec_l1In x1_1.slots 0 64) fun r2_2 => if !(r2_2) then some true else if decide (((x1_1.ins.length : Int)) = 0) then some true else some (decide (2000 < (w64 (xs1_1 + ((x1_1.ins.length : Int)))))) : Option (Bool)) fun s1_1 => if s1_1 then some (.inr false) else Option.bind (forN (S := Unit) (X := Bool) (fun i2_1 xs2_1 => Option.bind (getI x1_1.ins i2_1) fun x2_1 => Option.bind (spec_l22Ins m i1_1 x2_1) fun r2_3 => if !(r2_3) then some (.inr false) else some (.inl ())) (((x1_1.ins.length : Int) : Int) - 0).toNat 0 ()) (Sum.elim (fun xs1_2 => Option.bind (getI x1_1.ins (((x1_1.ins.length : Int)) - 1)) fun x1_2 => Option.bind (if decide (x1_2.op ≠ 20) then some (decide (x1_2.op ≠ 22)) else some false : Option (Bool)) fun s1_2 => if s1_2 then some (.inr false) else some (.inl (w64 (xs1_1 + ((x1_1.ins.length : Int)))))) (fun e0 => some (.inr e0))) : Option ((Int) ⊕ (Bool))))) (s := 0) (fun l acc => okFns 0 l = true ∧ acc = (total l : Int) ∧ total l ≤ 2000) (fun y => y = false ∧ (okFns 0 m.fns = false ∨ 2000 < total m.fns)) ⟨rfl, rfl, by simp [total]⟩ (fun l f r acc he ⟨h1, h2, h3⟩ => by
        have hfm : f ∈ m.fns := by rw [he]; simp
        have hlen := hb f hfm
        have hll : l.length ≤ 4 := by rw [he] at hn'; simp at hn'; omega
        have hg : getI m.fns (l.length : Int) = some f := by rw [he, getI_mid]
        have hval : okFns 0 m.fns = (okFn (l.length : Int) f && okFns (l.length + 1 : Int) r) := by
          rw [he, okFns_append, h1]
          simp [okFns]
        have htot : total m.fns = total l + f.ins.length + total r := by
          rw [he, total_append]
          simp [total]
          omega
        rw [hg]
        simp only [Option.bind_some, l1In_ok]
        cases hp : inB f.params 0 3 with
        | false => exact .inr ⟨false, by simp, rfl, .inl (by rw [hval]; simp [okFn, hp])⟩
        | true =>
          cases hs : inB f.slots 0 64 with
          | false => exact .inr ⟨false, by simp, rfl, .inl (by rw [hval]; simp [okFn, hs])⟩
          | true =>
            by_cases hz : f.ins = []
            · exact .inr ⟨false, by simp [hz], rfl, .inl (by rw [hval]; simp [okFn, hz])⟩
            · have hz' : ¬ ((f.ins.length : Int) = 0) := by
                have := List.length_pos_iff.2 hz
                omega
              rw [w64_id (n := acc + (f.ins.length : Int)) (by omega) (by omega)]
              by_cases ht : 2000 < acc + (f.ins.length : Int)
              · exact .inr ⟨false, by simp [hz', ht], rfl, .inr (by omega)⟩
              simp only [Bool.not_true, Bool.false_eq_true, if_false, Option.bind_some, hz', decide_false, last_get hz, ht]
              have hlast : f.ins.getLast? = some (f.ins.getLast hz) := List.getLast?_eq_some_getLast hz
              rw [forN_any (xs := f.ins) (fun x => !(okIns l.length f.slots f.params f.ins.length x)) false (fun l' x r' he' => by
                rw [he', getI_mid, ← he']
                simp only [Option.bind_some]
                rw [l22Ins_ok hg (by omega) (by omega) (range_cases.1 hs) (range_cases.1 hp)]
                rfl), any_not]
              cases ha : f.ins.all (okIns l.length f.slots f.params f.ins.length) with
              | false => exact .inr ⟨false, by simp, rfl, .inl (by rw [hval]; simp [okFn, ha])⟩
              | true =>
                simp only [Bool.not_true, Bool.false_eq_true, if_false, Option.bind_some, Sum.elim_inl]
                by_cases ho : (f.ins.getLast hz).op = 20 ∨ (f.ins.getLast hz).op = 22
                · refine .inl ⟨acc + f.ins.length, ?_, ?_, ?_, ?_⟩
                  · rcases ho with ho | ho <;> simp [ho]
                  · rw [okFns_append, h1]
                    simp only [okFns, okFn, hp, hs, hlast, Option.any_some, Bool.true_and, Bool.and_true, Int.zero_add, ha]
                    rcases ho with ho | ho <;> simp [ho]
                  · rw [h2, total_append]
                    simp [total]
                  · rw [total_append]
                    simp [total] at h2 h3 ⊢
                    omega
                · have e2 : ¬ (f.ins.getLast hz).op = 20 ∧ ¬ (f.ins.getLast hz).op = 22 := by omega
                  exact .inr ⟨false, by simp [e2], rfl, .inl (by rw [hval]; simp [okFn, hlast, e2])⟩) with ⟨acc, h1, h2, h3, h4⟩ | ⟨y, h1, rfl, h2⟩
    · rw [h1]
      simp [h2, h4]
    · rw [h1]
      rcases h2 with h2 | h2
      · simp [h2]
      · have : ¬ (total m.fns ≤ 2000) := by omega
        simp [this]
end
end Lay
end Go.Wk
