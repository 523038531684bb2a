/- A part of the proof of FnExactDecodeFnCardSaid. -/
import Derived.Test.YtmhjfaoefcdelaaDoorDePLaw
import Derived.Test.YtmhjfaoefcdelaaDoorWkS
namespace Go.Wk
open Go
namespace Lay

/-! ### one instruction -/
theorem mapped_ok (l : List UInt8) (h : l.length ≤ 1048576) : impl_mapped_byte_int l (fun y0 => impl_decoded_1 y0) = some (l.map fun c => (c.toNat : Int)) := by
  unfold impl_mapped_byte_int
  rcases forN_list (xs := l) (X := Empty) (s := ([] : List Int)) (body := fun i1_1 xs1_1 => Option.bind (getI l i1_1) fun x1_1 => Option.bind (impl_decoded_1 x1_1) fun r1_1 => Option.bind (appM xs1_1 ([r1_1] : List Int)) fun ys1_1 => some (.inl ys1_1)) (fun a st => st = a.map fun c => (c.toNat : Int)) (fun _ => False) rfl (fun a x r st he hst => by
      left
      subst hst
      have hl : a.length < 1048576 := by rw [he] at h; simp at h; omega
      rw [he, getI_mid]
      simp only [impl_decoded_1, Option.bind_some]
      rw [appM_ok (by simp; omega)]
      exact ⟨_, rfl, by simp⟩) with ⟨st, h1, rfl⟩ | ⟨_, _, h⟩
  · exact bindt h1 rfl
  · exact h.elim

theorem getI_drop (code : List UInt8) (a j : Nat) (h : a + j ≤ 4194304) : getI code (w64 ((a : Int) + (j : Int))) = (code.drop a)[j]? := by
  rw [w64_id (by omega) (by omega), getI, if_pos (by omega), List.getElem?_drop]
  congr 1

/-- an instruction that is read: what the two sides agree on -/
structure One (code : List UInt8) (at_ : Nat) (x : Mins) (n : Nat) : Prop where
  fit : at_ + n ≤ code.length
  two : 2 ≤ n
  four : n ≤ 4
  rng : -9223372036854775808 ≤ x.n_

theorem op_split (c : UInt8) : (if decide (128 ≤ (c.toNat : Int)) then some ((c.toNat : Int) - 128) else some (c.toNat : Int)) = some (((c % 128 : UInt8)).toNat : Int) ∧ decide ((128 : UInt8) ≤ c) = decide (128 ≤ (c.toNat : Int)) := by
  have h := c.toNat_lt
  have h2 : (c % 128 : UInt8).toNat = c.toNat % 128 := by rw [UInt8.toNat_mod]; rfl
  constructor
  · rw [h2]
    by_cases h3 : 128 ≤ (c.toNat : Int)
    · simp only [h3, decide_true, if_true]; congr 1; omega
    · simp only [h3, decide_false, Bool.false_eq_true, if_false]; congr 1; omega
  · rw [decide_eq_decide, UInt8.le_iff_toNat_le]
    show 128 ≤ c.toNat ↔ _
    omega


theorem drop_get {code : List UInt8} {a : Nat} {c : UInt8} {tl : List UInt8} (h : code.drop a = c :: tl) (j : Nat) (hl : code.length ≤ 1048576) (ha : a < code.length) (hj : j ≤ 4) : getI code (w64 ((a : Int) + (j : Int))) = (c :: tl)[j]? := by
  rw [getI_drop code a j (by omega), h]
theorem sgn_ok (b : UInt8) : IntKind.i64.wrap (IntKind.i8.wrap (b.toNat : Int)) = (if 127 < (b.toNat : Int) then (b.toNat : Int) - 256 else b.toNat) := by
  have h : ∀ n, n < 256 → IntKind.i64.wrap (IntKind.i8.wrap ((n : Nat) : Int)) = (if 127 < ((n : Nat) : Int) then ((n : Nat) : Int) - 256 else (n : Int)) := by decide +kernel
  exact h b.toNat b.toNat_lt

theorem short_ok (m : Int) (b : UInt8) (h : 0 ≤ m ∧ m ≤ 4194304) : (Option.bind (spec_l5Truth (decide (127 < ((b.toNat : Int))))) fun r3_1 => some (w64 ((w64 (m + (b.toNat : Int))) - (w64 (256 * r3_1))))) = some (w64 (m + IntKind.i64.wrap (IntKind.i8.wrap (b.toNat : Int)))) ∧ -9223372036854775808 ≤ w64 (m + IntKind.i64.wrap (IntKind.i8.wrap (b.toNat : Int))) := by
  have hb := b.toNat_lt
  rw [sgn_ok]
  unfold spec_l5Truth
  by_cases h1 : 127 < (b.toNat : Int)
  · simp only [h1, decide_true, if_true, Option.bind_some]
    rw [w64_id (n := 256 * 1) (by omega) (by omega), w64_id (n := m + (b.toNat : Int)) (by omega) (by omega), w64_id (n := m + ((b.toNat : Int) - 256)) (by omega) (by omega), w64_id (by omega) (by omega)]
    exact ⟨by congr 1; omega, by omega⟩
  · simp only [h1, decide_false, Bool.false_eq_true, if_false, Option.bind_some]
    rw [w64_id (n := 256 * 0) (by omega) (by omega), w64_id (n := m + (b.toNat : Int)) (by omega) (by omega), w64_id (by omega) (by omega)]
    exact ⟨by congr 1; omega, by omega⟩

theorem one_ok (code : List UInt8) (a : Nat) (hl : code.length ≤ 1048576) (ha : a < code.length) :
    (∃ x y, spec_l25One code a = some (x, 0, false) ∧ impl_decoded code a = some (y, 0)) ∨
    ∃ x n, One code a x n ∧ spec_l25One code a = some (x, (n : Int), true) ∧ impl_decoded code a = some (x, (n : Int)) := by
  obtain ⟨c, hc⟩ : ∃ c, code[a]? = some c := ⟨_, List.getElem?_eq_getElem ha⟩
  have hg0 : getI code (a : Int) = some c := by rw [getI_nat, hc]
  have hsub : subM code (a : Int) (code.length : Int) = some (code.drop a) := by
    rw [subM_some.2 ⟨by omega, rfl⟩]
    simp
  obtain ⟨tl, htl⟩ : ∃ tl, code.drop a = c :: tl := by
    refine ⟨code.drop (a + 1), ?_⟩
    rw [List.drop_eq_getElem_cons ha]
    congr 1
    exact (List.getElem?_eq_some_iff.1 hc).2
  have hlen : (code.drop a).length = code.length - a := by simp
  rw [htl] at hlen
  simp only [List.length_cons] at hlen
  obtain ⟨ho, hd⟩ := op_split c
  unfold spec_l25One impl_decoded
  rw [hg0, hsub]
  simp only [Option.bind_some, htl]
  rw [show getI (c :: tl) 0 = some c from rfl]
  simp only [Option.bind_some]
  rw [ho, hd]
  simp only [Option.bind_some, within_ok, jumpOp_ok, l24Jumps_ok]
  generalize decide (128 ≤ (c.toNat : Int)) = long
  generalize hop : (((c % 128 : UInt8)).toNat : Int) = op
  cases hin : inB op 1 22 with
  | false =>
    have hw : spec_l22Word op = some (mkS [], mkS []) := by
      unfold spec_l22Word
      rw [l1In_ok, hin]
      rfl
    rw [hw]
    exact .inl ⟨_, _, rfl, rfl⟩
  | true =>
    obtain ⟨w, t, hw, ht⟩ := word_ok ⟨op, 0, 0, 0, 0⟩ hin
    have hne : t ≠ mkS [] := by
      rintro rfl
      simp [mkS] at ht
    simp only at hw
    rw [hw]
    simp only [Option.bind_some, hne, decide_false, Bool.false_eq_true, if_false, Bool.not_true]
    have g1 : getI code (w64 ((a : Int) + 1)) = (c :: tl)[1]? := drop_get htl 1 hl ha (by omega)
    have g2 : getI code (w64 ((a : Int) + 2)) = (c :: tl)[2]? := drop_get htl 2 hl ha (by omega)
    have g3 : getI code (w64 ((a : Int) + 3)) = (c :: tl)[3]? := drop_get htl 3 hl ha (by omega)
    have w2 : w64 ((a : Int) + 2) = a + 2 := w64_id (by omega) (by omega)
    have w3 : w64 ((a : Int) + 3) = a + 3 := w64_id (by omega) (by omega)
    have w4 : w64 ((a : Int) + 4) = a + 4 := w64_id (by omega) (by omega)
    rcases op_cases hin with rfl | rfl | rfl | rfl | rfl | rfl | rfl | rfl | rfl | rfl | rfl | rfl | rfl | rfl | rfl | rfl | rfl | rfl | rfl | rfl | rfl | rfl
    · cases long with
      | true =>
        exact .inl ⟨_, _, rfl, rfl⟩
      | false =>
        have hs : spec_l25Size ⟨1, 0, 0, 0, 0⟩ false = some 3 := rfl
        have hi : impl_shapeOf 1 = some 0 := rfl
        have hj : jumps 1 = false := rfl
        simp only [hs, hi, hj, Option.bind_some, w3, Bool.false_eq_true, if_false, if_true, Bool.not_true, Bool.not_false]
        match tl, htl, hlen, g1, g2, g3 with
        | [], htl, hlen, _, _, _ =>
          simp at hlen
          exact .inl ⟨_, _, if_pos (by simp; omega), rfl⟩
        | [b1], htl, hlen, _, _, _ =>
          simp at hlen
          exact .inl ⟨_, _, if_pos (by simp; omega), rfl⟩
        | b1 :: b2 :: tl, htl, hlen, g1, g2, g3 =>
          simp only [List.length_cons] at hlen
          refine .inr ⟨⟨1, (b1.toNat : Int), 0, 0, (b2.toNat : Int)⟩, 3, ⟨by omega, by omega, by omega, by simp <;> omega⟩, (if_neg (by simp; omega)).trans ?_, ?_⟩
          · rw [g1, g2]
            rfl
          · refine bindt (a := 3) rfl ((if_neg (by show ¬ decide ((_ : Int) < 3) = true; simp; omega)).trans (bindt (subM_some.2 ⟨by show (0 : Int) ≤ 0 ∧ (0 : Int) ≤ 3 ∧ (3 : Int) ≤ _; simp; omega, rfl⟩) (bindt (mapped_ok [c, b1, b2] (by simp)) ?_)))
            rfl
    · cases long with
      | true =>
        exact .inl ⟨_, _, rfl, rfl⟩
      | false =>
        have hs : spec_l25Size ⟨2, 0, 0, 0, 0⟩ false = some 2 := rfl
        have hi : impl_shapeOf 2 = some 1 := rfl
        have hj : jumps 2 = false := rfl
        simp only [hs, hi, hj, Option.bind_some, w2, Bool.false_eq_true, if_false, if_true, Bool.not_true, Bool.not_false]
        match tl, htl, hlen, g1, g2, g3 with
        | [], htl, hlen, _, _, _ =>
          simp at hlen
          exact .inl ⟨_, _, if_pos (by simp; omega), rfl⟩
        | b1 :: tl, htl, hlen, g1, g2, g3 =>
          simp only [List.length_cons] at hlen
          refine .inr ⟨⟨2, (b1.toNat : Int).tmod 8, w64 ((b1.toNat : Int).tdiv 8), 0, 0⟩, 2, ⟨by omega, by omega, by omega, by simp <;> omega⟩, (if_neg (by simp; omega)).trans ?_, ?_⟩
          · rw [g1]
            rfl
          · refine bindt (a := 2) rfl ((if_neg (by show ¬ decide ((_ : Int) < 2) = true; simp; omega)).trans (bindt (subM_some.2 ⟨by show (0 : Int) ≤ 0 ∧ (0 : Int) ≤ 2 ∧ (2 : Int) ≤ _; simp; omega, rfl⟩) (bindt (mapped_ok [c, b1] (by simp)) ?_)))
            rfl
    · cases long with
      | true =>
        exact .inl ⟨_, _, rfl, rfl⟩
      | false =>
        have hs : spec_l25Size ⟨3, 0, 0, 0, 0⟩ false = some 3 := rfl
        have hi : impl_shapeOf 3 = some 2 := rfl
        have hj : jumps 3 = false := rfl
        simp only [hs, hi, hj, Option.bind_some, w3, Bool.false_eq_true, if_false, if_true, Bool.not_true, Bool.not_false]
        match tl, htl, hlen, g1, g2, g3 with
        | [], htl, hlen, _, _, _ =>
          simp at hlen
          exact .inl ⟨_, _, if_pos (by simp; omega), rfl⟩
        | [b1], htl, hlen, _, _, _ =>
          simp at hlen
          exact .inl ⟨_, _, if_pos (by simp; omega), rfl⟩
        | b1 :: b2 :: tl, htl, hlen, g1, g2, g3 =>
          simp only [List.length_cons] at hlen
          refine .inr ⟨⟨3, (b1.toNat : Int).tmod 8, w64 ((b1.toNat : Int).tdiv 8), (b2.toNat : Int), 0⟩, 3, ⟨by omega, by omega, by omega, by simp <;> omega⟩, (if_neg (by simp; omega)).trans ?_, ?_⟩
          · rw [g1, g2]
            rfl
          · refine bindt (a := 3) rfl ((if_neg (by show ¬ decide ((_ : Int) < 3) = true; simp; omega)).trans (bindt (subM_some.2 ⟨by show (0 : Int) ≤ 0 ∧ (0 : Int) ≤ 3 ∧ (3 : Int) ≤ _; simp; omega, rfl⟩) (bindt (mapped_ok [c, b1, b2] (by simp)) ?_)))
            rfl
    · cases long with
      | true =>
        exact .inl ⟨_, _, rfl, rfl⟩
      | false =>
        have hs : spec_l25Size ⟨4, 0, 0, 0, 0⟩ false = some 3 := rfl
        have hi : impl_shapeOf 4 = some 2 := rfl
        have hj : jumps 4 = false := rfl
        simp only [hs, hi, hj, Option.bind_some, w3, Bool.false_eq_true, if_false, if_true, Bool.not_true, Bool.not_false]
        match tl, htl, hlen, g1, g2, g3 with
        | [], htl, hlen, _, _, _ =>
          simp at hlen
          exact .inl ⟨_, _, if_pos (by simp; omega), rfl⟩
        | [b1], htl, hlen, _, _, _ =>
          simp at hlen
          exact .inl ⟨_, _, if_pos (by simp; omega), rfl⟩
        | b1 :: b2 :: tl, htl, hlen, g1, g2, g3 =>
          simp only [List.length_cons] at hlen
          refine .inr ⟨⟨4, (b1.toNat : Int).tmod 8, w64 ((b1.toNat : Int).tdiv 8), (b2.toNat : Int), 0⟩, 3, ⟨by omega, by omega, by omega, by simp <;> omega⟩, (if_neg (by simp; omega)).trans ?_, ?_⟩
          · rw [g1, g2]
            rfl
          · refine bindt (a := 3) rfl ((if_neg (by show ¬ decide ((_ : Int) < 3) = true; simp; omega)).trans (bindt (subM_some.2 ⟨by show (0 : Int) ≤ 0 ∧ (0 : Int) ≤ 3 ∧ (3 : Int) ≤ _; simp; omega, rfl⟩) (bindt (mapped_ok [c, b1, b2] (by simp)) ?_)))
            rfl
    · cases long with
      | true =>
        exact .inl ⟨_, _, rfl, rfl⟩
      | false =>
        have hs : spec_l25Size ⟨5, 0, 0, 0, 0⟩ false = some 3 := rfl
        have hi : impl_shapeOf 5 = some 2 := rfl
        have hj : jumps 5 = false := rfl
        simp only [hs, hi, hj, Option.bind_some, w3, Bool.false_eq_true, if_false, if_true, Bool.not_true, Bool.not_false]
        match tl, htl, hlen, g1, g2, g3 with
        | [], htl, hlen, _, _, _ =>
          simp at hlen
          exact .inl ⟨_, _, if_pos (by simp; omega), rfl⟩
        | [b1], htl, hlen, _, _, _ =>
          simp at hlen
          exact .inl ⟨_, _, if_pos (by simp; omega), rfl⟩
        | b1 :: b2 :: tl, htl, hlen, g1, g2, g3 =>
          simp only [List.length_cons] at hlen
          refine .inr ⟨⟨5, (b1.toNat : Int).tmod 8, w64 ((b1.toNat : Int).tdiv 8), (b2.toNat : Int), 0⟩, 3, ⟨by omega, by omega, by omega, by simp <;> omega⟩, (if_neg (by simp; omega)).trans ?_, ?_⟩
          · rw [g1, g2]
            rfl
          · refine bindt (a := 3) rfl ((if_neg (by show ¬ decide ((_ : Int) < 3) = true; simp; omega)).trans (bindt (subM_some.2 ⟨by show (0 : Int) ≤ 0 ∧ (0 : Int) ≤ 3 ∧ (3 : Int) ≤ _; simp; omega, rfl⟩) (bindt (mapped_ok [c, b1, b2] (by simp)) ?_)))
            rfl
    · cases long with
      | true =>
        exact .inl ⟨_, _, rfl, rfl⟩
      | false =>
        have hs : spec_l25Size ⟨6, 0, 0, 0, 0⟩ false = some 3 := rfl
        have hi : impl_shapeOf 6 = some 2 := rfl
        have hj : jumps 6 = false := rfl
        simp only [hs, hi, hj, Option.bind_some, w3, Bool.false_eq_true, if_false, if_true, Bool.not_true, Bool.not_false]
        match tl, htl, hlen, g1, g2, g3 with
        | [], htl, hlen, _, _, _ =>
          simp at hlen
          exact .inl ⟨_, _, if_pos (by simp; omega), rfl⟩
        | [b1], htl, hlen, _, _, _ =>
          simp at hlen
          exact .inl ⟨_, _, if_pos (by simp; omega), rfl⟩
        | b1 :: b2 :: tl, htl, hlen, g1, g2, g3 =>
          simp only [List.length_cons] at hlen
          refine .inr ⟨⟨6, (b1.toNat : Int).tmod 8, w64 ((b1.toNat : Int).tdiv 8), (b2.toNat : Int), 0⟩, 3, ⟨by omega, by omega, by omega, by simp <;> omega⟩, (if_neg (by simp; omega)).trans ?_, ?_⟩
          · rw [g1, g2]
            rfl
          · refine bindt (a := 3) rfl ((if_neg (by show ¬ decide ((_ : Int) < 3) = true; simp; omega)).trans (bindt (subM_some.2 ⟨by show (0 : Int) ≤ 0 ∧ (0 : Int) ≤ 3 ∧ (3 : Int) ≤ _; simp; omega, rfl⟩) (bindt (mapped_ok [c, b1, b2] (by simp)) ?_)))
            rfl
    · cases long with
      | true =>
        exact .inl ⟨_, _, rfl, rfl⟩
      | false =>
        have hs : spec_l25Size ⟨7, 0, 0, 0, 0⟩ false = some 3 := rfl
        have hi : impl_shapeOf 7 = some 2 := rfl
        have hj : jumps 7 = false := rfl
        simp only [hs, hi, hj, Option.bind_some, w3, Bool.false_eq_true, if_false, if_true, Bool.not_true, Bool.not_false]
        match tl, htl, hlen, g1, g2, g3 with
        | [], htl, hlen, _, _, _ =>
          simp at hlen
          exact .inl ⟨_, _, if_pos (by simp; omega), rfl⟩
        | [b1], htl, hlen, _, _, _ =>
          simp at hlen
          exact .inl ⟨_, _, if_pos (by simp; omega), rfl⟩
        | b1 :: b2 :: tl, htl, hlen, g1, g2, g3 =>
          simp only [List.length_cons] at hlen
          refine .inr ⟨⟨7, (b1.toNat : Int).tmod 8, w64 ((b1.toNat : Int).tdiv 8), (b2.toNat : Int), 0⟩, 3, ⟨by omega, by omega, by omega, by simp <;> omega⟩, (if_neg (by simp; omega)).trans ?_, ?_⟩
          · rw [g1, g2]
            rfl
          · refine bindt (a := 3) rfl ((if_neg (by show ¬ decide ((_ : Int) < 3) = true; simp; omega)).trans (bindt (subM_some.2 ⟨by show (0 : Int) ≤ 0 ∧ (0 : Int) ≤ 3 ∧ (3 : Int) ≤ _; simp; omega, rfl⟩) (bindt (mapped_ok [c, b1, b2] (by simp)) ?_)))
            rfl
    · cases long with
      | true =>
        exact .inl ⟨_, _, rfl, rfl⟩
      | false =>
        have hs : spec_l25Size ⟨8, 0, 0, 0, 0⟩ false = some 3 := rfl
        have hi : impl_shapeOf 8 = some 2 := rfl
        have hj : jumps 8 = false := rfl
        simp only [hs, hi, hj, Option.bind_some, w3, Bool.false_eq_true, if_false, if_true, Bool.not_true, Bool.not_false]
        match tl, htl, hlen, g1, g2, g3 with
        | [], htl, hlen, _, _, _ =>
          simp at hlen
          exact .inl ⟨_, _, if_pos (by simp; omega), rfl⟩
        | [b1], htl, hlen, _, _, _ =>
          simp at hlen
          exact .inl ⟨_, _, if_pos (by simp; omega), rfl⟩
        | b1 :: b2 :: tl, htl, hlen, g1, g2, g3 =>
          simp only [List.length_cons] at hlen
          refine .inr ⟨⟨8, (b1.toNat : Int).tmod 8, w64 ((b1.toNat : Int).tdiv 8), (b2.toNat : Int), 0⟩, 3, ⟨by omega, by omega, by omega, by simp <;> omega⟩, (if_neg (by simp; omega)).trans ?_, ?_⟩
          · rw [g1, g2]
            rfl
          · refine bindt (a := 3) rfl ((if_neg (by show ¬ decide ((_ : Int) < 3) = true; simp; omega)).trans (bindt (subM_some.2 ⟨by show (0 : Int) ≤ 0 ∧ (0 : Int) ≤ 3 ∧ (3 : Int) ≤ _; simp; omega, rfl⟩) (bindt (mapped_ok [c, b1, b2] (by simp)) ?_)))
            rfl
    · cases long with
      | true =>
        exact .inl ⟨_, _, rfl, rfl⟩
      | false =>
        have hs : spec_l25Size ⟨9, 0, 0, 0, 0⟩ false = some 3 := rfl
        have hi : impl_shapeOf 9 = some 2 := rfl
        have hj : jumps 9 = false := rfl
        simp only [hs, hi, hj, Option.bind_some, w3, Bool.false_eq_true, if_false, if_true, Bool.not_true, Bool.not_false]
        match tl, htl, hlen, g1, g2, g3 with
        | [], htl, hlen, _, _, _ =>
          simp at hlen
          exact .inl ⟨_, _, if_pos (by simp; omega), rfl⟩
        | [b1], htl, hlen, _, _, _ =>
          simp at hlen
          exact .inl ⟨_, _, if_pos (by simp; omega), rfl⟩
        | b1 :: b2 :: tl, htl, hlen, g1, g2, g3 =>
          simp only [List.length_cons] at hlen
          refine .inr ⟨⟨9, (b1.toNat : Int).tmod 8, w64 ((b1.toNat : Int).tdiv 8), (b2.toNat : Int), 0⟩, 3, ⟨by omega, by omega, by omega, by simp <;> omega⟩, (if_neg (by simp; omega)).trans ?_, ?_⟩
          · rw [g1, g2]
            rfl
          · refine bindt (a := 3) rfl ((if_neg (by show ¬ decide ((_ : Int) < 3) = true; simp; omega)).trans (bindt (subM_some.2 ⟨by show (0 : Int) ≤ 0 ∧ (0 : Int) ≤ 3 ∧ (3 : Int) ≤ _; simp; omega, rfl⟩) (bindt (mapped_ok [c, b1, b2] (by simp)) ?_)))
            rfl
    · cases long with
      | true =>
        exact .inl ⟨_, _, rfl, rfl⟩
      | false =>
        have hs : spec_l25Size ⟨10, 0, 0, 0, 0⟩ false = some 2 := rfl
        have hi : impl_shapeOf 10 = some 1 := rfl
        have hj : jumps 10 = false := rfl
        simp only [hs, hi, hj, Option.bind_some, w2, Bool.false_eq_true, if_false, if_true, Bool.not_true, Bool.not_false]
        match tl, htl, hlen, g1, g2, g3 with
        | [], htl, hlen, _, _, _ =>
          simp at hlen
          exact .inl ⟨_, _, if_pos (by simp; omega), rfl⟩
        | b1 :: tl, htl, hlen, g1, g2, g3 =>
          simp only [List.length_cons] at hlen
          refine .inr ⟨⟨10, (b1.toNat : Int).tmod 8, w64 ((b1.toNat : Int).tdiv 8), 0, 0⟩, 2, ⟨by omega, by omega, by omega, by simp <;> omega⟩, (if_neg (by simp; omega)).trans ?_, ?_⟩
          · rw [g1]
            rfl
          · refine bindt (a := 2) rfl ((if_neg (by show ¬ decide ((_ : Int) < 2) = true; simp; omega)).trans (bindt (subM_some.2 ⟨by show (0 : Int) ≤ 0 ∧ (0 : Int) ≤ 2 ∧ (2 : Int) ≤ _; simp; omega, rfl⟩) (bindt (mapped_ok [c, b1] (by simp)) ?_)))
            rfl
    · cases long with
      | true =>
        exact .inl ⟨_, _, rfl, rfl⟩
      | false =>
        have hs : spec_l25Size ⟨11, 0, 0, 0, 0⟩ false = some 2 := rfl
        have hi : impl_shapeOf 11 = some 1 := rfl
        have hj : jumps 11 = false := rfl
        simp only [hs, hi, hj, Option.bind_some, w2, Bool.false_eq_true, if_false, if_true, Bool.not_true, Bool.not_false]
        match tl, htl, hlen, g1, g2, g3 with
        | [], htl, hlen, _, _, _ =>
          simp at hlen
          exact .inl ⟨_, _, if_pos (by simp; omega), rfl⟩
        | b1 :: tl, htl, hlen, g1, g2, g3 =>
          simp only [List.length_cons] at hlen
          refine .inr ⟨⟨11, (b1.toNat : Int).tmod 8, w64 ((b1.toNat : Int).tdiv 8), 0, 0⟩, 2, ⟨by omega, by omega, by omega, by simp <;> omega⟩, (if_neg (by simp; omega)).trans ?_, ?_⟩
          · rw [g1]
            rfl
          · refine bindt (a := 2) rfl ((if_neg (by show ¬ decide ((_ : Int) < 2) = true; simp; omega)).trans (bindt (subM_some.2 ⟨by show (0 : Int) ≤ 0 ∧ (0 : Int) ≤ 2 ∧ (2 : Int) ≤ _; simp; omega, rfl⟩) (bindt (mapped_ok [c, b1] (by simp)) ?_)))
            rfl
    · cases long with
      | true =>
        exact .inl ⟨_, _, rfl, rfl⟩
      | false =>
        have hs : spec_l25Size ⟨12, 0, 0, 0, 0⟩ false = some 2 := rfl
        have hi : impl_shapeOf 12 = some 1 := rfl
        have hj : jumps 12 = false := rfl
        simp only [hs, hi, hj, Option.bind_some, w2, Bool.false_eq_true, if_false, if_true, Bool.not_true, Bool.not_false]
        match tl, htl, hlen, g1, g2, g3 with
        | [], htl, hlen, _, _, _ =>
          simp at hlen
          exact .inl ⟨_, _, if_pos (by simp; omega), rfl⟩
        | b1 :: tl, htl, hlen, g1, g2, g3 =>
          simp only [List.length_cons] at hlen
          refine .inr ⟨⟨12, (b1.toNat : Int).tmod 8, w64 ((b1.toNat : Int).tdiv 8), 0, 0⟩, 2, ⟨by omega, by omega, by omega, by simp <;> omega⟩, (if_neg (by simp; omega)).trans ?_, ?_⟩
          · rw [g1]
            rfl
          · refine bindt (a := 2) rfl ((if_neg (by show ¬ decide ((_ : Int) < 2) = true; simp; omega)).trans (bindt (subM_some.2 ⟨by show (0 : Int) ≤ 0 ∧ (0 : Int) ≤ 2 ∧ (2 : Int) ≤ _; simp; omega, rfl⟩) (bindt (mapped_ok [c, b1] (by simp)) ?_)))
            rfl
    · cases long with
      | true =>
        exact .inl ⟨_, _, rfl, rfl⟩
      | false =>
        have hs : spec_l25Size ⟨13, 0, 0, 0, 0⟩ false = some 2 := rfl
        have hi : impl_shapeOf 13 = some 3 := rfl
        have hj : jumps 13 = false := rfl
        simp only [hs, hi, hj, Option.bind_some, w2, Bool.false_eq_true, if_false, if_true, Bool.not_true, Bool.not_false]
        match tl, htl, hlen, g1, g2, g3 with
        | [], htl, hlen, _, _, _ =>
          simp at hlen
          exact .inl ⟨_, _, if_pos (by simp; omega), rfl⟩
        | b1 :: tl, htl, hlen, g1, g2, g3 =>
          simp only [List.length_cons] at hlen
          refine .inr ⟨⟨13, (b1.toNat : Int), 0, 0, 0⟩, 2, ⟨by omega, by omega, by omega, by simp <;> omega⟩, (if_neg (by simp; omega)).trans ?_, ?_⟩
          · rw [g1]
            rfl
          · refine bindt (a := 2) rfl ((if_neg (by show ¬ decide ((_ : Int) < 2) = true; simp; omega)).trans (bindt (subM_some.2 ⟨by show (0 : Int) ≤ 0 ∧ (0 : Int) ≤ 2 ∧ (2 : Int) ≤ _; simp; omega, rfl⟩) (bindt (mapped_ok [c, b1] (by simp)) ?_)))
            rfl
    · cases long with
      | true =>
        exact .inl ⟨_, _, rfl, rfl⟩
      | false =>
        have hs : spec_l25Size ⟨14, 0, 0, 0, 0⟩ false = some 2 := rfl
        have hi : impl_shapeOf 14 = some 4 := rfl
        have hj : jumps 14 = false := rfl
        simp only [hs, hi, hj, Option.bind_some, w2, Bool.false_eq_true, if_false, if_true, Bool.not_true, Bool.not_false]
        match tl, htl, hlen, g1, g2, g3 with
        | [], htl, hlen, _, _, _ =>
          simp at hlen
          exact .inl ⟨_, _, if_pos (by simp; omega), rfl⟩
        | b1 :: tl, htl, hlen, g1, g2, g3 =>
          simp only [List.length_cons] at hlen
          refine .inr ⟨⟨14, 0, 0, 0, (b1.toNat : Int)⟩, 2, ⟨by omega, by omega, by omega, by simp <;> omega⟩, (if_neg (by simp; omega)).trans ?_, ?_⟩
          · rw [g1]
            rfl
          · refine bindt (a := 2) rfl ((if_neg (by show ¬ decide ((_ : Int) < 2) = true; simp; omega)).trans (bindt (subM_some.2 ⟨by show (0 : Int) ≤ 0 ∧ (0 : Int) ≤ 2 ∧ (2 : Int) ≤ _; simp; omega, rfl⟩) (bindt (mapped_ok [c, b1] (by simp)) ?_)))
            rfl
    · cases long with
      | true =>
        exact .inl ⟨_, _, rfl, rfl⟩
      | false =>
        have hs : spec_l25Size ⟨15, 0, 0, 0, 0⟩ false = some 3 := rfl
        have hi : impl_shapeOf 15 = some 0 := rfl
        have hj : jumps 15 = false := rfl
        simp only [hs, hi, hj, Option.bind_some, w3, Bool.false_eq_true, if_false, if_true, Bool.not_true, Bool.not_false]
        match tl, htl, hlen, g1, g2, g3 with
        | [], htl, hlen, _, _, _ =>
          simp at hlen
          exact .inl ⟨_, _, if_pos (by simp; omega), rfl⟩
        | [b1], htl, hlen, _, _, _ =>
          simp at hlen
          exact .inl ⟨_, _, if_pos (by simp; omega), rfl⟩
        | b1 :: b2 :: tl, htl, hlen, g1, g2, g3 =>
          simp only [List.length_cons] at hlen
          refine .inr ⟨⟨15, (b1.toNat : Int), 0, 0, (b2.toNat : Int)⟩, 3, ⟨by omega, by omega, by omega, by simp <;> omega⟩, (if_neg (by simp; omega)).trans ?_, ?_⟩
          · rw [g1, g2]
            rfl
          · refine bindt (a := 3) rfl ((if_neg (by show ¬ decide ((_ : Int) < 3) = true; simp; omega)).trans (bindt (subM_some.2 ⟨by show (0 : Int) ≤ 0 ∧ (0 : Int) ≤ 3 ∧ (3 : Int) ≤ _; simp; omega, rfl⟩) (bindt (mapped_ok [c, b1, b2] (by simp)) ?_)))
            rfl
    · cases long with
      | true =>
        exact .inl ⟨_, _, rfl, rfl⟩
      | false =>
        have hs : spec_l25Size ⟨16, 0, 0, 0, 0⟩ false = some 3 := rfl
        have hi : impl_shapeOf 16 = some 0 := rfl
        have hj : jumps 16 = false := rfl
        simp only [hs, hi, hj, Option.bind_some, w3, Bool.false_eq_true, if_false, if_true, Bool.not_true, Bool.not_false]
        match tl, htl, hlen, g1, g2, g3 with
        | [], htl, hlen, _, _, _ =>
          simp at hlen
          exact .inl ⟨_, _, if_pos (by simp; omega), rfl⟩
        | [b1], htl, hlen, _, _, _ =>
          simp at hlen
          exact .inl ⟨_, _, if_pos (by simp; omega), rfl⟩
        | b1 :: b2 :: tl, htl, hlen, g1, g2, g3 =>
          simp only [List.length_cons] at hlen
          refine .inr ⟨⟨16, (b1.toNat : Int), 0, 0, (b2.toNat : Int)⟩, 3, ⟨by omega, by omega, by omega, by simp <;> omega⟩, (if_neg (by simp; omega)).trans ?_, ?_⟩
          · rw [g1, g2]
            rfl
          · refine bindt (a := 3) rfl ((if_neg (by show ¬ decide ((_ : Int) < 3) = true; simp; omega)).trans (bindt (subM_some.2 ⟨by show (0 : Int) ≤ 0 ∧ (0 : Int) ≤ 3 ∧ (3 : Int) ≤ _; simp; omega, rfl⟩) (bindt (mapped_ok [c, b1, b2] (by simp)) ?_)))
            rfl
    · cases long with
      | true =>
        exact .inl ⟨_, _, rfl, rfl⟩
      | false =>
        have hs : spec_l25Size ⟨17, 0, 0, 0, 0⟩ false = some 3 := rfl
        have hi : impl_shapeOf 17 = some 0 := rfl
        have hj : jumps 17 = false := rfl
        simp only [hs, hi, hj, Option.bind_some, w3, Bool.false_eq_true, if_false, if_true, Bool.not_true, Bool.not_false]
        match tl, htl, hlen, g1, g2, g3 with
        | [], htl, hlen, _, _, _ =>
          simp at hlen
          exact .inl ⟨_, _, if_pos (by simp; omega), rfl⟩
        | [b1], htl, hlen, _, _, _ =>
          simp at hlen
          exact .inl ⟨_, _, if_pos (by simp; omega), rfl⟩
        | b1 :: b2 :: tl, htl, hlen, g1, g2, g3 =>
          simp only [List.length_cons] at hlen
          refine .inr ⟨⟨17, (b1.toNat : Int), 0, 0, (b2.toNat : Int)⟩, 3, ⟨by omega, by omega, by omega, by simp <;> omega⟩, (if_neg (by simp; omega)).trans ?_, ?_⟩
          · rw [g1, g2]
            rfl
          · refine bindt (a := 3) rfl ((if_neg (by show ¬ decide ((_ : Int) < 3) = true; simp; omega)).trans (bindt (subM_some.2 ⟨by show (0 : Int) ≤ 0 ∧ (0 : Int) ≤ 3 ∧ (3 : Int) ≤ _; simp; omega, rfl⟩) (bindt (mapped_ok [c, b1, b2] (by simp)) ?_)))
            rfl
    · cases long with
      | true =>
        exact .inl ⟨_, _, rfl, rfl⟩
      | false =>
        have hs : spec_l25Size ⟨18, 0, 0, 0, 0⟩ false = some 3 := rfl
        have hi : impl_shapeOf 18 = some 0 := rfl
        have hj : jumps 18 = false := rfl
        simp only [hs, hi, hj, Option.bind_some, w3, Bool.false_eq_true, if_false, if_true, Bool.not_true, Bool.not_false]
        match tl, htl, hlen, g1, g2, g3 with
        | [], htl, hlen, _, _, _ =>
          simp at hlen
          exact .inl ⟨_, _, if_pos (by simp; omega), rfl⟩
        | [b1], htl, hlen, _, _, _ =>
          simp at hlen
          exact .inl ⟨_, _, if_pos (by simp; omega), rfl⟩
        | b1 :: b2 :: tl, htl, hlen, g1, g2, g3 =>
          simp only [List.length_cons] at hlen
          refine .inr ⟨⟨18, (b1.toNat : Int), 0, 0, (b2.toNat : Int)⟩, 3, ⟨by omega, by omega, by omega, by simp <;> omega⟩, (if_neg (by simp; omega)).trans ?_, ?_⟩
          · rw [g1, g2]
            rfl
          · refine bindt (a := 3) rfl ((if_neg (by show ¬ decide ((_ : Int) < 3) = true; simp; omega)).trans (bindt (subM_some.2 ⟨by show (0 : Int) ≤ 0 ∧ (0 : Int) ≤ 3 ∧ (3 : Int) ≤ _; simp; omega, rfl⟩) (bindt (mapped_ok [c, b1, b2] (by simp)) ?_)))
            rfl
    · cases long with
      | true =>
        exact .inl ⟨_, _, rfl, rfl⟩
      | false =>
        have hs : spec_l25Size ⟨19, 0, 0, 0, 0⟩ false = some 2 := rfl
        have hi : impl_shapeOf 19 = some 3 := rfl
        have hj : jumps 19 = false := rfl
        simp only [hs, hi, hj, Option.bind_some, w2, Bool.false_eq_true, if_false, if_true, Bool.not_true, Bool.not_false]
        match tl, htl, hlen, g1, g2, g3 with
        | [], htl, hlen, _, _, _ =>
          simp at hlen
          exact .inl ⟨_, _, if_pos (by simp; omega), rfl⟩
        | b1 :: tl, htl, hlen, g1, g2, g3 =>
          simp only [List.length_cons] at hlen
          refine .inr ⟨⟨19, (b1.toNat : Int), 0, 0, 0⟩, 2, ⟨by omega, by omega, by omega, by simp <;> omega⟩, (if_neg (by simp; omega)).trans ?_, ?_⟩
          · rw [g1]
            rfl
          · refine bindt (a := 2) rfl ((if_neg (by show ¬ decide ((_ : Int) < 2) = true; simp; omega)).trans (bindt (subM_some.2 ⟨by show (0 : Int) ≤ 0 ∧ (0 : Int) ≤ 2 ∧ (2 : Int) ≤ _; simp; omega, rfl⟩) (bindt (mapped_ok [c, b1] (by simp)) ?_)))
            rfl
    · cases long with
      | true =>
        have hs : spec_l25Size ⟨20, 0, 0, 0, 0⟩ true = some 3 := rfl
        have hi : impl_shapeOf 20 = some 5 := rfl
        have hj : jumps 20 = true := rfl
        simp only [hs, hi, hj, Option.bind_some, w3, Bool.false_eq_true, if_false, if_true, Bool.not_true, Bool.not_false]
        match tl, htl, hlen, g1, g2, g3 with
        | [], htl, hlen, _, _, _ =>
          simp at hlen
          exact .inl ⟨_, _, if_pos (by simp; omega), rfl⟩
        | [b1], htl, hlen, _, _, _ =>
          simp at hlen
          exact .inl ⟨_, _, if_pos (by simp; omega), rfl⟩
        | b1 :: b2 :: tl, htl, hlen, g1, g2, g3 =>
          simp only [List.length_cons] at hlen
          rw [show (a : Int) + 3 - 1 = a + 2 by omega]
          rw [show (a : Int) + 3 - 2 = a + 1 by omega]
          refine .inr ⟨⟨20, 0, 0, 0, w64 ((b1.toNat : Int) + w64 (256 * (b2.toNat : Int)))⟩, 3, ⟨by omega, by omega, by omega, by have := b1.toNat_lt; have := b2.toNat_lt; simp (disch := omega) only [w64_id]; omega⟩, (if_neg (by simp; omega)).trans ?_, ?_⟩
          · rw [g1, g2]
            rfl
          · refine bindt (a := 2) rfl ((if_neg (by show ¬ decide ((_ : Int) < 3) = true; simp; omega)).trans (bindt (subM_some.2 ⟨by show (0 : Int) ≤ 0 ∧ (0 : Int) ≤ 3 ∧ (3 : Int) ≤ _; simp; omega, rfl⟩) (bindt (mapped_ok [c, b1, b2] (by simp)) ?_)))
            rfl
      | false =>
        have hs : spec_l25Size ⟨20, 0, 0, 0, 0⟩ false = some 2 := rfl
        have hi : impl_shapeOf 20 = some 5 := rfl
        have hj : jumps 20 = true := rfl
        simp only [hs, hi, hj, Option.bind_some, w2, Bool.false_eq_true, if_false, if_true, Bool.not_true, Bool.not_false]
        match tl, htl, hlen, g1, g2, g3 with
        | [], htl, hlen, _, _, _ =>
          simp at hlen
          exact .inl ⟨_, _, if_pos (by simp; omega), rfl⟩
        | b1 :: tl, htl, hlen, g1, g2, g3 =>
          simp only [List.length_cons] at hlen
          obtain ⟨hsh, hr⟩ := short_ok ((a : Int) + 2) b1 (by omega)
          rw [show (a : Int) + 2 - 1 = a + 1 by omega]
          refine .inr ⟨⟨20, 0, 0, 0, w64 ((a : Int) + 2 + IntKind.i64.wrap (IntKind.i8.wrap (b1.toNat : Int)))⟩, 2, ⟨by omega, by omega, by omega, hr⟩, (if_neg (by simp; omega)).trans ?_, ?_⟩
          · rw [g1]
            rw [show (c :: b1 :: tl)[1]? = some b1 from rfl]
            simp only [Option.bind_some]
            rw [hsh]
            rfl
          · refine bindt (a := 2) rfl ((if_neg (by show ¬ decide ((_ : Int) < 2) = true; simp; omega)).trans (bindt (subM_some.2 ⟨by show (0 : Int) ≤ 0 ∧ (0 : Int) ≤ 2 ∧ (2 : Int) ≤ _; simp; omega, rfl⟩) (bindt (mapped_ok [c, b1] (by simp)) ?_)))
            rw [w2]
            rfl
    · cases long with
      | true =>
        have hs : spec_l25Size ⟨21, 0, 0, 0, 0⟩ true = some 4 := rfl
        have hi : impl_shapeOf 21 = some 5 := rfl
        have hj : jumps 21 = true := rfl
        simp only [hs, hi, hj, Option.bind_some, w4, Bool.false_eq_true, if_false, if_true, Bool.not_true, Bool.not_false]
        match tl, htl, hlen, g1, g2, g3 with
        | [], htl, hlen, _, _, _ =>
          simp at hlen
          exact .inl ⟨_, _, if_pos (by simp; omega), rfl⟩
        | [b1], htl, hlen, _, _, _ =>
          simp at hlen
          exact .inl ⟨_, _, if_pos (by simp; omega), rfl⟩
        | [b1, b2], htl, hlen, _, _, _ =>
          simp at hlen
          exact .inl ⟨_, _, if_pos (by simp; omega), rfl⟩
        | b1 :: b2 :: b3 :: tl, htl, hlen, g1, g2, g3 =>
          simp only [List.length_cons] at hlen
          rw [show (a : Int) + 4 - 1 = a + 3 by omega]
          rw [show (a : Int) + 4 - 2 = a + 2 by omega]
          refine .inr ⟨⟨21, (b1.toNat : Int), 0, 0, w64 ((b2.toNat : Int) + w64 (256 * (b3.toNat : Int)))⟩, 4, ⟨by omega, by omega, by omega, by have := b2.toNat_lt; have := b3.toNat_lt; simp (disch := omega) only [w64_id]; omega⟩, (if_neg (by simp; omega)).trans ?_, ?_⟩
          · rw [g1, g2, g3]
            rfl
          · refine bindt (a := 3) rfl ((if_neg (by show ¬ decide ((_ : Int) < 4) = true; simp; omega)).trans (bindt (subM_some.2 ⟨by show (0 : Int) ≤ 0 ∧ (0 : Int) ≤ 4 ∧ (4 : Int) ≤ _; simp; omega, rfl⟩) (bindt (mapped_ok [c, b1, b2, b3] (by simp)) ?_)))
            rfl
      | false =>
        have hs : spec_l25Size ⟨21, 0, 0, 0, 0⟩ false = some 3 := rfl
        have hi : impl_shapeOf 21 = some 5 := rfl
        have hj : jumps 21 = true := rfl
        simp only [hs, hi, hj, Option.bind_some, w3, Bool.false_eq_true, if_false, if_true, Bool.not_true, Bool.not_false]
        match tl, htl, hlen, g1, g2, g3 with
        | [], htl, hlen, _, _, _ =>
          simp at hlen
          exact .inl ⟨_, _, if_pos (by simp; omega), rfl⟩
        | [b1], htl, hlen, _, _, _ =>
          simp at hlen
          exact .inl ⟨_, _, if_pos (by simp; omega), rfl⟩
        | b1 :: b2 :: tl, htl, hlen, g1, g2, g3 =>
          simp only [List.length_cons] at hlen
          obtain ⟨hsh, hr⟩ := short_ok ((a : Int) + 3) b2 (by omega)
          rw [show (a : Int) + 3 - 1 = a + 2 by omega]
          refine .inr ⟨⟨21, (b1.toNat : Int), 0, 0, w64 ((a : Int) + 3 + IntKind.i64.wrap (IntKind.i8.wrap (b2.toNat : Int)))⟩, 3, ⟨by omega, by omega, by omega, hr⟩, (if_neg (by simp; omega)).trans ?_, ?_⟩
          · rw [g1, g2]
            rw [show (c :: b1 :: b2 :: tl)[2]? = some b2 from rfl]
            simp only [Option.bind_some]
            rw [hsh]
            rfl
          · refine bindt (a := 3) rfl ((if_neg (by show ¬ decide ((_ : Int) < 3) = true; simp; omega)).trans (bindt (subM_some.2 ⟨by show (0 : Int) ≤ 0 ∧ (0 : Int) ≤ 3 ∧ (3 : Int) ≤ _; simp; omega, rfl⟩) (bindt (mapped_ok [c, b1, b2] (by simp)) ?_)))
            rw [w3]
            rfl
    · cases long with
      | true =>
        exact .inl ⟨_, _, rfl, rfl⟩
      | false =>
        have hs : spec_l25Size ⟨22, 0, 0, 0, 0⟩ false = some 2 := rfl
        have hi : impl_shapeOf 22 = some 3 := rfl
        have hj : jumps 22 = false := rfl
        simp only [hs, hi, hj, Option.bind_some, w2, Bool.false_eq_true, if_false, if_true, Bool.not_true, Bool.not_false]
        match tl, htl, hlen, g1, g2, g3 with
        | [], htl, hlen, _, _, _ =>
          simp at hlen
          exact .inl ⟨_, _, if_pos (by simp; omega), rfl⟩
        | b1 :: tl, htl, hlen, g1, g2, g3 =>
          simp only [List.length_cons] at hlen
          refine .inr ⟨⟨22, (b1.toNat : Int), 0, 0, 0⟩, 2, ⟨by omega, by omega, by omega, by simp <;> omega⟩, (if_neg (by simp; omega)).trans ?_, ?_⟩
          · rw [g1]
            rfl
          · refine bindt (a := 2) rfl ((if_neg (by show ¬ decide ((_ : Int) < 2) = true; simp; omega)).trans (bindt (subM_some.2 ⟨by show (0 : Int) ≤ 0 ∧ (0 : Int) ≤ 2 ∧ (2 : Int) ≤ _; simp; omega, rfl⟩) (bindt (mapped_ok [c, b1] (by simp)) ?_)))
            rfl

/-! ### places and their numbers -/
def zipI (pl : List Int) : List (Int × Int) := pl.zipIdx.map fun p => (p.1, (p.2 : Int))

theorem findIx_zip (n : Int) (r : List Int) : ∀ (l : List Int) (k i : Nat), (∀ x ∈ l, x ≠ n) → findIx n (((l ++ n :: r).zipIdx k).map fun p => (p.1, (p.2 : Int))) i = some (i + l.length, ((k + l.length : Nat) : Int))
  | [], k, i, _ => by simp [findIx]
  | x :: l, k, i, h => by
    have hx : n ≠ x := fun e => h x (by simp) e.symm
    rw [List.cons_append, List.zipIdx_cons, List.map_cons]
    unfold findIx
    simp only [hx, if_false]
    rw [findIx_zip n r l (k + 1) (i + 1) (fun y hy => h y (by simp [hy]))]
    simp only [List.length_cons]
    rw [show i + 1 + l.length = i + (l.length + 1) by omega, Nat.add_right_comm k 1 l.length]
    rfl

theorem zipI_none (n : Int) (pl : List Int) (h : ∀ x ∈ pl, x ≠ n) : lookM (zipI pl) n = none := by
  unfold lookM zipI
  rw [Option.map_eq_none_iff, findIx_none]
  intro p hp
  obtain ⟨q, hq, rfl⟩ := List.mem_map.1 hp
  exact fun e => h q.1 (by have := List.mem_zipIdx hq; rw [this.2.2]; exact List.getElem_mem _) e.symm

theorem zipI_snoc (pl : List Int) (at_ : Int) (h : ∀ x ∈ pl, x < at_) : insM (zipI pl) at_ (pl.length : Int) = zipI (pl ++ [at_]) := by
  have hn := zipI_none at_ pl (fun x hx => by have := h x hx; omega)
  unfold lookM at hn
  rw [Option.map_eq_none_iff] at hn
  unfold insM
  rw [hn]
  simp [zipI, List.zipIdx_append]

def at10 (pl : List Int) (n : Int) : Int := (lookM (zipI pl) n).getD (-1)

theorem l10At_ok (pl : List Int) (n : Int) (hl : pl.length ≤ 1048576) : spec_l10At pl n = some (at10 pl n) ∧ -1 ≤ at10 pl n := by
  unfold spec_l10At at10
  rcases forN_find (xs := pl) (X := Int) (body := fun i1_1 _xs1_1 => Option.bind (getI pl i1_1) fun x1_1 => if decide (x1_1 = n) then some (.inr i1_1) else some (.inl ())) (fun x => decide (x = n)) (fun i => i) (fun l x r he => by
      rw [he, getI_mid]
      rfl) with ⟨h1, h2⟩ | ⟨l, x, r, he, h1, h2, h3⟩
  · rw [zipI_none n pl (fun x hx e => by
      rw [List.any_eq_false] at h1
      exact h1 x hx (by simp [e]))]
    exact ⟨bindt h2 rfl, by simp⟩
  · simp only [decide_eq_true_eq] at h2
    subst h2
    have hz : lookM (zipI pl) x = some (l.length : Int) := by
      unfold lookM zipI
      rw [he, findIx_zip x r l 0 0 (fun y hy e => by
        rw [List.any_eq_false] at h1
        exact h1 y hy (by simp [e]))]
      simp
    rw [hz]
    exact ⟨bindt h3 rfl, by show (-1 : Int) ≤ (l.length : Int); omega⟩

def fx (pl : List Int) (x : Mins) : Mins := if jumps x.op then ⟨x.op, x.a_, x.b, x.c, at10 pl x.n_⟩ else x

theorem spec_second (ins : List Mins) (pl : List Int) (hl : pl.length ≤ 1048576) : forN (S := (List Mins)) (X := Empty) (fun i1_1 xs1_1 => Option.bind (Option.bind (getI xs1_1 i1_1) fun x2_1 => Option.bind (spec_l24Jumps x2_1) fun r2_2 => Option.bind (if r2_2 then Option.bind (spec_l10At pl x2_1.n_) fun r3_1 => some (xs1_1.set (i1_1).toNat (⟨x2_1.op, x2_1.a_, x2_1.b, x2_1.c, r3_1⟩ : Mins)) else some xs1_1 : Option ((List Mins))) fun s2_2 => some s2_2 : Option ((List Mins))) fun s1_1 => some (.inl s1_1)) (((ins.length : Int) : Int) - 0).toNat 0 ins = some (.inl (ins.map (fx pl))) := by
  rcases forN_list (xs := ins) (X := Empty) (s := ins) (body := fun i1_1 xs1_1 => Option.bind (Option.bind (getI xs1_1 i1_1) fun x2_1 => Option.bind (spec_l24Jumps x2_1) fun r2_2 => Option.bind (if r2_2 then Option.bind (spec_l10At pl x2_1.n_) fun r3_1 => some (xs1_1.set (i1_1).toNat (⟨x2_1.op, x2_1.a_, x2_1.b, x2_1.c, r3_1⟩ : Mins)) else some xs1_1 : Option ((List Mins))) fun s2_2 => some s2_2 : Option ((List Mins))) fun s1_1 => some (.inl s1_1)) (fun l st => ∃ r, ins = l ++ r ∧ st = l.map (fx pl) ++ r) (fun _ => False) ⟨ins, rfl, rfl⟩ (fun l x r st he ⟨r', h1, h2⟩ => by
      left
      have hr : r' = x :: r := by rw [he] at h1; exact (List.append_cancel_left h1).symm
      subst hr
      subst h2
      have hg : getI (l.map (fx pl) ++ x :: r) (l.length : Int) = some x := by
        have := getI_mid (l := l.map (fx pl)) (x := x) (r := r)
        rwa [List.length_map] at this
      rw [hg]
      simp only [Option.bind_some, l24Jumps_ok, (l10At_ok pl x.n_ hl).1]
      refine ⟨(l ++ [x]).map (fx pl) ++ r, ?_, r, by rw [he]; simp, rfl⟩
      cases hj : jumps x.op with
      | false => simp [fx, hj]
      | true =>
        simp only [if_true, Option.bind_some]
        rw [show ((l.length : Int)).toNat = (l.map (fx pl)).length by simp, set_mid]
        simp [fx, hj]) with ⟨st, h1, r, h2, rfl⟩ | ⟨_, _, h⟩
  · have : r = [] := by
      have := congrArg List.length h2
      simp at this
      exact this
    subst this
    rw [h1]
    simp
  · exact h.elim

theorem impl_second (ins : List Mins) (pl : List Int) (hl : pl.length ≤ 1048576) : forN (S := (List Mins)) (X := Mfn × Bool) (fun i1_1 xs1_1 => Option.bind (Option.bind (getI xs1_1 i1_1) fun x2_1 => Option.bind (impl_jumpOp x2_1.op) fun r2_2 => Option.bind (if r2_2 then if !((lookM (zipI pl : List (Int × Int)) x2_1.n_).isSome) then some (.inr ((⟨0, 0, []⟩ : Mfn), false)) else some (.inl (xs1_1.set (i1_1).toNat (⟨x2_1.op, x2_1.a_, x2_1.b, x2_1.c, ((lookM (zipI pl : List (Int × Int)) x2_1.n_).getD 0)⟩ : Mins))) else some (.inl xs1_1) : Option (((List Mins)) ⊕ (Mfn × Bool))) (Sum.elim (fun s2_1 => some (.inl s2_1)) (fun e0 => some (.inr e0))) : Option (((List Mins)) ⊕ (Mfn × Bool))) (Sum.elim (fun s1_1 => some (.inl s1_1)) (fun e0 => some (.inr e0)))) (((ins.length : Int) : Int) - 0).toNat 0 ins = some (.inl (ins.map (fx pl))) ∨
    (forN (S := (List Mins)) (X := Mfn × Bool) (fun i1_1 xs1_1 => Option.bind (Option.bind (getI xs1_1 i1_1) fun x2_1 => Option.bind (impl_jumpOp x2_1.op) fun r2_2 => Option.bind (if r2_2 then if !((lookM (zipI pl : List (Int × Int)) x2_1.n_).isSome) then some (.inr ((⟨0, 0, []⟩ : Mfn), false)) else some (.inl (xs1_1.set (i1_1).toNat (⟨x2_1.op, x2_1.a_, x2_1.b, x2_1.c, ((lookM (zipI pl : List (Int × Int)) x2_1.n_).getD 0)⟩ : Mins))) else some (.inl xs1_1) : Option (((List Mins)) ⊕ (Mfn × Bool))) (Sum.elim (fun s2_1 => some (.inl s2_1)) (fun e0 => some (.inr e0))) : Option (((List Mins)) ⊕ (Mfn × Bool))) (Sum.elim (fun s1_1 => some (.inl s1_1)) (fun e0 => some (.inr e0)))) (((ins.length : Int) : Int) - 0).toNat 0 ins = some (.inr (⟨0, 0, []⟩, false)) ∧ ∃ y ∈ ins.map (fx pl), jumps y.op = true ∧ y.n_ = -1) := by
  rcases forN_list (xs := ins) (X := Mfn × Bool) (s := ins) (body := fun i1_1 xs1_1 => Option.bind (Option.bind (getI xs1_1 i1_1) fun x2_1 => Option.bind (impl_jumpOp x2_1.op) fun r2_2 => Option.bind (if r2_2 then if !((lookM (zipI pl : List (Int × Int)) x2_1.n_).isSome) then some (.inr ((⟨0, 0, []⟩ : Mfn), false)) else some (.inl (xs1_1.set (i1_1).toNat (⟨x2_1.op, x2_1.a_, x2_1.b, x2_1.c, ((lookM (zipI pl : List (Int × Int)) x2_1.n_).getD 0)⟩ : Mins))) else some (.inl xs1_1) : Option (((List Mins)) ⊕ (Mfn × Bool))) (Sum.elim (fun s2_1 => some (.inl s2_1)) (fun e0 => some (.inr e0))) : Option (((List Mins)) ⊕ (Mfn × Bool))) (Sum.elim (fun s1_1 => some (.inl s1_1)) (fun e0 => some (.inr e0)))) (fun l st => ∃ r, ins = l ++ r ∧ st = l.map (fx pl) ++ r) (fun y => y = (⟨0, 0, []⟩, false) ∧ ∃ y ∈ ins.map (fx pl), jumps y.op = true ∧ y.n_ = -1) ⟨ins, rfl, rfl⟩ (fun l x r st he ⟨r', h1, h2⟩ => by
      have hr : r' = x :: r := by rw [he] at h1; exact (List.append_cancel_left h1).symm
      subst hr
      subst h2
      have hg : getI (l.map (fx pl) ++ x :: r) (l.length : Int) = some x := by
        have := getI_mid (l := l.map (fx pl)) (x := x) (r := r)
        rwa [List.length_map] at this
      rw [hg]
      simp only [Option.bind_some, jumpOp_ok]
      cases hj : jumps x.op with
      | false =>
        left
        exact ⟨(l ++ [x]).map (fx pl) ++ r, by simp [fx, hj], r, by rw [he]; simp, rfl⟩
      | true =>
        cases hk : lookM (zipI pl) x.n_ with
        | none =>
          right
          refine ⟨_, rfl, rfl, fx pl x, List.mem_map.2 ⟨x, by rw [he]; simp, rfl⟩, ?_⟩
          simp [fx, hj, at10, hk]
        | some v =>
          left
          refine ⟨(l ++ [x]).map (fx pl) ++ r, ?_, r, by rw [he]; simp, rfl⟩
          simp only [if_true, Option.isSome_some, Bool.not_true, Bool.false_eq_true, if_false, Option.bind_some, Sum.elim_inl, Option.getD_some]
          rw [show ((l.length : Int)).toNat = (l.map (fx pl)).length by simp, set_mid]
          simp [fx, hj, at10, hk]) with ⟨st, h1, r, h2, rfl⟩ | ⟨y, h1, rfl, h2⟩
  · left
    have : r = [] := by
      have := congrArg List.length h2
      simp at this
      exact this
    subst this
    rw [h1]
    simp
  · exact .inr ⟨h1, h2⟩

/-! ### the reading -/
structure Got (code : List UInt8) (ins : List Mins) (pl : List Int) (at_ : Int) : Prop where
  h0 : 0 ≤ at_
  h1 : at_ ≤ code.length
  len : ins.length = pl.length
  two : 2 * (ins.length : Int) ≤ at_
  low : ∀ p ∈ pl, p < at_
  rng : ∀ x ∈ ins, -9223372036854775808 ≤ x.n_

theorem got_next {code : List UInt8} {ins : List Mins} {pl : List Int} {a n : Nat} {x : Mins} (hg : Got code ins pl (a : Int)) (h : One code a x n) : Got code (ins ++ [x]) (pl ++ [(a : Int)]) ((a + n : Nat) : Int) := by
  have h1 := h.fit
  have h2 := h.two
  have h3 := hg.two
  refine ⟨by omega, by omega, by simp [hg.len], by simp; omega, ?_, ?_⟩
  · intro p hp
    simp only [List.mem_append, List.mem_singleton] at hp
    rcases hp with hp | rfl
    · have := hg.low p hp; omega
    · omega
  · intro y hy
    simp only [List.mem_append, List.mem_singleton] at hy
    rcases hy with hy | rfl
    · exact hg.rng y hy
    · exact h.rng

theorem eq_bytes (a b : List UInt8) (ha : a.length ≤ 140737488355328) (hb : b.length ≤ 140737488355328) : decide (strL a = strL b) = decide (a = b) := by
  rw [decide_eq_decide]
  constructor
  · intro h
    have := congrArg Str.b h
    rwa [strL_b ha, strL_b hb] at this
  · rintro rfl; rfl

theorem core (params slots : Int) (code : List UInt8) (hl : code.length ≤ 1048576) : ∃ r : Mfn × Bool, spec_DecodeFn params slots code = some r ∧ impl_DecodeFn params slots code = some r ∧ r.1.ins.length ≤ 1048576 := by
  by_cases hbig : code.length ≤ 8000
  · obtain ⟨x, y, h1, h2, h3⟩ := loopM_rel (b1 := (fun (xs2_1 : (List Mins) × (List Int) × Int) => (Option.bind (if decide (xs2_1.2.2 < ((code.length : Int))) then some (decide (((code.length : Int)) ≤ 8000)) else some false : Option (Bool)) fun s2_1 => if s2_1 then Option.bind (spec_l25One code xs2_1.2.2) fun r2_1 => if !(r2_1.2.2) then some (.inr (.inl ((⟨0, 0, []⟩ : Mfn), false))) else Option.bind (appM xs2_1.1 ([r2_1.1] : List Mins)) fun ys2_1 => Option.bind (appM xs2_1.2.1 ([xs2_1.2.2] : List Int)) fun ys2_2 => some (.inl (ys2_1, ys2_2, w64 (xs2_1.2.2 + r2_1.2.1))) else some (.inr (.inr (xs2_1.1, xs2_1.2.1))) : Option (((List Mins) × (List Int) × Int) ⊕ ((Mfn × Bool) ⊕ ((List Mins) × (List Int))))))) (b2 := (fun (xs2_1 : (List Mins) × (List (Int × Int)) × Int) => (if decide (xs2_1.2.2 < ((code.length : Int))) then Option.bind (impl_decoded code xs2_1.2.2) fun r2_1 => if decide (r2_1.2 = 0) then some (.inr (.inl ((⟨0, 0, []⟩ : Mfn), false))) else Option.bind (appM xs2_1.1 ([r2_1.1] : List Mins)) fun ys2_1 => some (.inl (ys2_1, (insM (xs2_1.2.1 : List (Int × Int)) xs2_1.2.2 (xs2_1.1.length : Int)), w64 (xs2_1.2.2 + r2_1.2))) else some (.inr (.inr (xs2_1.1, xs2_1.2.1))) : Option (((List Mins) × (List (Int × Int)) × Int) ⊕ ((Mfn × Bool) ⊕ ((List Mins) × (List (Int × Int)))))))) (fun s t => Got code s.1 s.2.1 s.2.2 ∧ t = (s.1, zipI s.2.1, s.2.2))
      (fun x y => (x = .inl (⟨0, 0, []⟩, false) ∧ y = .inl (⟨0, 0, []⟩, false)) ∨ ∃ ins pl, x = .inr (ins, pl) ∧ y = .inr (ins, zipI pl) ∧ ins.length = pl.length ∧ ins.length ≤ 1048576 ∧ ∀ x ∈ ins, -9223372036854775808 ≤ x.n_)
      (fun s => ((code.length : Int) - s.2.2).toNat) (fun s t ⟨hg, ht⟩ => by
        obtain ⟨ins, pl, at_⟩ := s
        subst ht
        simp only at hg ⊢
        obtain ⟨a, rfl⟩ := Int.eq_ofNat_of_zero_le hg.h0
        have hlen := hg.len
        have htwo := hg.two
        have hle := hg.h1
        by_cases hlt : (a : Int) < (code.length : Int)
        · have hbig' : (code.length : Int) ≤ 8000 := by omega
          simp only [hlt, decide_true, if_true, Option.bind_some, hbig']
          rcases one_ok code a hl (by omega) with ⟨x, y, h1, h2⟩ | ⟨x, n, h0, h1, h2⟩
          · rw [h1, h2]
            exact .inr ⟨_, _, rfl, rfl, .inl ⟨rfl, rfl⟩⟩
          · have hn := h0.two
            have hfit := h0.fit
            have hn0 : ¬ ((n : Int) = 0) := by omega
            left
            refine ⟨(ins ++ [x], pl ++ [(a : Int)], ((a + n : Nat) : Int)), (ins ++ [x], zipI (pl ++ [(a : Int)]), ((a + n : Nat) : Int)), ?_, ?_, ⟨got_next hg h0, rfl⟩, by simp only; omega⟩
            · rw [h1]
              simp only [Option.bind_some, Bool.not_true, Bool.false_eq_true, if_false]
              rw [appM_ok (by simp; omega), appM_ok (by simp; omega), w64_id (by omega) (by omega)]
              simp
            · rw [h2]
              simp only [Option.bind_some, hn0, decide_false, Bool.false_eq_true, if_false]
              rw [appM_ok (by simp; omega), w64_id (by omega) (by omega), hlen, zipI_snoc pl a hg.low]
              simp
        · right
          simp only [hlt, decide_false, Bool.false_eq_true, if_false, Option.bind_some]
          exact ⟨_, _, rfl, rfl, .inr ⟨ins, pl, rfl, rfl, hlen, by omega, hg.rng⟩⟩) (code.length + 1) ([], [], 0) ([], [], 0) ⟨⟨by simp, by simp, rfl, by simp, by simp, by simp⟩, rfl⟩ (by simp)
    rcases h3 with ⟨rfl, rfl⟩ | ⟨ins, pl, rfl, rfl, h4, h5, h6⟩
    · exact ⟨(⟨0, 0, []⟩, false), bindt (bindt h1 rfl) rfl, bindt (bindt h2 rfl) rfl, by simp⟩
    · have hpl : pl.length ≤ 1048576 := by omega
      have hs := spec_second ins pl hpl
      have hfl : (ins.map (fx pl)).length ≤ 1048576 := by simpa using h5
      have hfr : Rng ⟨params, slots, ins.map (fx pl)⟩ := by
        intro y hy
        obtain ⟨x, hx, rfl⟩ := List.mem_map.1 hy
        unfold fx
        split
        · have := (l10At_ok pl x.n_ hpl).2
          simp only
          omega
        · exact h6 x hx
      obtain ⟨l, b, e1, e2, e3, e4⟩ := encode_ok ⟨params, slots, ins.map (fx pl)⟩ hfl hfr
      have heq := eq_bytes l code (by omega) (by omega)
      rcases impl_second ins pl hpl with hi | ⟨hi, y, hy, hy1, hy2⟩
      · refine ⟨if b && decide (l = code) then (⟨params, slots, ins.map (fx pl)⟩, true) else (⟨0, 0, []⟩, false), bindt (bindt h1 rfl) (bindt hs (bindt e1 ?_)), bindt (bindt h2 rfl) (bindt hi (bindt e2 ?_)), ?_⟩
        · cases b <;> by_cases hlc : l = code <;> simp [hlc] at heq ⊢ <;> simp [heq]
        · unfold bytes_Equal
          simp only [heq]
          cases b <;> by_cases hlc : l = code <;> simp [hlc]
        · split
          · exact hfl
          · simp
      · have hb : b = false := by
          cases b with
          | false => rfl
          | true =>
            have := (e4 rfl).n y hy hy1
            omega
        subst hb
        refine ⟨(⟨0, 0, []⟩, false), bindt (bindt h1 rfl) (bindt hs (bindt e1 rfl)), bindt (bindt h2 rfl) (bindt hi rfl), by simp⟩
  · obtain ⟨l0, b0, e1, _, _, e4⟩ := encode_ok ⟨params, slots, []⟩ (by simp) (by intro x hx; cases hx)
    have hb0 : b0 = false := by
      cases b0 with
      | false => rfl
      | true => exact absurd rfl (e4 rfl).ne
    subst hb0
    have hs : spec_DecodeFn params slots code = some (⟨0, 0, []⟩, false) := by
      have h1 : loopM (fun (xs2_1 : (List Mins) × (List Int) × Int) => (Option.bind (if decide (xs2_1.2.2 < ((code.length : Int))) then some (decide (((code.length : Int)) ≤ 8000)) else some false : Option (Bool)) fun s2_1 => if s2_1 then Option.bind (spec_l25One code xs2_1.2.2) fun r2_1 => if !(r2_1.2.2) then some (.inr (.inl ((⟨0, 0, []⟩ : Mfn), false))) else Option.bind (appM xs2_1.1 ([r2_1.1] : List Mins)) fun ys2_1 => Option.bind (appM xs2_1.2.1 ([xs2_1.2.2] : List Int)) fun ys2_2 => some (.inl (ys2_1, ys2_2, w64 (xs2_1.2.2 + r2_1.2.1))) else some (.inr (.inr (xs2_1.1, xs2_1.2.1))) : Option (((List Mins) × (List Int) × Int) ⊕ ((Mfn × Bool) ⊕ ((List Mins) × (List Int)))))) ([], [], 0) = some (.inr ([], [])) := loopM_inr (by
        have : ¬ ((code.length : Int) ≤ 8000) := by omega
        simp only [this, decide_false]
        split <;> rfl)
      exact bindt (bindt h1 rfl) (bindt e1 rfl)
    obtain ⟨y, h2, h3⟩ := loopM_law (b1 := (fun (xs2_1 : (List Mins) × (List (Int × Int)) × Int) => (if decide (xs2_1.2.2 < ((code.length : Int))) then Option.bind (impl_decoded code xs2_1.2.2) fun r2_1 => if decide (r2_1.2 = 0) then some (.inr (.inl ((⟨0, 0, []⟩ : Mfn), false))) else Option.bind (appM xs2_1.1 ([r2_1.1] : List Mins)) fun ys2_1 => some (.inl (ys2_1, (insM (xs2_1.2.1 : List (Int × Int)) xs2_1.2.2 (xs2_1.1.length : Int)), w64 (xs2_1.2.2 + r2_1.2))) else some (.inr (.inr (xs2_1.1, xs2_1.2.1))) : Option (((List Mins) × (List (Int × Int)) × Int) ⊕ ((Mfn × Bool) ⊕ ((List Mins) × (List (Int × Int)))))))) (fun t => ∃ pl, Got code t.1 pl t.2.2 ∧ t.2.1 = zipI pl)
      (fun y => y = .inl (⟨0, 0, []⟩, false) ∨ ∃ ins pl, y = .inr (ins, zipI pl) ∧ ins.length = pl.length ∧ ins.length ≤ 1048576 ∧ ∀ x ∈ ins, -9223372036854775808 ≤ x.n_)
      (fun s => ((code.length : Int) - s.2.2).toNat) (fun t ⟨pl, hg, ht⟩ => by
        obtain ⟨ins, mp, at_⟩ := t
        simp only at hg ht
        subst ht
        obtain ⟨a, rfl⟩ := Int.eq_ofNat_of_zero_le hg.h0
        have hlen := hg.len
        have htwo := hg.two
        have hle := hg.h1
        by_cases hlt : (a : Int) < (code.length : Int)
        · simp only [hlt, decide_true, if_true]
          rcases one_ok code a hl (by omega) with ⟨x, y, h1, h2⟩ | ⟨x, n, h0, h1, h2⟩
          · rw [h2]
            exact .inr ⟨_, rfl, .inl rfl⟩
          · have hn := h0.two
            have hfit := h0.fit
            have hn0 : ¬ ((n : Int) = 0) := by omega
            left
            refine ⟨(ins ++ [x], zipI (pl ++ [(a : Int)]), ((a + n : Nat) : Int)), ?_, ⟨pl ++ [(a : Int)], got_next hg h0, rfl⟩, by simp only; omega⟩
            rw [h2]
            simp only [Option.bind_some, hn0, decide_false, Bool.false_eq_true, if_false]
            rw [appM_ok (by simp; omega), w64_id (by omega) (by omega), hlen, zipI_snoc pl a hg.low]
            simp
        · right
          simp only [hlt, decide_false, Bool.false_eq_true, if_false]
          exact ⟨_, rfl, .inr ⟨ins, pl, rfl, hlen, by omega, hg.rng⟩⟩) (code.length + 1) ([], [], 0) ⟨[], ⟨by simp, by simp, rfl, by simp, by simp, by simp⟩, rfl⟩ (by simp)
    refine ⟨(⟨0, 0, []⟩, false), hs, ?_, by simp⟩
    rcases h3 with rfl | ⟨ins, pl, rfl, h4, h5, h6⟩
    · exact bindt (bindt h2 rfl) rfl
    · have hpl : pl.length ≤ 1048576 := by omega
      have hfl : (ins.map (fx pl)).length ≤ 1048576 := by simpa using h5
      have hfr : Rng ⟨params, slots, ins.map (fx pl)⟩ := by
        intro y hy
        obtain ⟨x, hx, rfl⟩ := List.mem_map.1 hy
        unfold fx
        split
        · have := (l10At_ok pl x.n_ hpl).2
          simp only
          omega
        · exact h6 x hx
      obtain ⟨l, b, _, e2, e3, _⟩ := encode_ok ⟨params, slots, ins.map (fx pl)⟩ hfl hfr
      rcases impl_second ins pl hpl with hi | ⟨hi, _⟩
      · refine bindt (bindt h2 rfl) (bindt hi (bindt e2 ?_))
        have hne : l ≠ code := by rintro rfl; omega
        have heq := eq_bytes l code (by omega) (by omega)
        unfold bytes_Equal
        simp only [heq]
        cases b <;> simp [hne]
      · exact bindt (bindt h2 rfl) (bindt hi rfl)

theorem toByteS_ok (l : List UInt8) (h : l.length ≤ 1048576) : laws_toByteS l = some l := by
  unfold laws_toByteS
  rw [makeM_ok (by omega) (by omega), Option.bind_some]
  rw [show ((l.length : Int)).toNat = l.length by omega, forN_map (f := fun x => x)]
  · simp
  · intro a x r ys he hlt
    rw [he, getI_mid, Option.bind_some]
    rw [getI_lt (by omega) (by omega), Option.bind_some]
    simp

theorem lawDecode (params slots : Int) (aCode : List UInt8) : laws_FnExactDecodeFn params slots aCode = some true := by
  unfold laws_FnExactDecodeFn
  by_cases h0 : (1048576 : Int) < aCode.length
  · simp [h0]
  have hl : aCode.length ≤ 1048576 := by omega
  rw [if_neg (by simpa using h0), toByteS_ok _ hl]
  obtain ⟨⟨g, b⟩, g1, g2, g3⟩ := core params slots aCode hl
  simp only at g3
  have hm := markByteS_ok aCode 1 (by omega) (by omega)
  have hm2 := markMfn_ok g 1 (by omega) (by omega)
  have hh : laws_heldMfn ⟨g.params, g.slots, mkL mkMins (fun _ => 5) g.ins 1⟩ 1 = some (1 + 5 * (g.ins.length : Int)) := by
    unfold laws_heldMfn
    rw [heldMinsS_ok _ _ (by omega) (by omega), Option.bind_some, if_neg (by simp; omega)]
  have e1 : ¬ (1 + (aCode.length : Int) < 0) := by omega
  have e2 : ¬ (1 + 5 * (g.ins.length : Int) < 0) := by omega
  simp [g1, g2, eqMfn_ok, eqByteS_ok, hm, hm2, hh, e1, e2]
end Lay
end Go.Wk
