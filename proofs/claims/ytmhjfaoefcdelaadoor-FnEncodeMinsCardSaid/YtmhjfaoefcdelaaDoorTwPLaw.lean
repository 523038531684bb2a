/- A part of the proof of FnEncodeMinsCardSaid. -/
import Derived.Test.YtmhjfaoefcdelaaDoorTwPLay
namespace Go.Wk
open Go
namespace Lay

theorem szMfn_ok (m : Mfn) (n : Int) (h0 : 0 ≤ n) (h1 : n ≤ 1048576) (hl : m.ins.length ≤ 140737488355328) :
    laws_szMfn m n = some (if n - (m.ins.length : Int) < 0 then -1 else n - (m.ins.length : Int)) := by
  unfold laws_szMfn laws_szMinsS
  rw [w64_id (by omega) (by omega)]
  by_cases h : n - (m.ins.length : Int) < 0
  · simp [h]
  · simp [h]

theorem toMinsS_ok (l : List Mins) (h : l.length ≤ 1048576) : laws_toMinsS l = some l := by
  unfold laws_toMinsS
  rw [makeM_ok (by omega) (by omega), Option.bind_some]
  rw [show ((l.length : Int)).toNat = l.length by omega, forN_map (f := fun x => x)]
  · simp
  · intro a x r ys he hlt
    rw [he, getI_mid, Option.bind_some]
    simp only [laws_toMins, Option.bind_some]
    rw [getI_lt (by omega) (by omega), Option.bind_some]
    simp

theorem toMfn_ok (m : Mfn) (h : m.ins.length ≤ 1048576) : laws_toMfn m = some m := by
  unfold laws_toMfn
  rw [toMinsS_ok _ h]
  rfl

theorem eqMins_ok (a b : Mins) : laws_eqMins a b = some (decide (a = b)) := by
  unfold laws_eqMins
  cases a; cases b
  simp only [decide_eq_true_eq, Mins.mk.injEq]
  repeat' split
  all_goals simp_all

theorem eqMinsS_ok (a b : List Mins) : laws_eqMinsS a b = some (decide (a = b)) := by
  unfold laws_eqMinsS
  by_cases h : a.length = b.length
  · rw [if_neg (by simp [h]), forN_eqs (ys := b) (e := false) h]
    · by_cases h' : a = b <;> simp [h']
    · intro l x r l' y r' h1 h2 h3
      rw [h1, h2, getI_mid, h3, getI_mid]
      simp only [Option.bind_some, eqMins_ok]
      by_cases h' : x = y <;> simp [h']
  · have h1 : ¬ (a.length : Int) = b.length := by omega
    rw [if_pos (by simpa using h1), decide_eq_false]
    intro h2; subst h2; exact h rfl

theorem eqMfn_ok (a b : Mfn) : laws_eqMfn a b = some (decide (a = b)) := by
  unfold laws_eqMfn
  cases a; cases b
  simp only [decide_eq_true_eq, Mfn.mk.injEq, eqMinsS_ok, Option.bind_some]
  repeat' split
  all_goals simp_all


theorem eqIntS_ok (a b : List Int) : laws_eqIntS a b = some (decide (a = b)) := by
  unfold laws_eqIntS
  by_cases h : a.length = b.length
  · rw [if_neg (by simp [h]), forN_eqs (ys := b) (e := false) h]
    · by_cases h' : a = b <;> simp [h']
    · intro l x r l' y r' h1 h2 h3
      rw [h1, h2, getI_mid, h3, getI_mid]
      simp only [Option.bind_some]
      by_cases h' : x = y <;> simp [h']
  · have h1 : ¬ (a.length : Int) = b.length := by omega
    rw [if_pos (by simpa using h1), decide_eq_false]
    intro h2; subst h2; exact h rfl

def mkMins (k : Int) (_ : Mins) : Mins := ⟨k, k + 1, k + 1 + 1, k + 1 + 1 + 1, k + 1 + 1 + 1 + 1⟩

theorem markMinsS_ok (a : List Mins) (k : Int) (hk : 0 ≤ k) (hB : k + 5 * a.length ≤ 4611686018427387904) : laws_markMinsS a k = some (k + 5 * a.length, mkL mkMins (fun _ => 5) a k) := by
  unfold laws_markMinsS
  rw [forN_mark mkMins (fun _ => 5) 4611686018427387904 hk (by rw [sums_const]; omega)]
  · simp [sums_const]
  · intro l x r k h0 h1
    simp only [getI_mid, Option.bind_some]
    simp (disch := omega) only [w64_id]
    rw [show ((l.length : Int)).toNat = l.length by omega, set_mid]
    rw [show k + 1 + 1 + 1 + 1 + 1 = k + ((5 : Nat) : Int) by omega]
    rfl

theorem markIntS_ok (a : List Int) (k : Int) (hk : 0 ≤ k) (hB : k + a.length ≤ 4611686018427387904) : laws_markIntS a k = some (k + a.length, mkL (fun k _ => k) (fun _ => 1) a k) := by
  unfold laws_markIntS
  rw [forN_mark (fun k _ => k) (fun _ => 1) 4611686018427387904 hk (by rw [sums_const]; omega)]
  · simp [sums_const]
  · intro l x r k h0 h1
    simp only [getI_mid, Option.bind_some]
    simp (disch := omega) only [w64_id]
    rw [show ((l.length : Int)).toNat = l.length by omega, set_mid]
    rfl

theorem heldIntS_ok (a : List Int) (k : Int) (hk : 0 ≤ k) (hB : k + a.length ≤ 4611686018427387904) : laws_heldIntS (mkL (fun k _ => k) (fun _ => 1) a k) k = some (k + a.length) := by
  unfold laws_heldIntS
  rw [forN_held (fun k _ => k) (fun _ => 1) 4611686018427387904 hk (by rw [sums_const]; omega)]
  · simp [sums_const]
  · intro l x r j he h0 h1
    simp only [he, getI_mid, Option.bind_some]
    simp (disch := omega) only [w64_id]
    simp

theorem markMfn_ok (a : Mfn) (k : Int) (hk : 0 ≤ k) (hB : k + 5 * a.ins.length ≤ 4611686018427387904) : laws_markMfn a k = some (k + 5 * a.ins.length, mkL mkMins (fun _ => 5) a.ins k) := by
  unfold laws_markMfn
  rw [markMinsS_ok _ _ hk hB]
  rfl

theorem eqByteS_ok (a b : List UInt8) : laws_eqByteS a b = some (decide (a = b)) := by
  unfold laws_eqByteS
  by_cases h : a.length = b.length
  · rw [if_neg (by simp [h]), forN_eqs (ys := b) (e := false) h]
    · by_cases h' : a = b <;> simp [h']
    · intro l x r l' y r' h1 h2 h3
      rw [h1, h2, getI_mid, h3, getI_mid]
      simp only [Option.bind_some]
      by_cases h' : x = y <;> simp [h']
  · have h1 : ¬ (a.length : Int) = b.length := by omega
    rw [if_pos (by simpa using h1), decide_eq_false]
    intro h2; subst h2; exact h rfl

theorem markByteS_ok (a : List UInt8) (k : Int) (hk : 0 ≤ k) (hB : k + a.length ≤ 4611686018427387904) : laws_markByteS a k = some (k + a.length, mkL (fun k _ => byteI k) (fun _ => 1) a k) := by
  unfold laws_markByteS
  rw [forN_mark (fun k _ => byteI k) (fun _ => 1) 4611686018427387904 hk (by rw [sums_const]; omega)]
  · simp [sums_const]
  · intro l x r k h0 h1
    simp only [getI_mid, Option.bind_some]
    simp (disch := omega) only [w64_id]
    rw [show ((l.length : Int)).toNat = l.length by omega, set_mid]
    rfl

theorem heldByteS_ok (a : List UInt8) (k : Int) (hk : 0 ≤ k) (hB : k + a.length ≤ 4611686018427387904) : laws_heldByteS (mkL (fun k _ => byteI k) (fun _ => 1) a k) k = some (k + a.length) := by
  unfold laws_heldByteS
  rw [forN_held (fun k _ => byteI k) (fun _ => 1) 4611686018427387904 hk (by rw [sums_const]; omega)]
  · simp [sums_const]
  · intro l x r j he h0 h1
    simp only [he, getI_mid, Option.bind_some]
    simp (disch := omega) only [w64_id]
    simp


def Rng (f : Mfn) : Prop := ∀ x ∈ f.ins, -9223372036854775808 ≤ x.n_

theorem sizes_ok (f : Mfn) (hl : f.ins.length ≤ 1048576) (hr : Rng f) : ∃ l, spec_MinsSizes f = some l ∧ impl_MinsSizes f = some l ∧ l.length ≤ 1048576 := by
  rcases both f hl hr with ⟨h1, h2⟩ | ⟨lg, hg, hlen, h1, h2, h3, h4⟩
  · exact ⟨[], bindt h1 rfl, bindt h2 rfl, by simp⟩
  · refine ⟨(szs f.ins lg).map (fun n : Nat => (n : Int)), bindt h1 ((if_neg (by decide)).trans (bindt h2 ?_)), bindt h4 rfl, by rw [List.length_map, szs_length hlen]; exact hl⟩
    rcases forN_list (xs := f.ins) (X := Empty) (s := ([] : List Int)) (body := fun i1_1 xs1_1 => Option.bind (getI lg i1_1) fun x1_1 => Option.bind (getI f.ins i1_1) fun x1_2 => Option.bind (spec_l25Size x1_2 x1_1) fun r1_1 => Option.bind (appM xs1_1 ([r1_1] : List Int)) fun ys1_1 => some (.inl ys1_1)) (fun l st => st = (szs l (lg.take l.length)).map (fun n : Nat => (n : Int))) (fun _ => False) (by simp [szs]) (fun l x r st he hst => by
        left
        subst hst
        have hx : x ∈ f.ins := by rw [he]; simp
        have hll : l.length < lg.length := by rw [hlen, he]; simp
        have hb : lg[l.length]? = some lg[l.length] := List.getElem?_eq_getElem hll
        have hsz : (szs l (lg.take l.length)).length = l.length := by simp [szs]; omega
        refine ⟨_, ?_, rfl⟩
        rw [szs_snoc hb, getI_nat, hb, he, getI_mid]
        simp only [Option.bind_some]
        rw [size_ok hg hx, Option.bind_some, appM_ok (by rw [List.length_map, hsz]; simp; omega)]
        simp) with ⟨st, e1, rfl⟩ | ⟨_, _, h⟩
    · refine bindt e1 ?_
      show some _ = _
      rw [List.take_of_length_le (Nat.le_of_eq hlen)]
    · exact h.elim

theorem placesF_ok (f : Mfn) (hl : f.ins.length ≤ 1048576) (hr : Rng f) : ∃ l, spec_MinsPlaces f = some l ∧ impl_MinsPlaces f = some l ∧ l.length ≤ 1048576 := by
  rcases both f hl hr with ⟨h1, h2⟩ | ⟨lg, hg, hlen, h1, h2, h3, h4⟩
  · exact ⟨[], bindt h1 rfl, bindt h2 rfl, by simp⟩
  · exact ⟨plc 0 (szs f.ins lg), bindt h1 ((if_neg (by decide)).trans (bindt h2 (bindt h3 rfl))), bindt h4 rfl, by rw [plc_length, szs_length hlen]; exact hl⟩

theorem long_ok (f : Mfn) (hl : f.ins.length ≤ 1048576) (hr : Rng f) : ∃ n, spec_LongJumps f = some n ∧ impl_LongJumps f = some n := by
  rcases both f hl hr with ⟨h1, h2⟩ | ⟨lg, hg, hlen, h1, h2, h3, h4⟩
  · exact ⟨-1, bindt h1 rfl, bindt h2 rfl⟩
  · have hs : ∃ xs, spec_l12List lg = some xs ∧ xs.length = lg.count true := by
      unfold spec_l12List
      rcases forN_list (xs := lg) (X := Empty) (s := ([] : List Int)) (body := fun i1_1 xs1_1 => Option.bind (Option.bind (getI lg i1_1) fun x2_1 => Option.bind (if x2_1 then Option.bind (appM xs1_1 ([i1_1] : List Int)) fun ys3_1 => some ys3_1 else some xs1_1 : Option ((List Int))) fun s2_1 => some s2_1 : Option ((List Int))) fun s1_1 => some (.inl s1_1)) (fun l st => st.length = l.count true) (fun _ => False) (by simp) (fun l x r st he hst => by
          left
          have hc : l.count true ≤ l.length := List.count_le_length
          have hl2 : l.length ≤ 1048576 := by rw [he] at hlen; simp at hlen; omega
          rw [he, getI_mid]
          cases x with
          | true => exact ⟨st ++ [(l.length : Int)], by rw [appM_ok (by simp; omega)]; rfl, by simp [hst]⟩
          | false => exact ⟨st, rfl, by simp [hst]⟩) with ⟨st, e1, e2⟩ | ⟨_, _, h⟩
      · exact ⟨st, bindt e1 rfl, e2⟩
      · exact h.elim
    obtain ⟨xs, hx1, hx2⟩ := hs
    refine ⟨(lg.count true : Int), bindt h1 ((if_neg (by decide)).trans (bindt h2 (bindt hx1 (by rw [hx2])))), bindt h4 ?_⟩
    show Option.bind _ _ = _
    rcases forN_list (xs := lg) (X := Empty) (s := (0 : Int)) (body := fun i1_1 xs1_1 => Option.bind (Option.bind (getI lg i1_1) fun x2_1 => Option.bind (if x2_1 then some (w64 (xs1_1 + 1)) else some xs1_1 : Option (Int)) fun s2_1 => some s2_1 : Option (Int)) fun s1_1 => some (.inl s1_1)) (fun l st => st = (l.count true : Int)) (fun _ => False) (by simp) (fun l x r st he hst => by
        left
        subst hst
        have hc : l.count true ≤ l.length := List.count_le_length
        have hl2 : l.length ≤ 1048576 := by rw [he] at hlen; simp at hlen; omega
        rw [he, getI_mid]
        cases x with
        | true => exact ⟨w64 ((l.count true : Int) + 1), rfl, by rw [w64_id (by omega) (by omega)]; simp⟩
        | false => exact ⟨(l.count true : Int), rfl, by simp⟩) with ⟨st, e1, rfl⟩ | ⟨_, _, h⟩
    · exact bindt e1 rfl
    · exact h.elim

theorem byte_256 (v : Int) : byteI (v + 256) = byteI v := by unfold byteI; congr 2; omega
theorem byte_128 (x : Int) (h : jumps x = true) : byteI (w64 (x + w64 (128 * 1))) = byteI x + 128 ∧ byteI (w64 (x + w64 (128 * 0))) = byteI x := by
  simp only [jumps, Bool.or_eq_true, decide_eq_true_eq] at h
  rcases h with rfl | rfl <;> decide

theorem encode_ok (f : Mfn) (hl : f.ins.length ≤ 1048576) (hr : Rng f) : ∃ l b, spec_EncodeFn f = some (l, b) ∧ impl_EncodeFn f = some (l, b) ∧ l.length ≤ 4194304 := by
  rcases both f hl hr with ⟨h1, h2⟩ | ⟨lg, hg, hlen, h1, h2, h3, h4⟩
  · exact ⟨[], false, bindt h1 rfl, bindt h2 rfl, by simp⟩
  · have hrel := forN_rel (b1 := fun (i1_1 : Int) (xs1_1 : List UInt8) => (Option.bind (Option.bind (getI f.ins i1_1) fun x2_1 => Option.bind (spec_l24Jumps x2_1) fun r2_1 => if !(r2_1) then Option.bind (spec_l25Plain x2_1) fun r2_2 => Option.bind (appM xs1_1 r2_2) fun ys2_1 => some ys2_1 else Option.bind (getI (plc 0 (szs f.ins lg)) x2_1.n_) fun x2_2 => Option.bind (getI lg i1_1) fun x2_3 => Option.bind (spec_l5Truth x2_3) fun r2_3 => Option.bind (appM xs1_1 ([(byteI (w64 (x2_1.op + (w64 (128 * r2_3)))))] : List UInt8)) fun ys2_2 => Option.bind (if decide (x2_1.op = 21) then Option.bind (appM ys2_2 ([(byteI x2_1.a_)] : List UInt8)) fun ys3_1 => some ys3_1 else some ys2_2 : Option ((List UInt8))) fun s2_1 => Option.bind (getI lg i1_1) fun x2_4 => Option.bind (if x2_4 then Option.bind (appM s2_1 ([(byteI (x2_2.tmod 256)), (byteI (w64 (x2_2.tdiv 256)))] : List UInt8)) fun ys3_2 => some ys3_2 else Option.bind (getI (plc 0 (szs f.ins lg)) i1_1) fun x3_1 => Option.bind (spec_l25Size x2_1 false) fun r3_1 => Option.bind (appM s2_1 ([(byteI (w64 ((w64 ((w64 (x2_2 - x3_1)) - r3_1)) + 256)))] : List UInt8)) fun ys3_3 => some ys3_3 : Option ((List UInt8))) fun s2_2 => some s2_2 : Option ((List UInt8))) fun s1_1 => some (.inl s1_1) : Option (List UInt8 ⊕ Empty)))
      (b2 := fun (i1_1 : Int) (xs1_1 : List UInt8) => (Option.bind (Option.bind (getI f.ins i1_1) fun x2_1 => Option.bind (impl_jumpOp x2_1.op) fun r2_1 => if !(r2_1) then Option.bind (impl_encoded x2_1) fun r2_2 => Option.bind (appM xs1_1 r2_2) fun ys2_1 => some ys2_1 else Option.bind (getI lg i1_1) fun x2_2 => Option.bind (if x2_2 then some ((byteI x2_1.op) + (128 : UInt8)) else some (byteI x2_1.op) : Option (UInt8)) fun s2_1 => Option.bind (appM xs1_1 ([s2_1] : List UInt8)) fun ys2_2 => Option.bind (if decide (x2_1.op = 21) then Option.bind (appM ys2_2 ([(byteI x2_1.a_)] : List UInt8)) fun ys3_1 => some ys3_1 else some ys2_2 : Option ((List UInt8))) fun s2_2 => Option.bind (getI (plc 0 (szs f.ins lg)) x2_1.n_) fun x2_3 => Option.bind (getI lg i1_1) fun x2_4 => Option.bind (if x2_4 then Option.bind (appM s2_2 ([(byteI (x2_3.tmod 256)), (byteI (w64 (x2_3.tdiv 256)))] : List UInt8)) fun ys3_2 => some ys3_2 else Option.bind (pimpl_layout__offset ⟨f, lg, (szs f.ins lg).map (fun n : Nat => (n : Int)), plc 0 (szs f.ins lg), ((szs f.ins lg).sum : Int)⟩ i1_1) fun r3_1 => Option.bind (appM s2_2 ([(byteI r3_1)] : List UInt8)) fun ys3_3 => some ys3_3 : Option ((List UInt8))) fun s2_3 => some s2_3 : Option ((List UInt8))) fun s1_1 => some (.inl s1_1) : Option (List UInt8 ⊕ Empty)))
      (k := (((f.ins.length : Int) : Int) - 0).toNat) (i := 0) (s := ([] : List UInt8)) (t := ([] : List UInt8)) (fun j s t => s = t ∧ (s.length : Int) ≤ 4 * j) ⟨rfl, by simp⟩ (fun j s t hj1 hj2 ⟨he, hsl⟩ => by
        subst he
        have hlt := hg.len
        obtain ⟨i, rfl⟩ := Int.eq_ofNat_of_zero_le hj1
        have hi : i < f.ins.length := by omega
        obtain ⟨x, hx⟩ : ∃ x, f.ins[i]? = some x := ⟨_, List.getElem?_eq_getElem hi⟩
        obtain ⟨b, hb⟩ : ∃ b, lg[i]? = some b := ⟨_, List.getElem?_eq_getElem (by omega)⟩
        have hxm : x ∈ f.ins := List.mem_of_getElem? hx
        simp only [getI_nat, hx, hb, Option.bind_some, l24Jumps_ok, jumpOp_ok]
        cases hj : jumps x.op with
        | false =>
          obtain ⟨e1, e2, e3⟩ := enc_both hg hxm hj
          refine ⟨s ++ enc x, s ++ enc x, ?_, ?_, rfl, by simp; omega⟩
          · simp [e1, appM_ok (show s.length + (enc x).length ≤ 2147483648 by omega)]
          · simp [e2, appM_ok (show s.length + (enc x).length ≤ 2147483648 by omega)]
        | true =>
          obtain ⟨n0, n1⟩ := hg.n x hxm hj
          obtain ⟨p1, p2, p3⟩ := plc_in hg hlen hi
          obtain ⟨q1, q2, q3⟩ := plc_in hg hlen (i := x.n_.toNat) (by omega)
          obtain ⟨s1, s2⟩ := szs_in hg hlen hx hb
          have hz := sz_le hg hxm b
          obtain ⟨y1, y2⟩ := byte_128 x.op hj
          have happ : ∀ (u v : List UInt8), u.length ≤ s.length + 4 → v.length ≤ 4 → appM u v = some (u ++ v) := fun u v h1 h2 => appM_ok (by omega)
          have hgp : getI (plc 0 (szs f.ins lg)) x.n_ = some ((plc 0 (szs f.ins lg)).getD x.n_.toNat 0) := by rw [getI, if_pos n0, q1]
          rw [off_ok hg hlen hx hb hj f rfl]
          simp only [hgp, p1, Option.bind_some, Bool.not_true, Bool.false_eq_true, if_false, size_ok hg hxm, spec_l5Truth]
          have ho : b = false → byteI (w64 (w64 (w64 ((plc 0 (szs f.ins lg)).getD x.n_.toNat 0 - (plc 0 (szs f.ins lg)).getD i 0) - (sz x false : Int)) + 256)) = byteI (off f.ins lg i x) := by
            intro hbf
            subst hbf
            unfold off
            rw [s2, w64_id (n := (plc 0 (szs f.ins lg)).getD x.n_.toNat 0 - (plc 0 (szs f.ins lg)).getD i 0) (by omega) (by omega), w64_id (n := _ - (sz x false : Int)) (by omega) (by omega), w64_id (by omega) (by omega), byte_256]
          cases b with
          | true =>
            simp only [if_true, Option.bind_some, y1]
            rw [happ s [_] (by omega) (by simp), Option.bind_some]
            by_cases h21 : x.op = 21
            · simp only [h21, decide_true, if_true]
              rw [happ (s ++ [_]) [_] (by simp) (by simp)]
              simp only [Option.bind_some]
              rw [happ _ [_, _] (by simp) (by simp)]
              exact ⟨_, _, rfl, rfl, rfl, by simp; omega⟩
            · simp only [h21, decide_false, Bool.false_eq_true, if_false, Option.bind_some]
              rw [happ _ [_, _] (by simp) (by simp)]
              exact ⟨_, _, rfl, rfl, rfl, by simp; omega⟩
          | false =>
            simp only [Bool.false_eq_true, if_false, Option.bind_some, y2, ho rfl]
            rw [happ s [_] (by omega) (by simp), Option.bind_some]
            by_cases h21 : x.op = 21
            · simp only [h21, decide_true, if_true]
              rw [happ (s ++ [_]) [_] (by simp) (by simp)]
              simp only [Option.bind_some]
              rw [happ _ [_] (by simp) (by simp)]
              exact ⟨_, _, rfl, rfl, rfl, by simp; omega⟩
            · simp only [h21, decide_false, Bool.false_eq_true, if_false, Option.bind_some]
              rw [happ _ [_] (by simp) (by simp)]
              exact ⟨_, _, rfl, rfl, rfl, by simp; omega⟩)
    obtain ⟨s', t', e1, e2, rfl, e3⟩ := hrel
    have hlt := hg.len
    exact ⟨s', true, bindt h1 ((if_neg (by decide)).trans (bindt h2 (bindt h3 (bindt e1 rfl)))), bindt h4 (bindt e2 rfl), by omega⟩

section
variable (aF : Mfn) (hl : aF.ins.length ≤ 140737488355328) (hr : Rng aF)
include hl hr

theorem lawLong : laws_FnExactLongJumps aF = some true := by
  unfold laws_FnExactLongJumps
  rw [szMfn_ok _ _ (by omega) (by omega) hl, Option.bind_some]
  by_cases h : (1048576 : Int) - aF.ins.length < 0
  · simp [h]
  have hl' : aF.ins.length ≤ 1048576 := by omega
  obtain ⟨n, g1, g2⟩ := long_ok aF hl' hr
  rw [if_neg h, if_neg (by simpa using h), toMfn_ok _ hl']
  simp [g1, g2, eqMfn_ok]

theorem lawPlaces : laws_FnExactMinsPlaces aF = some true := by
  unfold laws_FnExactMinsPlaces
  rw [szMfn_ok _ _ (by omega) (by omega) hl, Option.bind_some]
  by_cases h : (1048576 : Int) - aF.ins.length < 0
  · simp [h]
  have hl' : aF.ins.length ≤ 1048576 := by omega
  obtain ⟨l, g1, g2, g3⟩ := placesF_ok aF hl' hr
  rw [if_neg h, if_neg (by simpa using h), toMfn_ok _ hl']
  have hm := markMfn_ok aF 1 (by omega) (by omega)
  have hm2 := markIntS_ok l 1 (by omega) (by omega)
  have hh := heldIntS_ok l 1 (by omega) (by omega)
  have e1 : ¬ (1 + 5 * (aF.ins.length : Int) < 0) := by omega
  have e2 : ¬ (1 + (l.length : Int) < 0) := by omega
  simp [g1, g2, eqMfn_ok, eqIntS_ok, hm, hm2, hh, e1, e2]

theorem lawSizes : laws_FnExactMinsSizes aF = some true := by
  unfold laws_FnExactMinsSizes
  rw [szMfn_ok _ _ (by omega) (by omega) hl, Option.bind_some]
  by_cases h : (1048576 : Int) - aF.ins.length < 0
  · simp [h]
  have hl' : aF.ins.length ≤ 1048576 := by omega
  obtain ⟨l, g1, g2, g3⟩ := sizes_ok aF hl' hr
  rw [if_neg h, if_neg (by simpa using h), toMfn_ok _ hl']
  have hm := markMfn_ok aF 1 (by omega) (by omega)
  have hm2 := markIntS_ok l 1 (by omega) (by omega)
  have hh := heldIntS_ok l 1 (by omega) (by omega)
  have e1 : ¬ (1 + 5 * (aF.ins.length : Int) < 0) := by omega
  have e2 : ¬ (1 + (l.length : Int) < 0) := by omega
  simp [g1, g2, eqMfn_ok, eqIntS_ok, hm, hm2, hh, e1, e2]

theorem lawEncode : laws_FnExactEncodeFn aF = some true := by
  unfold laws_FnExactEncodeFn
  rw [szMfn_ok _ _ (by omega) (by omega) hl, Option.bind_some]
  by_cases h : (1048576 : Int) - aF.ins.length < 0
  · simp [h]
  have hl' : aF.ins.length ≤ 1048576 := by omega
  obtain ⟨l, b, g1, g2, g3⟩ := encode_ok aF hl' hr
  rw [if_neg h, if_neg (by simpa using h), toMfn_ok _ hl']
  have hm := markMfn_ok aF 1 (by omega) (by omega)
  have hm2 := markByteS_ok l 1 (by omega) (by omega)
  have hh := heldByteS_ok l 1 (by omega) (by omega)
  have e1 : ¬ (1 + 5 * (aF.ins.length : Int) < 0) := by omega
  have e2 : ¬ (1 + (l.length : Int) < 0) := by omega
  simp [g1, g2, eqMfn_ok, eqByteS_ok, hm, hm2, hh, e1, e2]
end
end Lay
end Go.Wk
