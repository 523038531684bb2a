/- A part of the proof of FnExactReadProgramCardSaid. -/
import Derived.Test.YtjccffpccjdmgaaGreatDoorRgModels
import Derived.Test.YtjccffpccjdmgaaGreatDoorWkN
import Derived.Test.YtjccffpccjdmgaaGreatDoorWkY
import Derived.Laws.RangeString
import Derived.Laws.RangeAny
import Derived.Test.YtjccffpccjdmgaaGreatDoorWkAd
namespace Go.Wk
open Go
namespace Prg
set_option maxRecDepth 10000
def letB (b : UInt8) : Bool := decide ((97 : UInt8) ≤ b) && decide (b ≤ (122 : UInt8))
def digB (b : UInt8) : Bool := decide ((48 : UInt8) ≤ b) && decide (b ≤ (57 : UInt8))
def sgnL : List UInt8 := [40, 41, 123, 125, 59, 44, 43, 45, 42, 47, 37, 60, 61, 38, 33, 64]
def clsB (b : UInt8) : Int := if letB b then 1 else if digB b then 2 else if b ∈ sgnL then 3 else if b = 32 ∨ b = 10 then 4 else 0
theorem letter_ok (b : UInt8) : impl_isLetter b = some (letB b) := by
  unfold impl_isLetter letB
  by_cases h : (97 : UInt8) ≤ b <;> simp [h]
theorem digit_ok (b : UInt8) : impl_isDigit b = some (digB b) := by
  unfold impl_isDigit digB
  by_cases h : (48 : UInt8) ≤ b <;> simp [h]
theorem find_ok (s : Str) (c : UInt8) : ∃ n : Int, spec_l30Find s c = some n ∧ (0 ≤ n ↔ c ∈ s.b) := by
  unfold spec_l30Find
  rcases forN_find (xs := s.b) (body := (fun (i1_1 : Int) (xs1_1 : Unit) => (Option.bind (getI (s).b i1_1) fun x1_1 => if decide (x1_1 = c) then some (.inr i1_1) else some (.inl ()) : Option ((Unit) ⊕ (Int))))) (fun x => decide (x = c)) (fun i => i) (fun l x r he => by
    rw [he, getI_mid, Option.bind_some]) with ⟨h1, h2⟩ | ⟨l, x, r, h1, h2, h3, h4⟩
  · refine ⟨-1, bindt h2 rfl, ⟨fun h => by omega, fun h => ?_⟩⟩
    have := List.any_eq_false.1 h1 c h
    simp at this
  · refine ⟨_, bindt h4 rfl, ⟨fun _ => ?_, fun _ => by omega⟩⟩
    simp at h3; subst h3
    rw [h1]; simp
theorem class_ok (b : UInt8) : spec_l1Class b = some (clsB b) := by
  obtain ⟨n, h1, h2⟩ := find_ok (mkS [40, 41, 123, 125, 59, 44, 43, 45, 42, 47, 37, 60, 61, 38, 33, 64]) b
  have e1 : (if decide ((97 : UInt8) ≤ b) then some (decide (b ≤ (122 : UInt8))) else some false : Option Bool) = some (letB b) := by unfold letB; by_cases h : (97 : UInt8) ≤ b <;> simp [h]
  have e2 : (if decide ((48 : UInt8) ≤ b) then some (decide (b ≤ (57 : UInt8))) else some false : Option Bool) = some (digB b) := by unfold digB; by_cases h : (48 : UInt8) ≤ b <;> simp [h]
  have e3 : (if decide (b = (32 : UInt8)) then some true else some (decide (b = (10 : UInt8))) : Option Bool) = some (decide (b = 32 ∨ b = 10)) := by by_cases h : b = 32 <;> simp [h]
  have h3 : (0 ≤ n) ↔ b ∈ sgnL := h2
  unfold spec_l1Class clsB
  rw [e1, e2, e3, h1]
  simp only [Option.bind_some]
  cases letB b with
  | true => rfl
  | false =>
    cases digB b with
    | true => rfl
    | false =>
      by_cases h : b ∈ sgnL
      · simp [h, h3.2 h]
      · have : ¬ 0 ≤ n := fun h' => h (h3.1 h')
        simp only [Bool.false_eq_true, if_false, h, this, decide_false]
        by_cases h5 : b = 32 ∨ b = 10 <;> simp [h5]
def keyB (s : Str) : Bool := decide (s ∈ glob_impl_keys)
theorem has_ok (xs : List Str) (v : Str) : slices_Contains_S_string_string xs v = some (decide (v ∈ xs)) := by
  unfold slices_Contains_S_string_string slices_Index_S_string_string
  rcases forN_find (xs := xs) (body := (fun (i1_1 : Int) (xs1_1 : Unit) => (Option.bind (getI xs i1_1) fun x1_1 => if decide (v = x1_1) then some (.inr i1_1) else some (.inl ()) : Option ((Unit) ⊕ (Int))))) (fun x => decide (v = x)) (fun i => i) (fun l x r he => by
    rw [he, getI_mid, Option.bind_some]) with ⟨h1, h2⟩ | ⟨l, x, r, h1, h2, h3, h4⟩
  · rw [bindt (b := some (-1)) h2 rfl, Option.bind_some]
    have : v ∉ xs := fun h => by have := List.any_eq_false.1 h1 v h; simp at this
    simp [this]
  · rw [bindt (b := some (l.length : Int)) h4 rfl, Option.bind_some]
    simp at h3; subst h3
    have : v ∈ xs := by rw [h1]; simp
    simp [this]
theorem key_ok (s : Str) : spec_l1Key s = some (keyB s) := by
  unfold spec_l1Key spec_KeyWords keyB
  rw [Option.bind_some]
  show Option.bind (forN (fun (i1_1 : Int) (xs1_1 : Unit) => (Option.bind (getI glob_impl_keys i1_1) fun x1_1 => if decide (x1_1 = s) then some (.inr true) else some (.inl ()) : Option ((Unit) ⊕ (Bool)))) (((glob_impl_keys.length : Int) : Int) - 0).toNat 0 ()) _ = _
  rw [bindc (forN_any (xs := glob_impl_keys) (body := (fun (i1_1 : Int) (xs1_1 : Unit) => (Option.bind (getI glob_impl_keys i1_1) fun x1_1 => if decide (x1_1 = s) then some (.inr true) else some (.inl ()) : Option ((Unit) ⊕ (Bool))))) (fun x => decide (x = s)) true (fun l x r he => by rw [he, getI_mid, Option.bind_some]))]
  cases h : glob_impl_keys.any (fun x => decide (x = s)) with
  | true =>
    obtain ⟨x, h1, h2⟩ := List.any_eq_true.1 h
    simp at h2; subst h2
    simp [h1]
  | false =>
    have : s ∉ glob_impl_keys := fun h' => by have := List.any_eq_false.1 h s h'; simp at this
    simp [this]
def nameB (s : Str) : Bool := decide (s.b ≠ []) && s.b.all letB && decide (s.b.length ≤ 4) && !keyB s
theorem all_ok (s : Str) (c : Int) : spec_l1All s c = some (s.b.all (fun b => decide (clsB b = c)) && decide (s.b ≠ [])) := by
  unfold spec_l1All
  rw [bindc (forN_any (xs := s.b) (body := (fun (i1_1 : Int) (xs1_1 : Unit) => (Option.bind (getI (s).b i1_1) fun x1_1 => Option.bind (spec_l1Class x1_1) fun r1_1 => if decide (r1_1 ≠ c) then some (.inr false) else some (.inl ()) : Option ((Unit) ⊕ (Bool))))) (fun b => decide (clsB b ≠ c)) false (fun l x r he => by
    rw [he, getI_mid, Option.bind_some, class_ok, Option.bind_some]))]
  have e : s.b.any (fun b => decide (clsB b ≠ c)) = !s.b.all (fun b => decide (clsB b = c)) := by
    rw [List.not_all_eq_any_not]; congr 1; funext b; simp
  rw [e]
  have h0 : decide (0 < (s.b.length : Int)) = decide (s.b ≠ []) := by
    cases s.b <;> simp
  cases s.b.all (fun b => decide (clsB b = c)) with
  | true =>
    show some (decide (0 < (s.b.length : Int))) = _
    rw [h0, Bool.true_and]
  | false => rfl
theorem cls1 (b : UInt8) : decide (clsB b = 1) = letB b := by
  cases h1 : letB b <;> cases h2 : digB b <;> by_cases h3 : b ∈ sgnL <;> by_cases h4 : b = 32 ∨ b = 10 <;> simp [clsB, h1, h2, h3, h4]
theorem nameS_ok (s : Str) : spec_IsName s = some (nameB s) := by
  unfold spec_IsName
  rw [all_ok, key_ok]
  have e : s.b.all (fun b => decide (clsB b = 1)) = s.b.all letB := by congr 1; funext b; exact cls1 b
  have e2 : decide ((s.b.length : Int) ≤ 4) = decide (s.b.length ≤ 4) := by rw [decide_eq_decide]; omega
  rw [e, e2]
  unfold nameB
  cases s.b.all letB <;> cases decide (s.b ≠ []) <;> cases decide (s.b.length ≤ 4) <;> rfl
theorem let_iff {b : UInt8} : letB b = true ↔ 97 ≤ b.toNat ∧ b.toNat ≤ 122 := by
  unfold letB
  rw [Bool.and_eq_true, decide_eq_true_iff, decide_eq_true_iff, UInt8.le_iff_toNat_le, UInt8.le_iff_toNat_le]
  rfl
theorem rune_ok (x : Int) : impl_IsName_1 x = some (decide (x < 97 ∨ 122 < x)) := by
  unfold impl_IsName_1
  by_cases h : x < 97 <;> simp [h]
theorem idx_names (s : ByteArray) (p : Nat → Bool) (hp : ∀ x : Nat, p x = decide (x < 97 ∨ 122 < x)) : ∀ (f pos : Nat), s.size - pos ≤ f → pos ≤ s.size → (Lib.idxFuncFrom p true s f pos < 0 ↔ (s.data.toList.drop pos).all letB = true) := by
  have hsz : s.data.toList.length = s.size := by rw [Array.length_toList]; rfl
  intro f
  induction f with
  | zero =>
    intro pos h h2
    have : pos = s.size := by omega
    subst this
    have : s.data.toList.drop s.size = [] := List.drop_eq_nil_of_le (by omega)
    rw [this]
    simp [Lib.idxFuncFrom]
  | succ f ih =>
    intro pos h h2
    unfold Lib.idxFuncFrom
    by_cases hlt : pos < s.size
    · rw [if_pos hlt]
      have hl : pos < s.data.toList.length := by omega
      have hd : s.data.toList.drop pos = s[pos]'hlt :: s.data.toList.drop (pos + 1) := by
        rw [List.drop_eq_getElem_cons hl]; rfl
      rw [hd, List.all_cons]
      by_cases ha : (s[pos]'hlt).toNat < 128
      · rw [decode_ascii s pos hlt ha, hp]
        cases hb : letB (s[pos]'hlt) with
        | true =>
          have := let_iff.1 hb
          rw [if_neg (by simp; omega), ih (pos + 1) (by omega) (by omega)]
          simp
        | false =>
          have : ¬ (97 ≤ (s[pos]'hlt).toNat ∧ (s[pos]'hlt).toNat ≤ 122) := fun h => by rw [let_iff.2 h] at hb; cases hb
          rw [if_pos (by simp; omega)]
          simp
      · obtain ⟨h3, _⟩ := decode_high s pos hlt (by omega)
        rw [hp, if_pos (by simp; omega)]
        have : letB (s[pos]'hlt) = false := by
          cases hb : letB (s[pos]'hlt) with
          | true => have := let_iff.1 hb; omega
          | false => rfl
        rw [this]
        simp
    · have : pos = s.size := by omega
      subst this
      have : s.data.toList.drop s.size = [] := List.drop_eq_nil_of_le (by omega)
      rw [this, if_neg hlt]
      simp
theorem within_ok (n lo hi : Int) : impl_within n lo hi = some (inB n lo hi) := by
  unfold impl_within inB
  by_cases h : lo ≤ n <;> simp [h]
theorem l1In_ok (n lo hi : Int) : spec_l1In n lo hi = some (inB n lo hi) := by
  unfold spec_l1In inB
  by_cases h : lo ≤ n <;> simp [h]
theorem name_ok (s : Str) : impl_IsName s = some (nameB s) := by
  have hi : ∃ n : Int, strings_IndexFunc s (fun y0 => impl_IsName_1 y0) = some n ∧ (n < 0 ↔ s.b.all letB = true) := by
    unfold strings_IndexFunc idxFuncM
    rw [if_pos fun x _ => by show (impl_IsName_1 (x : Int)).isSome = true; rw [rune_ok]; rfl]
    refine ⟨_, rfl, ?_⟩
    have := idx_names ⟨s.b.toArray⟩ (fun x => (impl_IsName_1 (x : Int)).getD false) (fun x => by show (impl_IsName_1 (x : Int)).getD false = _; rw [rune_ok]; show decide _ = decide _; rw [decide_eq_decide]; omega) (⟨s.b.toArray⟩ : ByteArray).size 0 (by omega) (by omega)
    simpa [Lib.idxFunc] using this
  obtain ⟨n, h1, h2⟩ := hi
  unfold impl_IsName
  rw [within_ok, h1, has_ok, Option.bind_some]
  simp only [Option.bind_some]
  have h3 : inB (s.b.length : Int) 1 4 = (decide (s.b ≠ []) && decide (s.b.length ≤ 4)) := by
    have e1 : decide ((1 : Int) ≤ (s.b.length : Int)) = decide (s.b ≠ []) := by
      rw [decide_eq_decide]
      constructor
      · intro h h'; rw [h'] at h; simp at h
      · intro h
        have := List.length_pos_iff.2 h
        omega
    have e2 : decide ((s.b.length : Int) ≤ 4) = decide (s.b.length ≤ 4) := by rw [decide_eq_decide]; omega
    show (decide ((1 : Int) ≤ (s.b.length : Int)) && decide ((s.b.length : Int) ≤ 4)) = _
    rw [e1, e2]
  have h4 : decide (n < 0) = s.b.all letB := by
    cases hb : s.b.all letB with
    | true => simp [h2.2 hb]
    | false =>
      have : ¬ n < 0 := fun h => by rw [h2.1 h] at hb; cases hb
      simp [this]
  rw [h3, h4]
  unfold nameB keyB
  cases s.b.all letB <;> cases decide (s.b ≠ []) <;> cases decide (s.b.length ≤ 4) <;> rfl
end Prg
end Go.Wk
namespace Go.Wk
open Go
namespace Prg
set_option maxRecDepth 10000
def vD (acc : Nat) (l : List UInt8) : Nat := l.foldl (fun n c => n * 10 + (c.toNat - 48)) acc
theorem dig_iff {b : UInt8} : digB b = true ↔ 48 ≤ b.toNat ∧ b.toNat ≤ 57 := by
  unfold digB
  rw [Bool.and_eq_true, decide_eq_true_iff, decide_eq_true_iff, UInt8.le_iff_toNat_le, UInt8.le_iff_toNat_le]
  rfl
theorem vD_ge : ∀ (l : List UInt8) (acc : Nat), acc * 10 ^ l.length ≤ vD acc l
  | [], acc => by simp [vD]
  | c :: l, acc => by
    have h := vD_ge l (acc * 10 + (c.toNat - 48))
    have e : vD acc (c :: l) = vD (acc * 10 + (c.toNat - 48)) l := rfl
    rw [e]
    refine Nat.le_trans ?_ h
    rw [List.length_cons, Nat.pow_succ, show acc * (10 ^ l.length * 10) = (acc * 10) * 10 ^ l.length by rw [Nat.mul_comm (10 ^ l.length), Nat.mul_assoc]]
    exact Nat.mul_le_mul_right _ (Nat.le_add_right _ _)
theorem vD_lt : ∀ (l : List UInt8) (acc : Nat), l.all digB = true → vD acc l < (acc + 1) * 10 ^ l.length
  | [], acc, _ => by simp [vD]
  | c :: l, acc, h => by
    rw [List.all_cons, Bool.and_eq_true, dig_iff] at h
    have h1 := vD_lt l (acc * 10 + (c.toNat - 48)) h.2
    have e : vD acc (c :: l) = vD (acc * 10 + (c.toNat - 48)) l := rfl
    rw [e]
    refine Nat.lt_of_lt_of_le h1 ?_
    rw [List.length_cons, Nat.pow_succ, show (acc + 1) * (10 ^ l.length * 10) = ((acc + 1) * 10) * 10 ^ l.length by rw [Nat.mul_comm (10 ^ l.length), Nat.mul_assoc]]
    exact Nat.mul_le_mul_right _ (by omega)
theorem vD_snoc (acc : Nat) (l : List UInt8) (c : UInt8) : vD acc (l ++ [c]) = vD acc l * 10 + (c.toNat - 48) := by simp [vD]
theorem decFrom_ok : ∀ (l : List UInt8) (acc : Nat), l.all digB = true → Lib.decFrom acc l = some (vD acc l)
  | [], _, _ => rfl
  | c :: l, acc, h => by
    rw [List.all_cons, Bool.and_eq_true, dig_iff] at h
    have hd : Lib.digitVal c = some (c.toNat - 48) := by unfold Lib.digitVal; rw [if_pos h.1]
    show (match Lib.digitVal c with | some d => Lib.decFrom (acc * 10 + d) l | none => none) = _
    rw [hd]
    exact decFrom_ok l _ h.2
theorem atoi_digits {s : Str} (h0 : s.b ≠ []) (hl : s.b.length ≤ 18) (h : s.b.all digB = true) : strconv_Atoi s = some (((vD 0 s.b : Nat) : Int), ()) := by
  unfold strconv_Atoi atoiM
  rw [if_pos hl]
  obtain ⟨c, l, hc⟩ : ∃ c l, s.b = c :: l := by cases hs : s.b with | nil => exact absurd hs h0 | cons c l => exact ⟨c, l, rfl⟩
  have hd : Lib.decNat s.b = some (vD 0 s.b) := by
    unfold Lib.decNat
    rw [if_neg (by rw [hc]; simp), decFrom_ok s.b 0 h]
  rw [hc] at hd h ⊢
  rw [List.all_cons, Bool.and_eq_true, dig_iff] at h
  have e1 : (c == 45) = false := by
    rw [beq_eq_false_iff_ne]; rintro rfl; have := h.1; simp at this
  have e2 : (c == 43) = false := by
    rw [beq_eq_false_iff_ne]; rintro rfl; have := h.1; simp at this
  show Option.map (fun n => (n, ())) (if (c == 45) = true then (Lib.decNat l).map (fun (m : Nat) => -(m : Int)) else if (c == 43) = true then (Lib.decNat l).map (fun (m : Nat) => (m : Int)) else (Lib.decNat (c :: l)).map (fun (m : Nat) => (m : Int))) = _
  rw [e1, e2, hd]
  rfl
def zeroB (l : List UInt8) : Bool := decide (1 < l.length) && decide (l[0]? = some 48)
def numI (s : Str) : Int := if s.b ≠ [] ∧ s.b.all digB = true ∧ zeroB s.b = false ∧ vD 0 s.b ≤ 255 then (vD 0 s.b : Nat) else -1
theorem num_long {l : List UInt8} (hz : zeroB l = false) (hd : l.all digB = true) (hl : 4 ≤ l.length) : 255 < vD 0 l := by
  cases l with
  | nil => simp at hl
  | cons c l =>
    rw [List.all_cons, Bool.and_eq_true, dig_iff] at hd
    have h1 : c ≠ 48 := by
      rintro rfl
      unfold zeroB at hz
      simp at hz
      simp at hl
      rw [hz] at hl
      simp at hl
    have h2 : c.toNat ≠ 48 := fun e => h1 (UInt8.toNat_inj.1 e)
    have h3 := vD_ge l (c.toNat - 48)
    have e : vD 0 (c :: l) = vD (c.toNat - 48) l := by show vD (0 * 10 + (c.toNat - 48)) l = _; rw [Nat.zero_mul, Nat.zero_add]
    rw [e]
    simp at hl
    have h4 : 10 ^ 3 ≤ 10 ^ l.length := Nat.pow_le_pow_right (by decide) hl
    have h5 : 1 * 10 ^ l.length ≤ (c.toNat - 48) * 10 ^ l.length := Nat.mul_le_mul_right _ (by omega)
    omega
theorem decimal_ok (s : Str) : impl_decimal s 255 = some (numI s) := by
  unfold impl_decimal
  by_cases h0 : s.b = []
  · have : s = mkS [] := Str.ext' h0
    subst this
    simp [numI, mkS]
  have h0' : s ≠ mkS [] := fun e => h0 (by rw [e]; rfl)
  obtain ⟨c, l, hc⟩ : ∃ c l, s.b = c :: l := by cases hs : s.b with | nil => exact absurd hs h0 | cons c l => exact ⟨c, l, rfl⟩
  have hg : getI s.b 0 = some c := by rw [hc]; rfl
  have hz : (if decide (1 < (s.b.length : Int)) then Option.bind (getI s.b 0) fun x1_1 => some (decide (x1_1 = (48 : UInt8))) else some false : Option Bool) = some (zeroB s.b) := by
    unfold zeroB
    rw [hg, Option.bind_some]
    have : decide (s.b[0]? = some 48) = decide (c = 48) := by rw [hc]; simp
    rw [this]
    have e : decide (1 < (s.b.length : Int)) = decide (1 < s.b.length) := by rw [decide_eq_decide]; omega
    rw [e]
    cases decide (1 < s.b.length) <;> rfl
  rw [hz]
  simp only [h0', decide_false, Bool.false_eq_true, if_false]
  by_cases h5 : 5 < (s.b.length : Int)
  · simp only [h5, decide_true, if_true, Option.bind_some]
    unfold numI
    rw [if_neg]
    rintro ⟨_, h2, h3, h4⟩
    have := num_long h3 h2 (by omega)
    omega
  · simp only [h5, decide_false, Bool.false_eq_true, if_false, Option.bind_some]
    cases hzb : zeroB s.b with
    | true =>
      simp only [if_true]
      unfold numI
      rw [if_neg]
      rintro ⟨_, _, h3, _⟩
      rw [hzb] at h3; cases h3
    | false =>
      simp only [Bool.false_eq_true, if_false]
      rw [bindc (forN_any (xs := s.b) (body := (fun (i1_1 : Int) (xs1_1 : Unit) => (Option.bind (getI (s).b i1_1) fun x1_2 => Option.bind (impl_isDigit x1_2) fun r1_1 => if !(r1_1) then some (.inr (-1)) else some (.inl ()) : Option ((Unit) ⊕ (Int))))) (fun b => !digB b) (-1) (fun l x r he => by
        rw [he, getI_mid, Option.bind_some, digit_ok, Option.bind_some]))]
      have e : s.b.any (fun b => !digB b) = !s.b.all digB := by rw [List.not_all_eq_any_not]
      rw [e]
      cases hd : s.b.all digB with
      | false =>
        show some (-1 : Int) = _
        unfold numI
        rw [if_neg]
        rintro ⟨_, h2, _⟩
        rw [hd] at h2; cases h2
      | true =>
        show Option.bind (strconv_Atoi s) _ = _
        rw [atoi_digits h0 (by omega) hd, Option.bind_some]
        unfold numI
        by_cases h : vD 0 s.b ≤ 255
        · have e3 : ¬ (255 : Int) < ((vD 0 s.b : Nat) : Int) := by omega
          simp only [e3, decide_false, Bool.false_eq_true, if_false]
          rw [if_pos ⟨h0, hd, hzb, h⟩]
        · have e3 : (255 : Int) < ((vD 0 s.b : Nat) : Int) := by omega
          simp only [e3, decide_true, if_true]
          rw [if_neg (fun h' => h h'.2.2.2)]
theorem u8sub {b : UInt8} (h : digB b = true) : (b - (48 : UInt8)).toNat = b.toNat - 48 := by
  have := dig_iff.1 h
  rw [UInt8.toNat_sub]
  have h48 : (48 : UInt8).toNat = 48 := rfl
  omega
theorem num_loop {s : Str} (hl : s.b.length ≤ 17) : forN (fun (i1_1 : Int) (xs1_1 : Int) => (Option.bind (Option.bind (getI (s).b i1_1) fun x2_1 => if decide (x2_1 < (48 : UInt8)) then some true else Option.bind (getI (s).b i1_1) fun x2_2 => some (decide ((57 : UInt8) < x2_2)) : Option (Bool)) fun s1_1 => if s1_1 then some (.inr (0, false)) else Option.bind (getI (s).b i1_1) fun x1_4 => some (.inl (w64 ((w64 (xs1_1 * 10)) + ((((x1_4 - (48 : UInt8))).toNat : Int))))) : Option ((Int) ⊕ (Int × Bool)))) (((s.b.length : Int) : Int) - 0).toNat 0 0 = if s.b.all digB then some (.inl ((vD 0 s.b : Nat) : Int)) else some (.inr ((0 : Int), false)) := by
  rcases forN_list (xs := s.b) (body := (fun (i1_1 : Int) (xs1_1 : Int) => (Option.bind (Option.bind (getI (s).b i1_1) fun x2_1 => if decide (x2_1 < (48 : UInt8)) then some true else Option.bind (getI (s).b i1_1) fun x2_2 => some (decide ((57 : UInt8) < x2_2)) : Option (Bool)) fun s1_1 => if s1_1 then some (.inr (0, false)) else Option.bind (getI (s).b i1_1) fun x1_4 => some (.inl (w64 ((w64 (xs1_1 * 10)) + ((((x1_4 - (48 : UInt8))).toNat : Int))))) : Option ((Int) ⊕ (Int × Bool))))) (s := (0 : Int)) (fun l x => l.all digB = true ∧ x = ((vD 0 l : Nat) : Int)) (fun y => y = ((0 : Int), false) ∧ s.b.all digB = false) ⟨rfl, rfl⟩ (fun l c r x he hI => by
    obtain ⟨h1, rfl⟩ := hI
    have hlen := congrArg List.length he
    simp at hlen
    rw [he, getI_mid, Option.bind_some, Option.bind_some, Option.bind_some]
    have hc1 : (if decide (c < (48 : UInt8)) then some true else some (decide ((57 : UInt8) < c)) : Option Bool) = some (!digB c) := by
      unfold digB
      have a1 : decide ((48 : UInt8) ≤ c) = !decide (c < (48 : UInt8)) := by
        rw [← decide_not, decide_eq_decide]; exact UInt8.not_lt.symm
      have a2 : decide (c ≤ (57 : UInt8)) = !decide ((57 : UInt8) < c) := by
        rw [← decide_not, decide_eq_decide]; exact UInt8.not_lt.symm
      rw [a1, a2]
      cases decide (c < (48 : UInt8)) <;> simp
    rw [hc1, Option.bind_some]
    cases hd : digB c with
    | false =>
      refine .inr ⟨_, rfl, rfl, ?_⟩
      rw [List.all_append, List.all_cons, hd]; simp
    | true =>
      refine .inl ⟨_, rfl, by rw [List.all_append, h1, List.all_cons, hd]; rfl, ?_⟩
      have hv := vD_lt l 0 h1
      have hp : (10 : Nat) ^ l.length ≤ 10 ^ 16 := Nat.pow_le_pow_right (by decide) (by omega)
      have hcd := dig_iff.1 hd
      rw [vD_snoc, u8sub hd, w64_id (n := ((vD 0 l : Nat) : Int) * 10) (by omega) (by omega), w64_id (by omega) (by omega)]
      omega) with ⟨x, h1, h2, rfl⟩ | ⟨y, h1, rfl, h2⟩
  · rw [h1, h2]; rfl
  · rw [h1, h2]; rfl
theorem l30Num_ok (s : Str) : ∃ n ok, spec_l30Num s = some (n, ok) ∧ (ok && inB n 0 255) = decide (0 ≤ numI s) ∧ (0 ≤ numI s → n = numI s) := by
  have hneg : ∀ {p : Prop}, numI s = -1 → (0 ≤ numI s → p) := fun h h' => by omega
  unfold spec_l30Num
  cases hs : s.b with
  | nil =>
    have : numI s = -1 := by unfold numI; rw [hs]; simp
    refine ⟨0, false, ?_, by rw [this]; rfl, hneg this⟩
    simp [hs]
  | cons c l =>
    have hg : getI (c :: l) 0 = some c := rfl
    have h1 : (if decide (0 < ((c :: l).length : Int)) then Option.bind (getI (c :: l) 0) fun x1_1 => some (decide (x1_1 = (45 : UInt8))) else some false : Option Bool) = some (decide (c = 45)) := by
      rw [if_pos (by simp), hg, Option.bind_some]
    rw [h1, Option.bind_some]
    have hz2 : ∀ (t : Str) (d : UInt8) (m : List UInt8) (ng : Bool), t.b = d :: m → (if decide (((t).b.length : Int) = 0) then some true else if decide (17 < ((t).b.length : Int)) then some true else Option.bind (getI (t).b 0) fun x1_3 => if decide (x1_3 = (48 : UInt8)) then (if decide (1 < ((t).b.length : Int)) then some true else some ng) else some false : Option Bool) = some (decide (17 < t.b.length) || (decide (d = 48) && (decide (1 < t.b.length) || ng))) := fun t d m ng ht => by
      have hg2 : getI t.b 0 = some d := by rw [ht]; rfl
      have a0 : ¬ ((t.b.length : Int) = 0) := by rw [ht]; simp; omega
      have a1 : decide (17 < (t.b.length : Int)) = decide (17 < t.b.length) := by rw [decide_eq_decide]; omega
      have a2 : decide (1 < (t.b.length : Int)) = decide (1 < t.b.length) := by rw [decide_eq_decide]; omega
      simp only [a0, decide_false, Bool.false_eq_true, if_false, a1, a2, hg2, Option.bind_some]
      cases decide (17 < t.b.length) <;> cases decide (d = 48) <;> cases decide (1 < t.b.length) <;> rfl
    by_cases hm : c = 45
    · subst hm
      have hI : numI s = -1 := by
        unfold numI
        rw [if_neg]
        rintro ⟨_, h2, _⟩
        rw [hs, List.all_cons] at h2
        simp [digB] at h2
      obtain ⟨t, ht, htb⟩ : ∃ t, subS s 1 (s.b.length : Int) = some t ∧ t.b = l := by
        refine ⟨_, subS_some.2 ⟨⟨by omega, by rw [hs]; simp; omega, by omega⟩, rfl⟩, ?_⟩
        show ((s.b.take _).drop _) = l
        rw [hs]; simp
      have hsub : (if decide ((45 : UInt8) = 45) then Option.bind (subS s 1 (((45 : UInt8) :: l).length : Int)) fun x1_2 => some x1_2 else some s : Option Str) = some t := by
        rw [hs] at ht
        rw [if_pos (by decide), ht]; rfl
      rw [hsub, Option.bind_some]
      cases hl : l with
      | nil =>
        rw [hl] at htb
        refine ⟨0, false, ?_, by rw [hI]; rfl, hneg hI⟩
        simp [htb]
      | cons d m =>
        rw [hl] at htb
        rw [hz2 t d m _ htb, Option.bind_some]
        cases hb : (decide (17 < t.b.length) || (decide (d = 48) && (decide (1 < t.b.length) || decide ((45 : UInt8) = 45)))) with
        | true => exact ⟨0, false, rfl, by rw [hI]; rfl, hneg hI⟩
        | false =>
          simp only [Bool.or_eq_false_iff, decide_eq_false_iff_not] at hb
          simp only [Bool.false_eq_true, if_false]
          rw [bindc (num_loop (s := t) (by omega))]
          cases hd : t.b.all digB with
          | false => exact ⟨0, false, rfl, by rw [hI]; rfl, hneg hI⟩
          | true =>
            have h48 : d ≠ 48 := by
              rintro rfl
              simp at hb
            rw [htb, List.all_cons, Bool.and_eq_true, dig_iff] at hd
            have hlen : t.b.length ≤ 17 := by omega
            have hv := vD_ge m (d.toNat - 48)
            have e : vD 0 t.b = vD (d.toNat - 48) m := by rw [htb]; show vD (0 * 10 + (d.toNat - 48)) m = _; rw [Nat.zero_mul, Nat.zero_add]
            have h2 : d.toNat ≠ 48 := fun e => h48 (UInt8.toNat_inj.1 e)
            have h5 : 1 * 10 ^ m.length ≤ (d.toNat - 48) * 10 ^ m.length := Nat.mul_le_mul_right _ (by omega)
            have h6 : 0 < 10 ^ m.length := Nat.pow_pos (by decide)
            have h7 := vD_lt t.b 0 (by rw [htb, List.all_cons, Bool.and_eq_true, dig_iff]; exact hd)
            have h8 : (10 : Nat) ^ t.b.length ≤ 10 ^ 17 := Nat.pow_le_pow_right (by decide) hlen
            refine ⟨-((vD 0 t.b : Nat) : Int), true, ?_, ?_, hneg hI⟩
            · have hw : w64 (0 - ((vD 0 t.b : Nat) : Int)) = -((vD 0 t.b : Nat) : Int) := by rw [w64_id (by omega) (by omega), Int.zero_sub]
              simp only [if_true, Option.bind_some, Sum.elim_inl, decide_true, hw]
            · rw [hI]
              have h9 : decide (0 ≤ -((vD 0 t.b : Nat) : Int)) = false := by rw [decide_eq_false_iff_not]; omega
              unfold inB
              rw [h9]; rfl
    · have hsub : (if decide (c = 45) then Option.bind (subS s 1 ((c :: l).length : Int)) fun x1_2 => some x1_2 else some s : Option Str) = some s := by rw [if_neg (by simpa using hm)]
      rw [hsub, Option.bind_some, hz2 s c l _ hs, Option.bind_some]
      have hcm : decide (c = 45) = false := by simpa using hm
      rw [hcm, Bool.or_false]
      have hzb : zeroB s.b = (decide (c = 48) && decide (1 < s.b.length)) := by
        unfold zeroB
        rw [Bool.and_comm, hs]; simp
      rw [← hzb]
      cases hb : (decide (17 < s.b.length) || zeroB s.b) with
      | true =>
        have hI : numI s = -1 := by
          unfold numI
          rw [if_neg]
          rintro ⟨_, h2, h3, h4⟩
          rw [h3, Bool.or_false, decide_eq_true_iff] at hb
          have := num_long h3 h2 (by omega)
          omega
        exact ⟨0, false, rfl, by rw [hI]; rfl, hneg hI⟩
      | false =>
        rw [Bool.or_eq_false_iff, decide_eq_false_iff_not] at hb
        simp only [Bool.false_eq_true, if_false]
        rw [bindc (num_loop (s := s) (by omega))]
        cases hd : s.b.all digB with
        | false =>
          have hI : numI s = -1 := by
            unfold numI
            rw [if_neg]
            rintro ⟨_, h2, _⟩
            rw [hd] at h2; cases h2
          exact ⟨0, false, rfl, by rw [hI]; rfl, hneg hI⟩
        | true =>
          refine ⟨((vD 0 s.b : Nat) : Int), true, rfl, ?_, fun h => ?_⟩
          · unfold numI
            by_cases h : vD 0 s.b ≤ 255
            · rw [if_pos ⟨by rw [hs]; simp, hd, hb.2, h⟩]
              have a : ((vD 0 s.b : Nat) : Int) ≤ 255 := by omega
              simp [inB, a]
            · rw [if_neg (fun h' => h h'.2.2.2)]
              have a : ¬ ((vD 0 s.b : Nat) : Int) ≤ 255 := by omega
              simp [inB, a]
          · unfold numI at h ⊢
            split
            · rfl
            · rename_i h'; rw [if_neg h'] at h; omega
end Prg
end Go.Wk
namespace Go.Wk
open Go
namespace Prg
set_option maxRecDepth 10000
def wordB (w : Word_) : Bool :=
  if w.kind = 1 then nameB w.text else if w.kind = 2 then decide (0 ≤ numI w.text) else if w.kind = 3 then (match w.text.b with | [c] => decide (c ∈ sgnL) | _ => false) else if w.kind = 4 then keyB w.text else false
def numW (w : Word_) : Int := if w.kind = 2 then numI w.text else -1
theorem indexByte_iff (c : UInt8) : ∀ l : List UInt8, 0 ≤ Lib.indexByte l c ↔ c ∈ l
  | [] => by simp [Lib.indexByte]
  | b :: l => by
    have ih := indexByte_iff c l
    have hg := Lib.indexByte_ge l c
    unfold Lib.indexByte
    by_cases h : b = c
    · subst h; simp
    · have h1 : (b == c) = false := beq_eq_false_iff_ne.2 h
      rw [h1]
      simp only [Bool.false_eq_true, if_false, List.mem_cons]
      by_cases h2 : Lib.indexByte l c = -1
      · have h3 : (Lib.indexByte l c == -1) = true := by rw [h2]; rfl
        rw [h3]
        simp only [if_true]
        rw [h2] at ih
        constructor
        · intro h'; omega
        · rintro (h' | h')
          · exact absurd h'.symm h
          · have := ih.2 h'; omega
      · have h3 : (Lib.indexByte l c == -1) = false := beq_eq_false_iff_ne.2 h2
        rw [h3]
        simp only [Bool.false_eq_true, if_false]
        constructor
        · intro h'; exact .inr (ih.1 (by omega))
        · rintro (h' | h')
          · exact absurd h'.symm h
          · have := ih.2 h'; omega
theorem valid_ok (w : Word_) : impl_WordValid w = some (wordB w) := by
  unfold impl_WordValid wordB
  rw [name_ok, decimal_ok, has_ok, Option.bind_some, Option.bind_some, Option.bind_some]
  by_cases h1 : w.kind = 1
  · simp [h1]
  by_cases h2 : w.kind = 2
  · simp [h2]
  by_cases h3 : w.kind = 3
  · simp only [h3, decide_true, if_true, show ((3 : Int) = 1) = False by simp, show ((3 : Int) = 2) = False by simp, decide_false, Bool.false_eq_true, if_false]
    cases hb : w.text.b with
    | nil => simp
    | cons c l =>
      cases l with
      | nil =>
        have : strings_Contains (mkS [40, 41, 123, 125, 59, 44, 43, 45, 42, 47, 37, 60, 61, 38, 33, 64]) w.text = some (decide (c ∈ sgnL)) := by
          unfold strings_Contains containsM
          rw [hb]
          show some (decide (0 ≤ Lib.indexByte sgnL c)) = _
          congr 1
          exact decide_eq_decide.2 (indexByte_iff c sgnL)
        simp [this]
      | cons d l => simp; omega
  by_cases h4 : w.kind = 4
  · simp [h4, keyB]
  · simp [h1, h2, h3, h4]
theorem cls3 (b : UInt8) : decide (clsB b = 3) = decide (b ∈ sgnL) := by
  cases h1 : letB b <;> cases h2 : digB b <;> by_cases h3 : b ∈ sgnL <;> by_cases h4 : b = 32 ∨ b = 10 <;> simp [clsB, h1, h2, h3, h4]
  all_goals
    have key : ∀ c ∈ sgnL, letB c = false ∧ digB c = false := by decide
    have := key b h3
    simp_all
theorem validS_ok (w : Word_) : spec_WordValid w = some (wordB w) := by
  unfold spec_WordValid wordB
  rw [nameS_ok, key_ok, Option.bind_some, Option.bind_some]
  by_cases h1 : w.kind = 1
  · simp [h1]
  by_cases h2 : w.kind = 2
  · simp only [h2, decide_true, if_true, show ((2 : Int) = 1) = False by simp, decide_false, Bool.false_eq_true, if_false]
    obtain ⟨n, ok, e1, e2, _⟩ := l30Num_ok w.text
    rw [e1, Option.bind_some, l1In_ok, Option.bind_some, ← e2]
    cases ok <;> rfl
  by_cases h3 : w.kind = 3
  · simp only [h3, decide_true, if_true, show ((3 : Int) = 1) = False by simp, show ((3 : Int) = 2) = False by simp, decide_false, Bool.false_eq_true, if_false]
    cases hb : w.text.b with
    | nil => simp
    | cons c l =>
      cases l with
      | nil =>
        have : getI [c] 0 = some c := rfl
        simp [this, class_ok, cls3]
      | cons d l => simp; omega
  by_cases h4 : w.kind = 4
  · simp [h4]
  · simp [h1, h2, h3, h4]
theorem number_ok (w : Word_) : impl_NumberOf w = some (numW w) := by
  unfold impl_NumberOf numW
  rw [decimal_ok]
  by_cases h : w.kind = 2 <;> simp [h]
theorem numberS_ok (w : Word_) : spec_NumberOf w = some (numW w) := by
  unfold spec_NumberOf numW
  by_cases h : w.kind = 2
  · obtain ⟨n, ok, e1, e2, e3⟩ := l30Num_ok w.text
    simp only [h, ne_eq, not_true_eq_false, decide_false, Bool.false_eq_true, if_false, if_true, validS_ok, e1, Option.bind_some]
    have : wordB w = decide (0 ≤ numI w.text) := by unfold wordB; rw [if_neg (by rw [h]; decide), if_pos h]
    rw [this]
    by_cases h0 : 0 ≤ numI w.text
    · simp [h0, e3 h0]
    · have : numI w.text = -1 := by
        unfold numI at h0 ⊢
        split
        · rename_i h'; rw [if_pos h'] at h0; omega
        · rfl
      simp [h0, this]
  · simp [h]
def toS (l : List UInt8) : Str := if h : l.length ≤ 140737488355328 then ⟨l, h⟩ else mkS []
theorem toS_b {l : List UInt8} (h : l.length ≤ 140737488355328) : (toS l).b = l := by unfold toS; rw [dif_pos h]
def kindB (c : UInt8) (s : Str) : Int := if keyB s then 4 else if letB c then 1 else if digB c then 2 else 3
theorem key_let {s : Str} {c : UInt8} {l : List UInt8} (hs : s.b = c :: l) (h : keyB s = true) : letB c = true := by
  have hm : s ∈ glob_impl_keys := of_decide_eq_true h
  have key : ∀ k ∈ glob_impl_keys, ∃ c l, k.b = c :: l ∧ letB c = true := by
    intro k hk
    unfold glob_impl_keys at hk
    simp only [List.mem_cons, List.not_mem_nil, or_false] at hk
    rcases hk with rfl | rfl | rfl | rfl | rfl | rfl | rfl | rfl | rfl <;> exact ⟨_, _, rfl, by decide⟩
  obtain ⟨c', l', h1, h2⟩ := key s hm
  rw [hs] at h1
  cases h1; exact h2
theorem let_dig {c : UInt8} (h : letB c = true) : digB c = false := by
  cases hd : digB c with
  | false => rfl
  | true => have := let_iff.1 h; have := dig_iff.1 hd; omega
theorem word_ok {s : Str} {c : UInt8} {l : List UInt8} (hs : s.b = c :: l) : impl_wordOf s = some ⟨kindB c s, s⟩ := by
  unfold impl_wordOf kindB
  have hg : getI s.b 0 = some c := by rw [hs]; rfl
  rw [hg, Option.bind_some, digit_ok, has_ok, Option.bind_some, Option.bind_some, Option.bind_some, letter_ok, Option.bind_some]
  show (if digB c then some (⟨2, s⟩ : Word_) else if keyB s then some ⟨4, s⟩ else if letB c then some ⟨1, s⟩ else some ⟨3, s⟩) = _
  cases hk : keyB s with
  | true => rw [let_dig (key_let hs hk)]; rfl
  | false => cases hl : letB c <;> cases hd : digB c <;> first | rfl | (rw [let_dig hl] at hd; cases hd)
theorem wordS_ok {s : Str} {c : UInt8} {l : List UInt8} (hs : s.b = c :: l) (hc : clsB c ≠ 0) (hc4 : clsB c ≠ 4) : spec_l1Word s = some ⟨kindB c s, s⟩ := by
  unfold spec_l1Word kindB
  have hg : getI s.b 0 = some c := by rw [hs]; rfl
  rw [hg, Option.bind_some, class_ok, key_ok, Option.bind_some, Option.bind_some]
  cases hk : keyB s with
  | true => rfl
  | false =>
    show some (⟨clsB c, s⟩ : Word_) = _
    have : clsB c = if letB c then 1 else if digB c then 2 else 3 := by
      revert hc hc4
      unfold clsB
      cases letB c <;> cases digB c <;> (try by_cases h3 : c ∈ sgnL) <;> (try by_cases h4 : c = 32 ∨ c = 10) <;> simp [*]
    rw [this]; rfl
end Prg
end Go.Wk
namespace Go.Wk
open Go
namespace Prg
set_option maxRecDepth 10000
def runP (c : UInt8) (x : UInt8) : Bool := if letB c then letB x else if digB c then digB x else false
def mkWd (c : UInt8) (l : List UInt8) : Word_ := ⟨kindB c (toS (c :: l)), toS (c :: l)⟩
def blkB (c : UInt8) : Bool := decide (c = 32 ∨ c = 10)
theorem drop_le (p : UInt8 → Bool) : ∀ l : List UInt8, (l.dropWhile p).length ≤ l.length
  | [] => Nat.le_refl _
  | a :: l => by
    rw [List.dropWhile_cons]
    split
    · exact Nat.le_trans (drop_le p l) (Nat.le_succ _)
    · exact Nat.le_refl _
def tok (l : List UInt8) : Option (List Word_) := match l with
  | [] => some []
  | c :: r => if blkB c then tok r else
    if wordB (mkWd c (r.takeWhile (runP c))) then (tok (r.dropWhile (runP c))).map (mkWd c (r.takeWhile (runP c)) :: ·) else none
termination_by l.length
decreasing_by
  · simp
  · exact Nat.lt_succ_of_le (drop_le _ _)
theorem tok_nil : tok [] = some [] := by rw [tok]
theorem tok_cons (c : UInt8) (r : List UInt8) : tok (c :: r) = if blkB c then tok r else
    if wordB (mkWd c (r.takeWhile (runP c))) then (tok (r.dropWhile (runP c))).map (mkWd c (r.takeWhile (runP c)) :: ·) else none := by rw [tok]
def cutR (s : Str) : Option (List Word_) := if s.b.length ≤ 3000 then (tok s.b).filter (fun ws => decide (ws.length ≤ 600)) else none
def cutV (s : Str) : List Word_ × Bool := match cutR s with
  | some ws => (ws, true)
  | none => ([], false)
theorem run_loop {s : Str} (hs : s.b.length ≤ 3000) (p : UInt8 → Bool) {body : Int → Option (Int ⊕ Int)}
    (hb : ∀ k : Int, body k = Option.bind (if decide (k < (s.b.length : Int)) then Option.bind (getI s.b k) fun x => some (p x) else some false : Option Bool) fun t => if t then some (.inl (w64 (k + 1))) else some (.inr k)) :
    ∀ (l : List UInt8) (k : Nat), s.b.drop k = l → k ≤ s.b.length → loopM body (k : Int) = some ((k + (l.takeWhile p).length : Nat) : Int) := by
  intro l
  induction l with
  | nil =>
    intro k he hk
    have : s.b.length ≤ k := List.drop_eq_nil_iff.1 he
    refine loopM_inr ?_
    rw [hb, if_neg (by simp; omega)]
    simp
  | cons c l ih =>
    intro k he hk
    have hlt : k < s.b.length := by
      rcases Nat.lt_or_ge k s.b.length with h | h
      · exact h
      · rw [List.drop_eq_nil_of_le h] at he; cases he
    have hg : getI s.b (k : Int) = some c := by
      rw [getI_nat]
      have := congrArg (fun l => l[0]?) he
      simpa using this
    have hd : s.b.drop (k + 1) = l := by rw [← List.drop_drop, he]; rfl
    rw [List.takeWhile_cons]
    cases hp : p c with
    | true =>
      have := ih (k + 1) hd (by omega)
      rw [loopM_inl (s' := ((k + 1 : Nat) : Int))]
      · rw [this]; simp; omega
      · rw [hb, if_pos (by simp; omega), hg, Option.bind_some, hp, Option.bind_some, if_pos rfl, w64_id (by omega) (by omega)]
        rfl
    | false =>
      refine loopM_inr ?_
      rw [hb, if_pos (by simp; omega), hg, Option.bind_some, hp, Option.bind_some]
      simp
theorem take_drop (p : UInt8 → Bool) (l : List UInt8) : l.drop (l.takeWhile p).length = l.dropWhile p := by
  conv => lhs; arg 2; rw [← List.takeWhile_append_dropWhile (p := p) (l := l)]
  rw [List.drop_left]
theorem sub_run {s : Str} {k : Nat} {c : UInt8} {r : List UInt8} (p : UInt8 → Bool) (he : s.b.drop k = c :: r) (hk : k + 1 + (r.takeWhile p).length ≤ s.b.length) : subS s (k : Int) ((k + 1 + (r.takeWhile p).length : Nat) : Int) = some (toS (c :: r.takeWhile p)) := by
  refine subS_some.2 ⟨⟨by omega, by omega, by omega⟩, Str.ext' ?_⟩
  have hl : (c :: r.takeWhile p).length ≤ 140737488355328 := by
    have := s.h
    simp; omega
  rw [toS_b hl]
  show (s.b.take _).drop _ = _
  rw [List.drop_take, show ((k : Int)).toNat = k by omega, he, show (((k + 1 + (r.takeWhile p).length : Nat) : Int)).toNat - k = (r.takeWhile p).length + 1 by omega, List.take_succ_cons]
  congr 1
  conv => lhs; arg 2; rw [← List.takeWhile_append_dropWhile (p := p) (l := r)]
  rw [List.take_left]
theorem run_cls {c x : UInt8} (hc : blkB c = false) (h0 : clsB c ≠ 0) : (decide (clsB x = clsB c) && decide (clsB c < 3)) = runP c x := by
  unfold runP
  cases h1 : letB c with
  | true =>
    have : clsB c = 1 := by unfold clsB; rw [h1]; rfl
    rw [this, cls1]; simp
  | false =>
    cases h2 : digB c with
    | true =>
      have e : clsB c = 2 := by unfold clsB; rw [h1, h2]; rfl
      have e2 : decide (clsB x = 2) = digB x := by
        cases h3 : letB x <;> cases h4 : digB x <;> by_cases h5 : x ∈ sgnL <;> by_cases h6 : x = 32 ∨ x = 10 <;> simp [clsB, h3, h4, h5, h6]
        all_goals (have := let_dig h3; rw [h4] at this; cases this)
      rw [e, e2]; simp
    | false =>
      have : ¬ clsB c < 3 := by
        revert h0
        unfold clsB
        rw [h1, h2]
        by_cases h5 : c ∈ sgnL <;> by_cases h6 : c = 32 ∨ c = 10 <;> simp [h5, h6]
      simp [this]
theorem blk_cls (c : UInt8) : blkB c = decide (clsB c = 4) := by
  unfold blkB
  by_cases h : c = 32 ∨ c = 10
  · rcases h with rfl | rfl <;> decide
  · rw [decide_eq_false h]
    symm
    rw [decide_eq_false_iff_not]
    unfold clsB
    cases letB c <;> cases digB c <;> by_cases h5 : c ∈ sgnL <;> simp [h, h5]
def endI (acc : List Word_) (o : Option (List Word_)) : (List Word_ × Bool) ⊕ List Word_ := match o with
  | some ws => if acc.length + ws.length ≤ 600 then .inr (acc ++ ws) else .inl ([], false)
  | none => .inl ([], false)
theorem cut_impl {s : Str} (hs : s.b.length ≤ 3000) : ∀ (n : Nat) (l : List UInt8) (k : Nat) (acc : List Word_), l.length ≤ n → s.b.drop k = l → k ≤ s.b.length → acc.length ≤ 600 → loopM (fun (xs2_1 : (List Word_) × Int) => (if decide (xs2_1.2 < (((s).b.length : Int))) then Option.bind (Option.bind (Option.bind (getI (s).b xs2_1.2) fun x4_1 => if decide (x4_1 = (32 : UInt8)) then some true else Option.bind (getI (s).b xs2_1.2) fun x4_2 => some (decide (x4_2 = (10 : UInt8))) : Option (Bool)) fun s3_1 => if s3_1 then some (.inl (xs2_1.1, w64 (xs2_1.2 + 1))) else Option.bind (Option.bind (getI (s).b xs2_1.2) fun x4_3 => Option.bind (impl_isLetter x4_3) fun r4_1 => Option.bind (if r4_1 then some (fun y0 => impl_isLetter y0) else Option.bind (getI (s).b xs2_1.2) fun x5_1 => Option.bind (impl_isDigit x5_1) fun r5_1 => Option.bind (if r5_1 then some (fun y0 => impl_isDigit y0) else some (fun y0 => impl_CutWords_1 y0) : Option ((UInt8 → Option Bool))) fun s5_1 => some s5_1 : Option ((UInt8 → Option Bool))) fun s4_1 => some s4_1 : Option ((UInt8 → Option Bool))) fun s3_2 => Option.bind (Option.bind (loopM (S := Int) (X := Int) (fun xs5_1 => Option.bind (if decide (xs5_1 < (((s).b.length : Int))) then Option.bind (getI (s).b xs5_1) fun x6_1 => Option.bind (s3_2 x6_1) fun r6_1 => some r6_1 else some false : Option (Bool)) fun s5_2 => if s5_2 then some (.inl (w64 (xs5_1 + 1))) else some (.inr xs5_1)) (w64 (xs2_1.2 + 1))) (fun e0 => some e0) : Option (Int)) fun s3_3 => Option.bind (subS s xs2_1.2 s3_3) fun x3_1 => Option.bind (impl_wordOf x3_1) fun r3_1 => Option.bind (Option.bind (impl_WordValid r3_1) fun r4_3 => if !(r4_3) then some true else some (decide (((xs2_1.1.length : Int)) = 600)) : Option (Bool)) fun s3_4 => if s3_4 then some (.inr ([], false)) else Option.bind (appM xs2_1.1 ([r3_1] : List Word_)) fun ys3_1 => some (.inl (ys3_1, s3_3)) : Option (((List Word_) × Int) ⊕ ((List Word_) × Bool))) (Sum.elim (fun s2_1 => some (.inl (s2_1.1, s2_1.2))) (fun e0 => some (.inr (.inl e0)))) else some (.inr (.inr xs2_1.1)) : Option (((List Word_) × Int) ⊕ (((List Word_) × Bool) ⊕ (List Word_))))) (acc, (k : Int)) = some (endI acc (tok l)) := by
  intro n
  induction n with
  | zero =>
    intro l k acc hl he hk ha
    have : l = [] := List.eq_nil_of_length_eq_zero (by omega)
    subst this
    have h1 : s.b.length ≤ k := List.drop_eq_nil_iff.1 he
    refine loopM_inr ?_
    dsimp only
    rw [if_neg (by simp; omega), tok_nil]
    simp [endI, ha]
  | succ n ih =>
    intro l k acc hl he hk ha
    cases l with
    | nil =>
      have h1 : s.b.length ≤ k := List.drop_eq_nil_iff.1 he
      refine loopM_inr ?_
      dsimp only
      rw [if_neg (by simp; omega), tok_nil]
      simp [endI, ha]
    | cons c r =>
      have hlt : k < s.b.length := by
        rcases Nat.lt_or_ge k s.b.length with h | h
        · exact h
        · rw [List.drop_eq_nil_of_le h] at he; cases he
      have hg : getI s.b (k : Int) = some c := by
        rw [getI_nat]
        have := congrArg (fun l => l[0]?) he
        simpa using this
      have hd : s.b.drop (k + 1) = r := by rw [← List.drop_drop, he]; rfl
      have hrl : r.length + (k + 1) = s.b.length := by
        have := congrArg List.length hd
        simp at this; omega
      have hblk : (if decide (c = (32 : UInt8)) then some true else Option.bind (getI s.b (k : Int)) fun x4_2 => some (decide (x4_2 = (10 : UInt8))) : Option Bool) = some (blkB c) := by
        rw [hg, Option.bind_some]
        unfold blkB
        by_cases h : c = 32 <;> simp [h]
      rw [tok_cons]
      cases hb : blkB c with
      | true =>
        simp only [if_true]
        rw [loopM_inl (s' := (acc, ((k + 1 : Nat) : Int)))]
        · exact ih r (k + 1) acc (by simp at hl; omega) hd (by omega) ha
        · dsimp only
          rw [if_pos (by simp; omega), hg, Option.bind_some]
          rw [hg] at hblk
          rw [hblk, hb, Option.bind_some, if_pos rfl, w64_id (by omega) (by omega)]
          rfl
      | false =>
        simp only [Bool.false_eq_true, if_false]
        have hsel : ∃ f : UInt8 → Option Bool, (Option.bind (impl_isLetter c) fun r4_1 => Option.bind (if r4_1 then some (fun y0 => impl_isLetter y0) else Option.bind (getI s.b (k : Int)) fun x5_1 => Option.bind (impl_isDigit x5_1) fun r5_1 => Option.bind (if r5_1 then some (fun y0 => impl_isDigit y0) else some (fun y0 => impl_CutWords_1 y0) : Option ((UInt8 → Option Bool))) fun s5_1 => some s5_1 : Option ((UInt8 → Option Bool))) fun s4_1 => some s4_1 : Option (UInt8 → Option Bool)) = some f ∧ ∀ x, f x = some (runP c x) := by
          rw [letter_ok, Option.bind_some, hg, Option.bind_some, digit_ok, Option.bind_some]
          unfold runP
          cases letB c with
          | true => exact ⟨_, rfl, fun x => letter_ok x⟩
          | false =>
            cases digB c with
            | true => exact ⟨_, rfl, fun x => digit_ok x⟩
            | false => exact ⟨_, rfl, fun x => rfl⟩
        obtain ⟨f, hf1, hf2⟩ := hsel
        have hrun := run_loop hs (runP c) (body := (fun (xs5_1 : Int) => (Option.bind (if decide (xs5_1 < (((s).b.length : Int))) then Option.bind (getI (s).b xs5_1) fun x6_1 => Option.bind (f x6_1) fun r6_1 => some r6_1 else some false : Option (Bool)) fun s5_2 => if s5_2 then some (.inl (w64 (xs5_1 + 1))) else some (.inr xs5_1) : Option ((Int) ⊕ (Int))))) (fun k => by rw [show (fun x6_1 => Option.bind (f x6_1) fun r6_1 => some r6_1) = fun x => some (runP c x) from funext fun x => by rw [hf2, Option.bind_some]]) r (k + 1) hd (by omega)
        have htl : (r.takeWhile (runP c)).length ≤ r.length := by
          exact (List.takeWhile_sublist _).length_le
        have hsub := sub_run (s := s) (k := k) (runP c) he (by omega)
        have hwl : (c :: r.takeWhile (runP c)).length ≤ 140737488355328 := by have := s.h; simp; omega
        have hw := word_ok (s := toS (c :: r.takeWhile (runP c))) (toS_b hwl)
        have hk1 : w64 ((k : Int) + 1) = ((k + 1 : Nat) : Int) := by rw [w64_id (by omega) (by omega)]; rfl
        have hnext : s.b.drop (k + 1 + (r.takeWhile (runP c)).length) = r.dropWhile (runP c) := by rw [← List.drop_drop, hd, take_drop]
        have hw2 : (⟨kindB c (toS (c :: r.takeWhile (runP c))), toS (c :: r.takeWhile (runP c))⟩ : Word_) = mkWd c (r.takeWhile (runP c)) := rfl
        rw [hw2] at hw
        rw [hg] at hblk
        simp only [hg, Option.bind_some] at hf1
        have hdl := drop_le (runP c) r
        cases hv : wordB (mkWd c (r.takeWhile (runP c))) with
        | false =>
          refine loopM_inr ?_
          dsimp only
          rw [if_pos (by simp; omega), hg, Option.bind_some, hblk, hb, Option.bind_some]
          simp only [Bool.false_eq_true, if_false, Option.bind_some]
          rw [hf1, Option.bind_some, hk1, hrun, Option.bind_some, Option.bind_some, hsub, Option.bind_some, hw, Option.bind_some, valid_ok, hv]
          rfl
        | true =>
          by_cases h6 : acc.length = 600
          · rw [loopM_inr (x := .inl ([], false))]
            · simp only [if_true]
              cases tok (r.dropWhile (runP c)) with
              | none => rfl
              | some ws => simp [endI, h6]
            · dsimp only
              rw [if_pos (by simp; omega), hg, Option.bind_some, hblk, hb, Option.bind_some]
              simp only [Bool.false_eq_true, if_false, Option.bind_some]
              rw [hf1, Option.bind_some, hk1, hrun, Option.bind_some, Option.bind_some, hsub, Option.bind_some, hw, Option.bind_some, valid_ok, hv, h6]
              rfl
          · rw [loopM_inl (s' := (acc ++ [mkWd c (r.takeWhile (runP c))], ((k + 1 + (r.takeWhile (runP c)).length : Nat) : Int)))]
            · rw [ih (r.dropWhile (runP c)) (k + 1 + (r.takeWhile (runP c)).length) (acc ++ [mkWd c (r.takeWhile (runP c))]) (by simp at hl; omega) hnext (by omega) (by simp; omega)]
              simp only [if_true]
              cases tok (r.dropWhile (runP c)) with
              | none => rfl
              | some ws =>
                unfold endI
                simp only [Option.map_some, List.length_append, List.length_cons, List.length_nil, List.append_assoc, List.singleton_append]
                rw [show acc.length + (0 + 1) + ws.length = acc.length + (ws.length + 1) by omega]
            · have h6' : decide ((acc.length : Int) = 600) = false := by rw [decide_eq_false_iff_not]; omega
              dsimp only
              rw [if_pos (by simp; omega), hg, Option.bind_some, hblk, hb, Option.bind_some]
              simp only [Bool.false_eq_true, if_false, Option.bind_some]
              rw [hf1, Option.bind_some, hk1, hrun, Option.bind_some, Option.bind_some, hsub, Option.bind_some, hw, Option.bind_some, valid_ok, hv, Option.bind_some]
              simp only [Bool.not_true, Bool.false_eq_true, if_false, h6', Option.bind_some]
              rw [appM_ok (by simp; omega), Option.bind_some]
              rfl
theorem cutWords_ok (s : Str) : impl_CutWords s = some (cutV s) := by
  unfold impl_CutWords cutV cutR
  by_cases hs : s.b.length ≤ 3000
  · have h1 : ¬ (3000 : Int) < (s.b.length : Int) := by omega
    simp only [h1, decide_false, Bool.false_eq_true, if_false, hs, if_true]
    have := cut_impl hs s.b.length s.b 0 [] (Nat.le_refl _) rfl (Nat.zero_le _) (by simp)
    rw [show ((0 : Nat) : Int) = 0 from rfl] at this
    rw [bindc (bindc this)]
    cases tok s.b with
    | none => rfl
    | some ws =>
      unfold endI
      simp only [List.length_nil, Nat.zero_add, List.nil_append, Option.filter]
      by_cases h : ws.length ≤ 600 <;> simp [h]
  · have h1 : (3000 : Int) < (s.b.length : Int) := by omega
    simp [h1, hs]
end Prg
end Go.Wk
namespace Go.Wk
open Go
namespace Prg
set_option maxRecDepth 10000
def endS (acc : List Word_) (o : Option (List Word_)) : (List Word_ × Bool) ⊕ List Word_ := match o with
  | some ws => .inr (acc ++ ws)
  | none => .inl ([], false)
theorem cut_spec {s : Str} (hs : s.b.length ≤ 3000) : ∀ (n : Nat) (l : List UInt8) (k : Nat) (acc : List Word_), l.length ≤ n → s.b.drop k = l → k ≤ s.b.length → acc.length ≤ k → loopM (fun (xs2_1 : (List Word_) × Int) => (Option.bind (if decide (xs2_1.2 < (((s).b.length : Int))) then some (decide ((((s).b.length : Int)) ≤ 3000)) else some false : Option (Bool)) fun s2_1 => if s2_1 then Option.bind (getI (s).b xs2_1.2) fun x2_1 => Option.bind (spec_l1Class x2_1) fun r2_1 => Option.bind (Option.bind (loopM (S := Int) (X := Int) (fun xs4_1 => Option.bind (if decide (xs4_1 < (((s).b.length : Int))) then Option.bind (getI (s).b xs4_1) fun x5_1 => Option.bind (spec_l1Class x5_1) fun r5_1 => if decide (r5_1 = r2_1) then some (decide (r2_1 < 3)) else some false else some false : Option (Bool)) fun s4_1 => if s4_1 then some (.inl (w64 (xs4_1 + 1))) else some (.inr xs4_1)) (w64 (xs2_1.2 + 1))) (fun e0 => some e0) : Option (Int)) fun s2_2 => Option.bind (if decide (r2_1 ≠ 4) then Option.bind (if decide (r2_1 = 0) then some true else Option.bind (subS s xs2_1.2 s2_2) fun x4_1 => Option.bind (spec_l1Word x4_1) fun r4_1 => Option.bind (spec_WordValid r4_1) fun r4_2 => some (!(r4_2)) : Option (Bool)) fun s3_1 => if s3_1 then some (.inr (([] : List Word_), false)) else Option.bind (subS s xs2_1.2 s2_2) fun x3_1 => Option.bind (spec_l1Word x3_1) fun r3_2 => Option.bind (appM xs2_1.1 ([r3_2] : List Word_)) fun ys3_1 => some (.inl ys3_1) else some (.inl xs2_1.1) : Option (((List Word_)) ⊕ ((List Word_) × Bool))) (Sum.elim (fun s2_3 => some (.inl (s2_3, s2_2))) (fun e0 => some (.inr (.inl e0)))) else some (.inr (.inr xs2_1.1)) : Option (((List Word_) × Int) ⊕ (((List Word_) × Bool) ⊕ (List Word_))))) (acc, (k : Int)) = some (endS acc (tok l)) := by
  intro n
  have hend : ∀ (k : Nat) (acc : List Word_), s.b.drop k = [] → loopM (fun (xs2_1 : (List Word_) × Int) => (Option.bind (if decide (xs2_1.2 < (((s).b.length : Int))) then some (decide ((((s).b.length : Int)) ≤ 3000)) else some false : Option (Bool)) fun s2_1 => if s2_1 then Option.bind (getI (s).b xs2_1.2) fun x2_1 => Option.bind (spec_l1Class x2_1) fun r2_1 => Option.bind (Option.bind (loopM (S := Int) (X := Int) (fun xs4_1 => Option.bind (if decide (xs4_1 < (((s).b.length : Int))) then Option.bind (getI (s).b xs4_1) fun x5_1 => Option.bind (spec_l1Class x5_1) fun r5_1 => if decide (r5_1 = r2_1) then some (decide (r2_1 < 3)) else some false else some false : Option (Bool)) fun s4_1 => if s4_1 then some (.inl (w64 (xs4_1 + 1))) else some (.inr xs4_1)) (w64 (xs2_1.2 + 1))) (fun e0 => some e0) : Option (Int)) fun s2_2 => Option.bind (if decide (r2_1 ≠ 4) then Option.bind (if decide (r2_1 = 0) then some true else Option.bind (subS s xs2_1.2 s2_2) fun x4_1 => Option.bind (spec_l1Word x4_1) fun r4_1 => Option.bind (spec_WordValid r4_1) fun r4_2 => some (!(r4_2)) : Option (Bool)) fun s3_1 => if s3_1 then some (.inr (([] : List Word_), false)) else Option.bind (subS s xs2_1.2 s2_2) fun x3_1 => Option.bind (spec_l1Word x3_1) fun r3_2 => Option.bind (appM xs2_1.1 ([r3_2] : List Word_)) fun ys3_1 => some (.inl ys3_1) else some (.inl xs2_1.1) : Option (((List Word_)) ⊕ ((List Word_) × Bool))) (Sum.elim (fun s2_3 => some (.inl (s2_3, s2_2))) (fun e0 => some (.inr (.inl e0)))) else some (.inr (.inr xs2_1.1)) : Option (((List Word_) × Int) ⊕ (((List Word_) × Bool) ⊕ (List Word_))))) (acc, (k : Int)) = some (endS acc (tok [])) := fun k acc he => by
    have h1 : s.b.length ≤ k := List.drop_eq_nil_iff.1 he
    refine loopM_inr ?_
    dsimp only
    rw [if_neg (by simp; omega), tok_nil]
    simp [endS]
  induction n with
  | zero =>
    intro l k acc hl he hk ha
    have : l = [] := List.eq_nil_of_length_eq_zero (by omega)
    subst this
    exact hend k acc he
  | succ n ih =>
    intro l k acc hl he hk ha
    cases l with
    | nil => exact hend k acc he
    | cons c r =>
      have hlt : k < s.b.length := by
        rcases Nat.lt_or_ge k s.b.length with h | h
        · exact h
        · rw [List.drop_eq_nil_of_le h] at he; cases he
      have hg : getI s.b (k : Int) = some c := by
        rw [getI_nat]
        have := congrArg (fun l => l[0]?) he
        simpa using this
      have hd : s.b.drop (k + 1) = r := by rw [← List.drop_drop, he]; rfl
      have hrl : r.length + (k + 1) = s.b.length := by
        have := congrArg List.length hd
        simp at this; omega
      have hcond : (if decide ((k : Int) < (s.b.length : Int)) then some (decide ((s.b.length : Int) ≤ 3000)) else some false : Option Bool) = some true := by
        rw [if_pos (by simp; omega)]; congr 1; rw [decide_eq_true_iff]; omega
      have hk1 : w64 ((k : Int) + 1) = ((k + 1 : Nat) : Int) := by rw [w64_id (by omega) (by omega)]; rfl
      obtain ⟨q, hq⟩ : ∃ q, q = clsB c := ⟨_, rfl⟩
      have hrun := run_loop hs (fun x => decide (clsB x = q) && decide (q < 3)) (body := (fun (xs4_1 : Int) => (Option.bind (if decide (xs4_1 < (((s).b.length : Int))) then Option.bind (getI (s).b xs4_1) fun x5_1 => Option.bind (spec_l1Class x5_1) fun r5_1 => if decide (r5_1 = q) then some (decide (q < 3)) else some false else some false : Option (Bool)) fun s4_1 => if s4_1 then some (.inl (w64 (xs4_1 + 1))) else some (.inr xs4_1) : Option ((Int) ⊕ (Int))))) (fun k => by
        rw [show (fun x5_1 => Option.bind (spec_l1Class x5_1) fun r5_1 => if decide (r5_1 = q) then some (decide (q < 3)) else some false) = fun x => some (decide (clsB x = q) && decide (q < 3)) from funext fun x => by
          rw [class_ok, Option.bind_some]; cases decide (clsB x = q) <;> rfl]) r (k + 1) hd (by omega)
      subst hq
      rw [tok_cons]
      cases hb : blkB c with
      | true =>
        have h4 : clsB c = 4 := of_decide_eq_true (by rw [← blk_cls]; exact hb)
        have hp : (fun x => decide (clsB x = clsB c) && decide (clsB c < 3)) = fun _ => false := funext fun x => by rw [h4]; simp
        have ht : r.takeWhile (fun _ : UInt8 => false) = [] := by cases r <;> rfl
        rw [hp, ht] at hrun
        simp only [if_true]
        rw [loopM_inl (s' := (acc, ((k + 1 : Nat) : Int)))]
        · exact ih r (k + 1) acc (by simp at hl; omega) hd (by omega) (by omega)
        · dsimp only
          rw [hcond, Option.bind_some, if_pos rfl, hg, Option.bind_some, class_ok, Option.bind_some, hk1, hrun, Option.bind_some, Option.bind_some, h4]
          rfl
      | false =>
        have h4 : clsB c ≠ 4 := fun h => by rw [blk_cls, h] at hb; simp at hb
        simp only [Bool.false_eq_true, if_false]
        by_cases h0 : clsB c = 0
        · have hv : wordB (mkWd c (r.takeWhile (runP c))) = false := by
            have hl : letB c = false := by cases h : letB c with | false => rfl | true => unfold clsB at h0; rw [h] at h0; simp at h0
            have hdg : digB c = false := by cases h : digB c with | false => rfl | true => unfold clsB at h0; rw [hl, h] at h0; simp at h0
            have hsg : c ∉ sgnL := fun h => by unfold clsB at h0; rw [hl, hdg] at h0; simp [h] at h0
            have ht : r.takeWhile (runP c) = [] := by
              have : runP c = fun _ => false := funext fun x => by unfold runP; rw [hl, hdg]; rfl
              rw [this]; cases r <;> rfl
            rw [ht]
            have hk : keyB (toS [c]) = false := by
              cases h : keyB (toS [c]) with
              | false => rfl
              | true => have := key_let (toS_b (l := [c]) (by simp)) h; rw [hl] at this; cases this
            have : mkWd c [] = ⟨3, toS [c]⟩ := by unfold mkWd kindB; rw [hk, hl, hdg]; rfl
            rw [this]
            unfold wordB
            simp [toS_b (l := [c]) (by simp), hsg]
          rw [hv]
          refine loopM_inr ?_
          dsimp only
          rw [hcond, Option.bind_some, if_pos rfl, hg, Option.bind_some, class_ok, Option.bind_some, hk1, hrun, Option.bind_some, Option.bind_some, h0]
          rfl
        · have hp : (fun x => decide (clsB x = clsB c) && decide (clsB c < 3)) = runP c := funext fun x => run_cls hb h0
          rw [hp] at hrun
          have htl : (r.takeWhile (runP c)).length ≤ r.length := (List.takeWhile_sublist _).length_le
          have hsub := sub_run (s := s) (k := k) (runP c) he (by omega)
          have hwl : (c :: r.takeWhile (runP c)).length ≤ 140737488355328 := by have := s.h; simp; omega
          have hw := wordS_ok (s := toS (c :: r.takeWhile (runP c))) (toS_b hwl) h0 h4
          have hw2 : (⟨kindB c (toS (c :: r.takeWhile (runP c))), toS (c :: r.takeWhile (runP c))⟩ : Word_) = mkWd c (r.takeWhile (runP c)) := rfl
          rw [hw2] at hw
          have hdl := drop_le (runP c) r
          have hnext : s.b.drop (k + 1 + (r.takeWhile (runP c)).length) = r.dropWhile (runP c) := by rw [← List.drop_drop, hd, take_drop]
          have h4' : decide (clsB c ≠ 4) = true := decide_eq_true h4
          have h0' : decide (clsB c = 0) = false := decide_eq_false h0
          cases hv : wordB (mkWd c (r.takeWhile (runP c))) with
          | false =>
            refine loopM_inr ?_
            dsimp only
            rw [hcond, Option.bind_some, if_pos rfl, hg, Option.bind_some, class_ok, Option.bind_some, hk1, hrun, Option.bind_some, Option.bind_some, h4', h0']
            simp only [if_true, Bool.false_eq_true, if_false]
            rw [hsub, Option.bind_some, hw, Option.bind_some, validS_ok, hv]
            rfl
          | true =>
            simp only [if_true]
            rw [loopM_inl (s' := (acc ++ [mkWd c (r.takeWhile (runP c))], ((k + 1 + (r.takeWhile (runP c)).length : Nat) : Int)))]
            · rw [ih (r.dropWhile (runP c)) (k + 1 + (r.takeWhile (runP c)).length) (acc ++ [mkWd c (r.takeWhile (runP c))]) (by simp at hl; omega) hnext (by omega) (by simp; omega)]
              cases tok (r.dropWhile (runP c)) with
              | none => rfl
              | some ws => simp [endS]
            · dsimp only
              rw [hcond, Option.bind_some, if_pos rfl, hg, Option.bind_some, class_ok, Option.bind_some, hk1, hrun, Option.bind_some, Option.bind_some, h4', h0']
              simp only [if_true, Bool.false_eq_true, if_false]
              rw [hsub, Option.bind_some, hw, Option.bind_some, validS_ok, hv, Option.bind_some, Option.bind_some]
              simp only [Bool.not_true, Bool.false_eq_true, if_false]
              rw [Option.bind_some, hw, Option.bind_some, appM_ok (by simp; omega), Option.bind_some]
              rfl
theorem cutWordsS_ok (s : Str) : spec_CutWords s = some (cutV s) := by
  unfold spec_CutWords cutV cutR
  by_cases hs : s.b.length ≤ 3000
  · have := cut_spec hs s.b.length s.b 0 [] (Nat.le_refl _) rfl (Nat.zero_le _) (by simp)
    rw [show ((0 : Nat) : Int) = 0 from rfl] at this
    rw [bindc (bindc this), if_pos hs]
    have h1 : decide ((3000 : Int) < (s.b.length : Int)) = false := by rw [decide_eq_false_iff_not]; omega
    cases tok s.b with
    | none => rfl
    | some ws =>
      show Option.bind (if decide ((3000 : Int) < (s.b.length : Int)) then some true else some (decide (600 < (([] ++ ws : List Word_).length : Int)))) _ = _
      rw [h1]
      simp only [List.nil_append, Option.filter, Bool.false_eq_true, if_false, Option.bind_some]
      by_cases h : ws.length ≤ 600
      · have : ¬ (600 : Int) < (ws.length : Int) := by omega
        simp [h, this]
      · have : (600 : Int) < (ws.length : Int) := by omega
        simp [h, this]
  · rw [if_neg hs]
    have h1 : decide ((3000 : Int) < (s.b.length : Int)) = true := by rw [decide_eq_true_iff]; omega
    have h2 : decide ((s.b.length : Int) ≤ 3000) = false := by rw [decide_eq_false_iff_not]; omega
    rw [bindc (bindc (loopM_inr (x := .inr []) (by
      dsimp only
      rw [h2]
      cases decide ((0 : Int) < (s.b.length : Int)) <;> rfl)))]
    show Option.bind (if decide ((3000 : Int) < (s.b.length : Int)) then some true else some (decide (600 < (([] : List Word_).length : Int)))) _ = _
    rw [h1]
    rfl
end Prg
end Go.Wk
namespace Go.Wk
open Go
namespace Prg
set_option maxRecDepth 10000
theorem exprInd {P : Expr_ → Prop} (h : ∀ e : Expr_, (∀ k ∈ e.kids, P k) → P e) : ∀ e, P e := by
  have : ∀ (n : Nat) (e : Expr_), SizeOf.sizeOf e ≤ n → P e := by
    intro n
    induction n with
    | zero => intro e he; cases e; simp at he
    | succ n ih =>
      intro e he
      refine h e fun k hk => ih k ?_
      have := List.sizeOf_lt_of_mem hk
      cases e
      simp at he this ⊢
      omega
  exact fun e => this _ e (Nat.le_refl _)
mutual
def partsE : Expr_ → Nat
  | ⟨_, _, _, ks⟩ => 1 + partsL ks
def partsL : List Expr_ → Nat
  | [] => 0
  | k :: ks => partsE k + partsL ks
end
theorem partsE_eq (e : Expr_) : partsE e = 1 + partsL e.kids := by cases e; rw [partsE]
theorem partsL_cons (k : Expr_) (ks : List Expr_) : partsL (k :: ks) = partsE k + partsL ks := by rw [partsL]
theorem partsL_nil : partsL [] = 0 := by rw [partsL]
theorem partsL_app : ∀ (l r : List Expr_), partsL (l ++ r) = partsL l + partsL r
  | [], r => by rw [partsL_nil, List.nil_append, Nat.zero_add]
  | k :: l, r => by rw [List.cons_append, partsL_cons, partsL_cons, partsL_app l r]; omega
theorem parts_mem {k : Expr_} : ∀ {l : List Expr_}, k ∈ l → partsE k ≤ partsL l
  | a :: l, h => by
    rw [partsL_cons]
    rcases List.mem_cons.1 h with rfl | h
    · omega
    · have := parts_mem h; omega
def lvI (op : Int) : Int := if op = 10 then 1 else if op = 8 ∨ op = 9 then 2 else if op = 3 ∨ op = 4 then 3 else if op = 5 ∨ op = 6 ∨ op = 7 then 4 else if op = 11 ∨ op = 12 then 5 else 6
def kidsI (op : Int) : Int × Int := if op = 1 ∨ op = 2 then (0, 0) else if op = 11 ∨ op = 12 then (1, 1) else if op = 13 then (0, 3) else (2, 2)
def headB (e : Expr_) : Bool := inB e.op 1 13 && (inB (e.kids.length : Int) (kidsI e.op).1 (kidsI e.op).2 && ((if e.op = 2 ∨ e.op = 13 then nameB e.name else decide (e.name = mkS [])) && (inB e.n_ 0 255 && decide (e.op = 1 ∨ e.n_ = 0))))
def formE : Nat → Expr_ → Bool
  | 0, _ => false
  | d + 1, e => headB e && e.kids.all (formE d)
def validB (e : Expr_) : Bool := formE 6 e && decide (partsE e ≤ 30)
theorem op_cases {op : Int} (h : inB op 1 13 = true) : op = 1 ∨ op = 2 ∨ op = 3 ∨ op = 4 ∨ op = 5 ∨ op = 6 ∨ op = 7 ∨ op = 8 ∨ op = 9 ∨ op = 10 ∨ op = 11 ∨ op = 12 ∨ op = 13 := by
  rw [inB_iff] at h; omega
theorem level_ok (op : Int) : spec_l2Level op = some (lvI op) := by
  unfold spec_l2Level lvI
  by_cases h1 : op = 10
  · simp [h1]
  by_cases h2 : op = 8
  · simp [h2]
  by_cases h3 : op = 9
  · simp [h3]
  by_cases h4 : op = 3
  · simp [h4]
  by_cases h5 : op = 4
  · simp [h5]
  by_cases h6 : op = 5
  · simp [h6]
  by_cases h7 : op = 6
  · simp [h7]
  by_cases h8 : op = 7
  · simp [h8]
  by_cases h9 : op = 11
  · simp [h9]
  by_cases h10 : op = 12
  · simp [h10]
  simp [h1, h2, h3, h4, h5, h6, h7, h8, h9, h10]
theorem kids_ok (op : Int) : spec_l2Kids op = some (kidsI op) := by
  unfold spec_l2Kids kidsI
  by_cases h1 : op = 1
  · simp [h1]
  by_cases h2 : op = 2
  · simp [h2]
  by_cases h3 : op = 11
  · simp [h3]
  by_cases h4 : op = 12
  · simp [h4]
  by_cases h5 : op = 13
  · simp [h5]
  simp [h1, h2, h3, h4, h5]
def sgO (op : Int) : St_sign_level := (MapS.get glob_impl_opSign op).getD ⟨mkS [], 0⟩
theorem sg_none {op : Int} (h : ¬ (3 ≤ op ∧ op ≤ 10)) : sgO op = ⟨mkS [], 0⟩ := by
  unfold sgO
  cases hg : MapS.get glob_impl_opSign op with
  | none => rfl
  | some v =>
    exfalso
    have hm := (lookM_some glob_impl_opSign.nodup).1 hg
    unfold glob_impl_opSign at hm
    simp only [List.mem_cons, Prod.mk.injEq, List.not_mem_nil, or_false] at hm
    omega
theorem sg_level (op : Int) : (sgO op).level = if 3 ≤ op ∧ op ≤ 10 then lvI op else 0 := by
  by_cases h : 3 ≤ op ∧ op ≤ 10
  · rw [if_pos h]
    have : op = 3 ∨ op = 4 ∨ op = 5 ∨ op = 6 ∨ op = 7 ∨ op = 8 ∨ op = 9 ∨ op = 10 := by omega
    rcases this with rfl | rfl | rfl | rfl | rfl | rfl | rfl | rfl <;> rfl
  · rw [if_neg h, sg_none h]
theorem levelOf_ok (op : Int) : impl_levelOf op = some (lvI op) := by
  unfold impl_levelOf
  show (if decide (0 < (sgO op).level) then some (sgO op).level else _) = _
  rw [sg_level]
  by_cases h : 3 ≤ op ∧ op ≤ 10
  · rw [if_pos h]
    have : 0 < lvI op := by unfold lvI; repeat' split
                            all_goals omega
    simp [this]
  · rw [if_neg h]
    unfold lvI
    by_cases h1 : op = 11
    · simp [h1]
    by_cases h2 : op = 12
    · simp [h2]
    have : ¬ op = 10 ∧ ¬ (op = 8 ∨ op = 9) ∧ ¬ (op = 3 ∨ op = 4) ∧ ¬ (op = 5 ∨ op = 6 ∨ op = 7) := by omega
    simp [h1, h2, this]
end Prg
end Go.Wk
namespace Go.Wk
open Go
namespace Prg
set_option maxRecDepth 10000
theorem byte_ok (n : Int) : impl_isByte n = some (inB n 0 255) := by
  unfold impl_isByte; rw [within_ok]; rfl
theorem sg_lv (op : Int) : ((MapS.get glob_impl_opSign op).getD (⟨mkS [], 0⟩ : St_sign_level)).level = if 3 ≤ op ∧ op ≤ 10 then lvI op else 0 := sg_level op
theorem size_head (e : Expr_) (most : Int) : impl_exprSize e most = if headB e && decide (1 ≤ most) then
    Option.bind (forN (fun (i1_1 : Int) (xs1_1 : Int × Int) => (Option.bind (getI e.kids i1_1) fun x1_1 => Option.bind (impl_exprSize x1_1 (w64 (most - 1))) fun r1_4 => if !(r1_4.2.2) then some (.inr (0, 0, false)) else some (.inl (w64 (xs1_1.1 + r1_4.1), (maxI xs1_1.2 (w64 (r1_4.2.1 + 1))))) : Option ((Int × Int) ⊕ (Int × Int × Bool)))) (((e.kids.length : Int) : Int) - 0).toNat 0 (1, 1)) (Sum.elim (fun xs0_1 => some (xs0_1.1, xs0_1.2, decide (xs0_1.1 ≤ 30))) (fun e0 => some e0)) else some (0, 0, false) := by
  rw [impl_exprSize]
  generalize Option.bind (forN (fun (i1_1 : Int) (xs1_1 : Int × Int) => (Option.bind (getI e.kids i1_1) fun x1_1 => Option.bind (impl_exprSize x1_1 (w64 (most - 1))) fun r1_4 => if !(r1_4.2.2) then some (.inr (0, 0, false)) else some (.inl (w64 (xs1_1.1 + r1_4.1), (maxI xs1_1.2 (w64 (r1_4.2.1 + 1))))) : Option ((Int × Int) ⊕ (Int × Int × Bool)))) (((e.kids.length : Int) : Int) - 0).toNat 0 (1, 1)) (Sum.elim (fun xs0_1 => some (xs0_1.1, xs0_1.2, decide (xs0_1.1 ≤ 30))) (fun e0 => some e0)) = L
  simp only [byte_ok, name_ok, within_ok, levelOf_ok, sg_lv, Option.bind_some]
  have em : decide (most < 1) = !decide (1 ≤ most) := by
    by_cases h : 1 ≤ most
    · have : ¬ most < 1 := by omega
      simp [h, this]
    · have : most < 1 := by omega
      simp [h, this]
  rw [em]
  generalize decide (1 ≤ most) = b
  obtain ⟨op, n, nm, ks⟩ := e
  unfold headB
  dsimp only
  have hn : n = 0 → inB n 0 255 = true := fun h => by rw [h]; rfl
  cases hop : inB op 1 13 with
  | true =>
    cases hc : inB (ks.length : Int) (kidsI op).1 (kidsI op).2
    all_goals rcases op_cases hop with rfl | rfl | rfl | rfl | rfl | rfl | rfl | rfl | rfl | rfl | rfl | rfl | rfl
    all_goals
      simp only [lvI, kidsI] at hc ⊢
      simp at hc ⊢
      cases nameB nm <;> cases h3 : inB n 0 255 <;> cases b <;> by_cases h1 : nm = mkS [] <;> by_cases h2 : n = 0 <;> first | (simp [h1, h2, hc]; done) | (exfalso; rw [hn h2] at h3; cases h3)
  | false =>
    have : ¬ (1 ≤ op ∧ op ≤ 13) := fun h => by rw [inB_iff.2 h] at hop; cases hop
    have a1 : op ≠ 1 := by omega
    have a2 : op ≠ 2 := by omega
    have a3 : op ≠ 13 := by omega
    have a4 : op ≠ 11 := by omega
    have a5 : op ≠ 12 := by omega
    have a6 : ¬ (3 ≤ op ∧ op ≤ 10) := by omega
    simp [a1, a2, a3, a4, a5, a6]
def pbd : Nat → Nat
  | 0 => 0
  | d + 1 => 1 + 3 * pbd d
theorem form_kids {d : Nat} {e : Expr_} (h : formE (d + 1) e = true) : headB e = true ∧ ∀ k ∈ e.kids, formE d k = true := by
  rw [formE, Bool.and_eq_true, List.all_eq_true] at h; exact h
theorem head_kids {e : Expr_} (h : headB e = true) : e.kids.length ≤ 3 := by
  unfold headB at h
  simp only [Bool.and_eq_true] at h
  have h2 := inB_iff.1 h.2.1
  have : (kidsI e.op).2 ≤ 3 := by unfold kidsI; repeat' split
                                  all_goals simp
  omega
theorem partsL_le {n : Nat} : ∀ {l : List Expr_}, (∀ k ∈ l, partsE k ≤ n) → partsL l ≤ l.length * n
  | [], _ => by rw [partsL_nil]; omega
  | k :: l, h => by
    have h1 := h k (by simp)
    have h2 := partsL_le (l := l) fun x hx => h x (by simp [hx])
    rw [partsL_cons, List.length_cons, Nat.succ_mul]; omega
theorem form_parts : ∀ {d : Nat} {e : Expr_}, formE d e = true → partsE e ≤ pbd d
  | 0, e, h => by rw [formE] at h; cases h
  | d + 1, e, h => by
    obtain ⟨h1, h2⟩ := form_kids h
    have h3 := partsL_le (n := pbd d) (l := e.kids) fun k hk => form_parts (h2 k hk)
    have h4 : e.kids.length * pbd d ≤ 3 * pbd d := Nat.mul_le_mul_right _ (head_kids h1)
    rw [partsE_eq, pbd]; omega
theorem form_ok : ∀ (e : Expr_) (d : Int), d ≤ 1000 → -1000 ≤ d → spec_l2Form e d = some (formE d.toNat e) := by
  intro e
  induction e using exprInd with
  | h e ih =>
    intro d hd hd2
    rw [spec_l2Form, kids_ok, Option.bind_some]
    simp only [l1In_ok, nameS_ok, Option.bind_some]
    by_cases h1 : d < 1
    · have : d.toNat = 0 := by omega
      rw [this, formE]
      simp [h1]
    obtain ⟨m, hdm⟩ : ∃ m : Nat, d = (m : Int) + 1 := ⟨d.toNat - 1, by omega⟩
    have hm : d.toNat = m + 1 := by omega
    rw [hm, formE]
    have hk : ∀ k ∈ e.kids, spec_l2Form k (w64 (d - 1)) = some (formE m k) := by
      intro k hk
      rw [w64_id (by omega) (by omega), ih k hk _ (by omega) (by omega)]
      congr 2; omega
    have hl : forN (fun (i1_1 : Int) (xs1_1 : Unit) => (Option.bind (getI e.kids i1_1) fun x1_1 => Option.bind (spec_l2Form x1_1 (w64 (d - 1))) fun r1_6 => if !(r1_6) then some (.inr false) else some (.inl ()) : Option ((Unit) ⊕ (Bool)))) (((e.kids.length : Int) : Int) - 0).toNat 0 () = if e.kids.all (formE m) then some (.inl ()) else some (.inr false) := by
      rw [forN_any (xs := e.kids) (body := (fun (i1_1 : Int) (xs1_1 : Unit) => (Option.bind (getI e.kids i1_1) fun x1_1 => Option.bind (spec_l2Form x1_1 (w64 (d - 1))) fun r1_6 => if !(r1_6) then some (.inr false) else some (.inl ()) : Option ((Unit) ⊕ (Bool))))) (fun k => !formE m k) false (fun l x r he => by
        rw [he, getI_mid, Option.bind_some, hk x (by rw [he]; simp), Option.bind_some])]
      have : e.kids.any (fun k => !formE m k) = !e.kids.all (formE m) := by rw [List.not_all_eq_any_not]
      rw [this]
      cases e.kids.all (formE m) <;> rfl
    rw [hl]
    have e1 : decide (d < 1) = false := by simp; omega
    rw [e1]
    unfold headB
    cases inB e.op 1 13 with
    | false => rfl
    | true =>
    cases inB (e.kids.length : Int) (kidsI e.op).1 (kidsI e.op).2 with
    | false => rfl
    | true =>
    have e2 : (if decide (e.op = 2) then some true else some (decide (e.op = 13)) : Option Bool) = some (decide (e.op = 2 ∨ e.op = 13)) := by by_cases h : e.op = 2 <;> simp [h]
    simp only [Bool.false_eq_true, if_false, Bool.not_true, e2, Option.bind_some, Bool.true_and]
    have hn : nameB (mkS []) = false := rfl
    have h0 : e.n_ = 0 → inB e.n_ 0 255 = true := fun h => by rw [h]; rfl
    by_cases h : e.op = 2 ∨ e.op = 13
    · have h5 : ¬ e.op = 1 := by omega
      cases nameB e.name <;> cases h3 : inB e.n_ 0 255 <;> cases e.kids.all (formE m) <;> by_cases h6 : e.n_ = 0 <;> first | (simp [h, h5, h6]; done) | (exfalso; rw [h0 h6] at h3; cases h3)
    · by_cases h7 : e.name = mkS []
      · rw [h7, hn]
        cases h3 : inB e.n_ 0 255 <;> cases e.kids.all (formE m) <;> by_cases h6 : e.n_ = 0 <;> by_cases h5 : e.op = 1 <;> first | (simp [h, h5, h6]; done) | (exfalso; rw [h0 h6] at h3; cases h3)
      · cases nameB e.name <;> cases h3 : inB e.n_ 0 255 <;> cases e.kids.all (formE m) <;> by_cases h6 : e.n_ = 0 <;> by_cases h5 : e.op = 1 <;> first | (simp [h, h5, h6, h7]; done) | (exfalso; rw [h0 h6] at h3; cases h3)
theorem parts_ok : ∀ (e : Expr_), partsE e ≤ 1000000 → spec_l2Parts e = some (partsE e : Int) := by
  intro e
  induction e using exprInd with
  | h e ih =>
    intro he
    rw [spec_l2Parts]
    rw [partsE_eq] at he ⊢
    rcases forN_list (xs := e.kids) (body := (fun (i1_1 : Int) (xs1_1 : Int) => (Option.bind (getI e.kids i1_1) fun x1_1 => Option.bind (spec_l2Parts x1_1) fun r1_1 => some (.inl (w64 (xs1_1 + r1_1))) : Option ((Int) ⊕ (Empty))))) (s := 1) (fun l s => s = ((1 + partsL l : Nat) : Int)) (fun _ => False) (by rw [partsL_nil]; rfl) (fun l x r s hx hI => .inl (by
      have hp := parts_mem (k := x) (l := e.kids) (by rw [hx]; simp)
      have hp2 : partsL e.kids = partsL l + (partsE x + partsL r) := by rw [hx, partsL_app, partsL_cons]
      refine ⟨_, ?_, rfl⟩
      subst hI
      have hw : w64 (((1 + partsL l : Nat) : Int) + (partsE x : Int)) = ((1 + partsL (l ++ [x]) : Nat) : Int) := by
        rw [w64_id (by omega) (by omega), partsL_app, partsL_cons, partsL_nil]; omega
      rw [show getI e.kids (l.length : Int) = some x by rw [hx, getI_mid], Option.bind_some, ih x (by rw [hx]; simp) (by omega), Option.bind_some, hw])) with ⟨s, h1, h2⟩ | ⟨y, h1, h2⟩
    · rw [h1, h2]; rfl
    · exact h2.elim
theorem validS_E (e : Expr_) : spec_ExprValid e = some (validB e) := by
  unfold spec_ExprValid validB
  rw [form_ok e 6 (by omega) (by omega), Option.bind_some]
  rw [show (6 : Int).toNat = 6 from rfl]
  cases h : formE 6 e with
  | false => rfl
  | true =>
    have := form_parts h
    rw [parts_ok e (Nat.le_trans this (by decide))]
    have : decide ((partsE e : Int) ≤ 30) = decide (partsE e ≤ 30) := by rw [decide_eq_decide]; omega
    simp [this]
theorem size_ok : ∀ (e : Expr_) (d : Nat), d ≤ 6 → ∃ p h ok, impl_exprSize e (d : Int) = some (p, h, ok) ∧ ok = (formE d e && decide (partsE e ≤ 30)) ∧ (ok = true → p = (partsE e : Int) ∧ 0 ≤ h ∧ h ≤ (d : Int)) := by
  intro e
  induction e using exprInd with
  | h e ih =>
    intro d hd
    rw [size_head]
    cases d with
    | zero => exact ⟨0, 0, false, by simp, by rw [formE]; rfl, fun h => by cases h⟩
    | succ d =>
    generalize hD : ((d + 1 : Nat) : Int) = D
    have e1 : decide ((1 : Int) ≤ D) = true := by simp; omega
    rw [e1, Bool.and_true, formE]
    cases hh : headB e with
    | false => exact ⟨0, 0, false, rfl, rfl, fun h => by cases h⟩
    | true =>
    rw [if_pos rfl]
    have hk3 := head_kids hh
    rcases forN_list (xs := e.kids) (body := (fun (i1_1 : Int) (xs1_1 : Int × Int) => (Option.bind (getI e.kids i1_1) fun x1_1 => Option.bind (impl_exprSize x1_1 (w64 (D - 1))) fun r1_4 => if !(r1_4.2.2) then some (.inr (0, 0, false)) else some (.inl (w64 (xs1_1.1 + r1_4.1), (maxI xs1_1.2 (w64 (r1_4.2.1 + 1))))) : Option ((Int × Int) ⊕ (Int × Int × Bool))))) (s := (1, 1)) (fun l s => s.1 = ((1 + partsL l : Nat) : Int) ∧ 0 ≤ s.2 ∧ s.2 ≤ D ∧ l.all (formE d) = true ∧ partsL l ≤ l.length * 30) (fun y => y = (0, 0, false) ∧ (e.kids.all (formE d) && decide (1 + partsL e.kids ≤ 30)) = false) ⟨by rw [partsL_nil]; rfl, by simp, by simp only []; omega, rfl, by rw [partsL_nil]; simp⟩ (fun l x r s hx hI => by
      have hp2 : partsL e.kids = partsL l + (partsE x + partsL r) := by rw [hx, partsL_app, partsL_cons]
      obtain ⟨p, h, ok, g1, g2, g3⟩ := ih x (by rw [hx]; simp) d (by omega)
      have hll : l.length ≤ 3 := by
        have := congrArg List.length hx
        simp at this
        omega
      have g0 : w64 (D - 1) = (d : Int) := by rw [w64_id (by omega) (by omega)]; omega
      have gg : getI e.kids (l.length : Int) = some x := by rw [hx, getI_mid]
      cases hok : ok with
      | false =>
        refine .inr ⟨_, ?_, rfl, ?_⟩
        · rw [gg, Option.bind_some, g0, g1, hok]; rfl
        · rw [hok] at g2
          rw [hx, List.all_append, List.all_cons]
          cases h1 : formE d x with
          | false => simp
          | true =>
            rw [h1] at g2
            simp at g2
            have : ¬ 1 + partsL e.kids ≤ 30 := by omega
            rw [hx] at this
            simp [this]
      | true =>
        obtain ⟨g4, g5, g6⟩ := g3 hok
        rw [hok] at g2
        have g7 := g2.symm
        rw [Bool.and_eq_true, decide_eq_true_iff] at g7
        obtain ⟨i1, i2, i3, i4, i5⟩ := hI
        have hle : partsL l ≤ 3 * 30 := Nat.le_trans i5 (Nat.mul_le_mul_right _ hll)
        refine .inl ⟨(w64 (s.1 + p), maxI s.2 (w64 (h + 1))), ?_, ?_, ?_, ?_, ?_, ?_⟩
        · rw [gg, Option.bind_some, g0, g1, hok]; rfl
        · rw [i1, g4, w64_id (by omega) (by omega), partsL_app, partsL_cons, partsL_nil]; omega
        · show 0 ≤ maxI s.2 (w64 (h + 1))
          rw [w64_id (by omega) (by omega)]; unfold maxI; split <;> omega
        · show maxI s.2 (w64 (h + 1)) ≤ _
          rw [w64_id (by omega) (by omega)]; unfold maxI; split <;> omega
        · rw [List.all_append, i4, List.all_cons, g7.1]; rfl
        · rw [partsL_app, partsL_cons, partsL_nil, List.length_append, List.length_cons, List.length_nil, Nat.add_mul]; omega) with ⟨s, h1, h2⟩ | ⟨y, h1, h2, h3⟩
    · obtain ⟨i1, i2, i3, i4, i5⟩ := h2
      refine ⟨s.1, s.2, decide (s.1 ≤ 30), by rw [h1]; rfl, ?_, fun _ => ⟨by rw [i1, partsE_eq], i2, i3⟩⟩
      rw [i4, Bool.true_and, Bool.true_and, i1, partsE_eq, decide_eq_decide]; omega
    · refine ⟨0, 0, false, by rw [h1, h2]; rfl, ?_, fun h => by cases h⟩
      rw [Bool.true_and, partsE_eq, h3]
theorem valid_E (e : Expr_) : impl_ExprValid e = some (validB e) := by
  unfold impl_ExprValid validB
  obtain ⟨p, h, ok, h1, h2, h3⟩ := size_ok e 6 (by omega)
  rw [show (6 : Int) = ((6 : Nat) : Int) from rfl, h1, Option.bind_some, h2]
end Prg
end Go.Wk
namespace Go.Wk
open Go
namespace Prg
set_option maxRecDepth 10000
def isT (ws : List Word_) (t : Str) : Bool := match ws with
  | [] => false
  | w :: _ => decide (w.text = t)
def pkW (ws : List Word_) : Word_ := match ws with
  | [] => ⟨0, mkS []⟩
  | w :: _ => w
theorem peek_ok (ws : List Word_) (b : Bool) : pimpl_wordReader__peek ⟨ws, b⟩ = some (pkW ws) := by
  unfold pimpl_wordReader__peek
  cases ws with
  | nil => rfl
  | cons w ws =>
    have : decide (((w :: ws).length : Int) = 0) = false := by simp; omega
    rw [this]; rfl
theorem next_nil (b : Bool) : pimpl_wordReader__next ⟨[], b⟩ = some (⟨0, mkS []⟩, ⟨[], true⟩) := by
  unfold pimpl_wordReader__next
  rw [peek_ok]; rfl
theorem sub_tail (w : Word_) (ws : List Word_) : subM (w :: ws) 1 ((w :: ws).length : Int) = some ws := by
  unfold subM
  rw [if_pos ⟨by omega, by simp; omega, by omega⟩]
  simp
theorem next_cons (w : Word_) (ws : List Word_) (b : Bool) : pimpl_wordReader__next ⟨w :: ws, b⟩ = some (w, ⟨ws, b⟩) := by
  unfold pimpl_wordReader__next
  have : decide (((w :: ws).length : Int) = 0) = false := by simp; omega
  rw [peek_ok, Option.bind_some]
  dsimp only
  rw [this, sub_tail]; rfl
def tkW (ws : List Word_) (k : Int) (t : Str) : Bool := match ws with
  | [] => false
  | w :: _ => decide (w.kind = k) && decide (w.text = t)
theorem take_ok (ws : List Word_) (b : Bool) (k : Int) (t : Str) : pimpl_wordReader__take ⟨ws, b⟩ k t = some (tkW ws k t, ⟨if tkW ws k t then ws.tail else ws, b⟩) := by
  unfold pimpl_wordReader__take
  rw [peek_ok, Option.bind_some]
  cases ws with
  | nil => rfl
  | cons w ws =>
    have : decide (((w :: ws).length : Int) = 0) = false := by simp; omega
    show Option.bind (if decide (((w :: ws).length : Int) = 0) then _ else if decide (w.kind ≠ k) then some true else some (decide (w.text ≠ t))) (fun s => if s then _ else Option.bind (subM (w :: ws) 1 ((w :: ws).length : Int)) _) = _
    rw [this, sub_tail]
    unfold tkW
    by_cases h1 : w.kind = k <;> by_cases h2 : w.text = t <;> simp [h1, h2]
theorem want_ok (ws : List Word_) (b : Bool) (k : Int) (t : Str) : pimpl_wordReader__want ⟨ws, b⟩ k t = some ⟨if tkW ws k t then ws.tail else ws, if tkW ws k t then b else true⟩ := by
  unfold pimpl_wordReader__want
  rw [take_ok, Option.bind_some]
  cases tkW ws k t <;> rfl
theorem sign_kind {w : Word_} {c : UInt8} (hw : wordB w = true) (hb : w.text.b = [c]) (hc : c ∈ sgnL) : w.kind = 3 := by
  have hcl : letB c = false ∧ digB c = false := by
    have key : ∀ c ∈ sgnL, letB c = false ∧ digB c = false := by decide
    exact key c hc
  unfold wordB at hw
  by_cases h1 : w.kind = 1
  · rw [if_pos h1] at hw
    unfold nameB at hw
    rw [hb] at hw
    simp [hcl.1] at hw
  rw [if_neg h1] at hw
  by_cases h2 : w.kind = 2
  · rw [if_pos h2] at hw
    unfold numI at hw
    rw [hb] at hw
    simp [hcl.2] at hw
  rw [if_neg h2] at hw
  by_cases h3 : w.kind = 3
  · exact h3
  rw [if_neg h3] at hw
  by_cases h4 : w.kind = 4
  · rw [if_pos h4] at hw
    have := key_let hb hw
    rw [hcl.1] at this; cases this
  · rw [if_neg h4] at hw; cases hw
theorem tk_is {ws : List Word_} (hw : ∀ w ∈ ws, wordB w = true) {t : Str} {c : UInt8} (ht : t.b = [c]) (hc : c ∈ sgnL) : tkW ws 3 t = isT ws t := by
  cases ws with
  | nil => rfl
  | cons w ws =>
    unfold tkW isT
    by_cases h : w.text = t
    · have := sign_kind (hw w (by simp)) (by rw [h]; exact ht) hc
      simp [h, this]
    · simp [h]
theorem is_ok (list : List Word_) (n : Nat) (t : Str) : spec_l2Is list (n : Int) t = some (isT (list.drop n) t) := by
  unfold spec_l2Is isT
  by_cases h : n < list.length
  · have h1 : decide ((n : Int) < (list.length : Int)) = true := by simp; omega
    rw [h1, if_pos rfl, getI_nat, List.getElem?_eq_getElem h, List.drop_eq_getElem_cons h]; rfl
  · have h1 : decide ((n : Int) < (list.length : Int)) = false := by simp; omega
    rw [h1, List.drop_eq_nil_of_le (by omega)]; rfl
def opW (lv : Int) (w : Word_) : Int :=
  if lv = 1 then (if w.text = mkS [38] then 10 else 0)
  else if lv = 2 then (if w.text = mkS [60] then 8 else if w.text = mkS [61] then 9 else 0)
  else if lv = 3 then (if w.text = mkS [43] then 3 else if w.text = mkS [45] then 4 else 0)
  else (if w.text = mkS [42] then 5 else if w.text = mkS [47] then 6 else if w.text = mkS [37] then 7 else 0)
def opT (lv : Int) (ws : List Word_) : Int := match ws with
  | [] => 0
  | w :: _ => opW lv w
theorem sign_3 : spec_l2Sign 3 = some (mkS [43]) := rfl
theorem sign_4 : spec_l2Sign 4 = some (mkS [45]) := rfl
theorem sign_5 : spec_l2Sign 5 = some (mkS [42]) := rfl
theorem sign_6 : spec_l2Sign 6 = some (mkS [47]) := rfl
theorem sign_7 : spec_l2Sign 7 = some (mkS [37]) := rfl
theorem sign_8 : spec_l2Sign 8 = some (mkS [60]) := rfl
theorem sign_9 : spec_l2Sign 9 = some (mkS [61]) := rfl
theorem sign_10 : spec_l2Sign 10 = some (mkS [38]) := rfl
theorem sign_11 : spec_l2Sign 11 = some (mkS [33]) := rfl
theorem sign_12 : spec_l2Sign 12 = some (mkS [64]) := rfl
theorem op_ok (list : List Word_) (n : Nat) (lv : Int) (hl : lv = 1 ∨ lv = 2 ∨ lv = 3 ∨ lv = 4) : spec_l2Op list (n : Int) lv = some (opT lv (list.drop n)) := by
  unfold spec_l2Op
  have e : (((10) + 1 : Int) - 3).toNat = 8 := rfl
  rw [e]
  rcases hl with rfl | rfl | rfl | rfl
  all_goals
    simp only [forN, level_ok, lvI, Option.bind_some, is_ok]
    simp [sign_3, sign_4, sign_5, sign_6, sign_7, sign_8, sign_9, sign_10, is_ok]
    unfold opT isT
    cases list.drop n with
    | nil => rfl
    | cons w r =>
      unfold opW
      dsimp only
      repeat' split
      all_goals simp_all
theorem rangeM_pick {α S : Type} (q : α → Bool) (f : α → S) (K : S) {body : α → S → Option S} (hb : ∀ p s, body p s = some (if q p then f p else s)) : ∀ (fs : List α) (s : S), (∀ p ∈ fs, q p = true → f p = K) → rangeM body fs s = some (if fs.any q then K else s)
  | [], s, _ => rfl
  | p :: fs, s, h => by
    rw [rangeM, hb, Option.bind_some, rangeM_pick q f K hb fs _ fun p hp => h p (by simp [hp])]
    rw [List.any_cons]
    cases hq : q p with
    | true =>
      rw [h p (by simp) hq]
      cases fs.any q <;> rfl
    | false => rfl
theorem any_perm {α : Type} {q : α → Bool} {fs es : List α} (hp : fs.Perm es) : fs.any q = es.any q := by
  cases h : es.any q with
  | true =>
    obtain ⟨x, h1, h2⟩ := List.any_eq_true.1 h
    exact List.any_eq_true.2 ⟨x, hp.mem_iff.2 h1, h2⟩
  | false =>
    rw [List.any_eq_false] at h ⊢
    exact fun x hx => h x (hp.mem_iff.1 hx)
theorem rangeP_pick {α S : Type} (q : α → Bool) (f : α → S) (K : S) {body : α → S → Option S} (hb : ∀ p s, body p s = some (if q p then f p else s)) {es : List α} {s : S} (h : ∀ p ∈ es, q p = true → f p = K) : rangeP body es s = some (if es.any q then K else s) :=
  rangeP_ok fun fs hp => by
    rw [rangeM_pick q f K hb fs s fun p hx => h p (hp.mem_iff.1 hx), any_perm hp]
def qE (lv : Int) (ws : List Word_) (p : Int × St_sign_level) : Bool := decide (p.2.level = lv) && (decide ((pkW ws).kind = 3) && decide ((pkW ws).text = p.2.sign))
theorem opI_ok (ws : List Word_) (hw : ∀ w ∈ ws, wordB w = true) (lv : Int) (hl : lv = 1 ∨ lv = 2 ∨ lv = 3 ∨ lv = 4) {body : Int × St_sign_level → Int → Option Int} (hb : ∀ p s, body p s = some (if qE lv ws p then p.1 else s)) :
    rangeP body (glob_impl_opSign : MapS St_sign_level).es 0 = some (opT lv ws) := by
  have hes : ∀ p ∈ glob_impl_opSign.es, p = (3, ⟨mkS [43], 3⟩) ∨ p = (4, ⟨mkS [45], 3⟩) ∨ p = (5, ⟨mkS [42], 4⟩) ∨ p = (6, ⟨mkS [47], 4⟩) ∨ p = (7, ⟨mkS [37], 4⟩) ∨ p = (8, ⟨mkS [60], 2⟩) ∨ p = (9, ⟨mkS [61], 2⟩) ∨ p = (10, ⟨mkS [38], 1⟩) := by
    intro p hp
    unfold glob_impl_opSign at hp
    simpa only [List.mem_cons, List.not_mem_nil, or_false] using hp
  have hq : ∀ p ∈ glob_impl_opSign.es, qE lv ws p = true → p.1 = opT lv ws := by
    intro p hp hq
    cases ws with
    | nil => simp [qE, pkW] at hq
    | cons w r =>
      unfold qE at hq
      simp only [Bool.and_eq_true, decide_eq_true_iff, pkW] at hq
      obtain ⟨h1, _, h2⟩ := hq
      replace h2 := of_decide_eq_true h2
      show p.1 = opW lv w
      unfold opW
      rw [h2, ← h1]
      rcases hes p hp with rfl | rfl | rfl | rfl | rfl | rfl | rfl | rfl <;> rfl
  rw [rangeP_pick (qE lv ws) (fun p => p.1) (opT lv ws) hb hq]
  cases h : glob_impl_opSign.es.any (qE lv ws) with
  | true => rfl
  | false =>
    cases ws with
    | nil => rfl
    | cons w r =>
      have key : ∀ p ∈ glob_impl_opSign.es, p.2.level = lv → w.text = p.2.sign → False := by
        intro p hp h1 h2
        have hn := List.any_eq_false.1 h p hp
        apply hn
        obtain ⟨c, h3, h4⟩ : ∃ c, p.2.sign.b = [c] ∧ c ∈ sgnL := by
          rcases hes p hp with rfl | rfl | rfl | rfl | rfl | rfl | rfl | rfl <;> exact ⟨_, rfl, by decide⟩
        have h5 := sign_kind (hw w (by simp)) (by rw [h2]; exact h3) h4
        unfold qE
        simp [pkW, h1, h2, h5]
      have n3 : lv = 3 → w.text ≠ mkS [43] := fun h h2 => key (3, ⟨mkS [43], 3⟩) (by simp [glob_impl_opSign]) h.symm h2
      have n4 : lv = 3 → w.text ≠ mkS [45] := fun h h2 => key (4, ⟨mkS [45], 3⟩) (by simp [glob_impl_opSign]) h.symm h2
      have n5 : lv = 4 → w.text ≠ mkS [42] := fun h h2 => key (5, ⟨mkS [42], 4⟩) (by simp [glob_impl_opSign]) h.symm h2
      have n6 : lv = 4 → w.text ≠ mkS [47] := fun h h2 => key (6, ⟨mkS [47], 4⟩) (by simp [glob_impl_opSign]) h.symm h2
      have n7 : lv = 4 → w.text ≠ mkS [37] := fun h h2 => key (7, ⟨mkS [37], 4⟩) (by simp [glob_impl_opSign]) h.symm h2
      have n8 : lv = 2 → w.text ≠ mkS [60] := fun h h2 => key (8, ⟨mkS [60], 2⟩) (by simp [glob_impl_opSign]) h.symm h2
      have n9 : lv = 2 → w.text ≠ mkS [61] := fun h h2 => key (9, ⟨mkS [61], 2⟩) (by simp [glob_impl_opSign]) h.symm h2
      have n10 : lv = 1 → w.text ≠ mkS [38] := fun h h2 => key (10, ⟨mkS [38], 1⟩) (by simp [glob_impl_opSign]) h.symm h2
      show some 0 = some (opW lv w)
      unfold opW
      rcases hl with rfl | rfl | rfl | rfl
      · simp [n10 rfl]
      · simp [n8 rfl, n9 rfl]
      · simp [n3 rfl, n4 rfl]
      · simp [n5 rfl, n6 rfl, n7 rfl]
end Prg
end Go.Wk
namespace Go.Wk
open Go
namespace Prg
set_option maxRecDepth 10000
inductive Job where
  | E (lv : Int) (ws : List Word_) (e : Expr_) (r : List Word_)
  | L (lv : Int) (x : Expr_) (ws : List Word_) (e : Expr_) (r : List Word_)
  | A (ws : List Word_) (ks : List Expr_) (r : List Word_)
  | M (acc : List Expr_) (ws : List Word_) (ks : List Expr_) (r : List Word_)
inductive Rd : Job → Prop
  | neg {w ws e r} : w.text = mkS [33] → Rd (.E 5 ws e r) → Rd (.E 5 (w :: ws) ⟨11, 0, mkS [], [e]⟩ r)
  | at_ {w ws e r} : w.text = mkS [64] → Rd (.E 5 ws e r) → Rd (.E 5 (w :: ws) ⟨12, 0, mkS [], [e]⟩ r)
  | par {w ws e v r} : w.text = mkS [40] → Rd (.E 1 ws e (v :: r)) → v.text = mkS [41] → Rd (.E 5 (w :: ws) e r)
  | num {w r} : w.kind = 2 → Rd (.E 5 (w :: r) ⟨1, numW w, mkS [], []⟩ r)
  | var {w r} : w.kind = 1 → isT r (mkS [40]) = false → Rd (.E 5 (w :: r) ⟨2, 0, w.text, []⟩ r)
  | call {w v ws ks r} : w.kind = 1 → v.text = mkS [40] → Rd (.A ws ks r) → Rd (.E 5 (w :: v :: ws) ⟨13, 0, w.text, ks⟩ r)
  | up {lv ws e ws' e' r} : (lv = 1 ∨ lv = 2 ∨ lv = 3 ∨ lv = 4) → Rd (.E (lv + 1) ws e ws') → Rd (.L lv e ws' e' r) → Rd (.E lv ws e' r)
  | stop {lv e ws} : opT lv ws = 0 → Rd (.L lv e ws e ws)
  | step {lv e w ws f ws' e' r} : opW lv w ≠ 0 → Rd (.E (lv + 1) ws f ws') → Rd (.L lv ⟨opW lv w, 0, mkS [], [e, f]⟩ ws' e' r) → Rd (.L lv e (w :: ws) e' r)
  | done {v r} : v.text = mkS [41] → Rd (.A (v :: r) [] r)
  | first {ws e ws' ks r} : isT ws (mkS [41]) = false → Rd (.E 1 ws e ws') → Rd (.M [e] ws' ks r) → Rd (.A ws ks r)
  | last {acc v r} : v.text = mkS [41] → Rd (.M acc (v :: r) acc r)
  | more {acc v ws e ws' ks r} : v.text = mkS [44] → Rd (.E 1 ws e ws') → Rd (.M (acc ++ [e]) ws' ks r) → Rd (.M acc (v :: ws) ks r)
def sufJ : Job → Prop
  | .E _ ws _ r => r.length < ws.length ∧ ∀ x ∈ r, x ∈ ws
  | .L _ _ ws _ r => r.length ≤ ws.length ∧ ∀ x ∈ r, x ∈ ws
  | .A ws _ r => r.length < ws.length ∧ ∀ x ∈ r, x ∈ ws
  | .M _ ws _ r => r.length < ws.length ∧ ∀ x ∈ r, x ∈ ws
theorem rd_suf {j : Job} (h : Rd j) : sufJ j := by
  induction h <;> simp only [sufJ, List.length_cons, List.mem_cons] at *
  case neg ih => exact ⟨by omega, fun x hx => .inr (ih.2 x hx)⟩
  case at_ ih => exact ⟨by omega, fun x hx => .inr (ih.2 x hx)⟩
  case par ih => exact ⟨by omega, fun x hx => .inr (ih.2 x (.inr hx))⟩
  case num => exact ⟨by omega, fun x hx => .inr hx⟩
  case var => exact ⟨by omega, fun x hx => .inr hx⟩
  case call ih => exact ⟨by omega, fun x hx => .inr (.inr (ih.2 x hx))⟩
  case up ih1 ih2 => exact ⟨by omega, fun x hx => ih1.2 x (ih2.2 x hx)⟩
  case stop => exact ⟨by omega, fun x hx => hx⟩
  case step ih1 ih2 => exact ⟨by omega, fun x hx => .inr (ih1.2 x (ih2.2 x hx))⟩
  case done => exact ⟨by omega, fun x hx => .inr hx⟩
  case first ih1 ih2 => exact ⟨by omega, fun x hx => ih1.2 x (ih2.2 x hx)⟩
  case last => exact ⟨by omega, fun x hx => .inr hx⟩
  case more ih1 ih2 => exact ⟨by omega, fun x hx => .inr (ih1.2 x (ih2.2 x hx))⟩
def AtW (list : List Word_) (n : Nat) (ws : List Word_) : Prop := list.drop n = ws ∧ n ≤ list.length
theorem at_cons {list : List Word_} {n : Nat} {w : Word_} {ws : List Word_} (h : AtW list n (w :: ws)) : n < list.length ∧ getI list (n : Int) = some w ∧ AtW list (n + 1) ws := by
  obtain ⟨h1, h2⟩ := h
  have hlt : n < list.length := by
    rcases Nat.lt_or_ge n list.length with h | h
    · exact h
    · rw [List.drop_eq_nil_of_le h] at h1; cases h1
  rw [List.drop_eq_getElem_cons hlt] at h1
  cases h1
  exact ⟨hlt, by rw [getI_nat, List.getElem?_eq_getElem hlt], rfl, hlt⟩
theorem at_nil {list : List Word_} {n : Nat} (h : AtW list n []) : n = list.length := by
  have := List.drop_eq_nil_iff.1 h.1
  have := h.2
  omega
theorem at_is {list : List Word_} {n : Nat} {ws : List Word_} (h : AtW list n ws) (t : Str) : spec_l2Is list (n : Int) t = some (isT ws t) := by rw [is_ok, h.1]
theorem at_op {list : List Word_} {n : Nat} {ws : List Word_} (h : AtW list n ws) {lv : Int} (hl : lv = 1 ∨ lv = 2 ∨ lv = 3 ∨ lv = 4) : spec_l2Op list (n : Int) lv = some (opT lv ws) := by rw [op_ok _ _ _ hl, h.1]
theorem w64_1 {n : Nat} (h : n ≤ 2000) : w64 ((n : Int) + 1) = ((n + 1 : Nat) : Int) := by rw [w64_id (by omega) (by omega)]; omega
theorem w64_2 {n : Nat} (h : n ≤ 2000) : w64 ((n : Int) + 2) = ((n + 2 : Nat) : Int) := by rw [w64_id (by omega) (by omega)]; omega
theorem tight_cons {list : List Word_} (hl : list.length ≤ 1000) {n : Nat} {w : Word_} {ws : List Word_} (h : AtW list n (w :: ws)) : spec_l2Tight list (n : Int) =
    if w.text = mkS [33] then Option.bind (spec_l2Tight list ((n + 1 : Nat) : Int)) fun r => some (⟨11, 0, mkS [], [r.1]⟩, r.2)
    else if w.text = mkS [64] then Option.bind (spec_l2Tight list ((n + 1 : Nat) : Int)) fun r => some (⟨12, 0, mkS [], [r.1]⟩, r.2)
    else if w.text = mkS [40] then Option.bind (spec_l2Read list ((n + 1 : Nat) : Int) 1) fun r => Option.bind (if decide (r.2 < 0) then some true else Option.bind (spec_l2Is list r.2 (mkS [41])) fun b => some (!b) : Option Bool) fun s => if s then some (r.1, -1) else some (r.1, w64 (r.2 + 1))
    else if w.kind = 2 then some (⟨1, numW w, mkS [], []⟩, ((n + 1 : Nat) : Int))
    else if w.kind ≠ 1 then some (⟨0, 0, mkS [], []⟩, -1)
    else if isT ws (mkS [40]) = false then some (⟨2, 0, w.text, []⟩, ((n + 1 : Nat) : Int))
    else Option.bind (spec_l2List list ((n + 2 : Nat) : Int)) fun r => some (⟨13, 0, w.text, r.1⟩, r.2) := by
  obtain ⟨h1, h2, h3⟩ := at_cons h
  rw [spec_l2Tight, show (((12) + 1 : Int) - 11).toNat = 2 from rfl]
  simp only [forN, sign_11, show ((11 : Int) + 1) = 12 from rfl, sign_12, Option.bind_some, w64_1 (show n ≤ 2000 by omega), w64_2 (show n ≤ 2000 by omega), at_is h, at_is h3, h2, numberS_ok]
  have e1 : decide ((n : Int) < (list.length : Int)) = true := by simp; omega
  have e2 : decide ((list.length : Int) ≤ (n : Int)) = false := by simp; omega
  rw [e1, e2]
  unfold isT
  by_cases c1 : w.text = mkS [33]
  · simp only [c1, decide_true, if_true]
    cases spec_l2Tight list ((n + 1 : Nat) : Int) <;> rfl
  by_cases c2 : w.text = mkS [64]
  · simp only [c1, c2, decide_true, decide_false, if_true, if_false, Bool.false_eq_true]
    cases spec_l2Tight list ((n + 1 : Nat) : Int) <;> rfl
  by_cases c3 : w.text = mkS [40]
  · have a1 : (mkS [40] : Str) ≠ mkS [33] := by decide
    have a2 : (mkS [40] : Str) ≠ mkS [64] := by decide
    simp [c3, a1, a2]
  by_cases c4 : w.kind = 2
  · simp [c1, c2, c3, c4]
  by_cases c5 : w.kind = 1
  · cases ws with
    | nil => simp [c1, c2, c3, c5]
    | cons v ws => by_cases c6 : v.text = mkS [40] <;> simp [c1, c2, c3, c5, c6]
  · simp [c1, c2, c3, c4, c5]
theorem tight_nil {list : List Word_} {n : Nat} (h : AtW list n []) : spec_l2Tight list (n : Int) = some (⟨0, 0, mkS [], []⟩, -1) := by
  have h1 := at_nil h
  rw [spec_l2Tight, show (((12) + 1 : Int) - 11).toNat = 2 from rfl]
  simp only [forN, sign_11, show ((11 : Int) + 1) = 12 from rfl, sign_12, Option.bind_some, at_is h]
  have e1 : decide ((n : Int) < (list.length : Int)) = false := by simp; omega
  have e2 : decide ((list.length : Int) ≤ (n : Int)) = true := by simp; omega
  rw [e1, e2]
  simp [isT]
theorem read5 (list : List Word_) (n : Int) : spec_l2Read list n 5 = spec_l2Tight list n := by
  rw [spec_l2Read]
  rw [if_pos (by decide)]
  cases spec_l2Tight list n <;> rfl
theorem bindS {α : Type} {o : Option α} : (Option.bind o fun e => some e) = o := by cases o <;> rfl
theorem read_lv {list : List Word_} {n lv : Int} (hl : lv = 1 ∨ lv = 2 ∨ lv = 3 ∨ lv = 4) : spec_l2Read list n lv = Option.bind (spec_l2Read list n (lv + 1)) fun r => Option.bind (loopM (fun (xs2_1 : Int × Int × Str × (List Expr_) × Int) => (Option.bind (if decide (0 ≤ xs2_1.2.2.2.2) then Option.bind (spec_l2Op list xs2_1.2.2.2.2 lv) fun r3_1 => some (decide (0 < r3_1)) else some false : Option (Bool)) fun s2_1 => if s2_1 then Option.bind (spec_l2Op list xs2_1.2.2.2.2 lv) fun r2_1 => Option.bind (spec_l2Read list (w64 (xs2_1.2.2.2.2 + 1)) (w64 (lv + 1))) fun r2_2 => some (.inl (r2_1, 0, (mkS []), ([(⟨xs2_1.1, xs2_1.2.1, xs2_1.2.2.1, xs2_1.2.2.2.1⟩ : Expr_), r2_2.1] : List Expr_), r2_2.2)) else some (.inr (xs2_1.1, xs2_1.2.1, xs2_1.2.2.1, xs2_1.2.2.2.1, xs2_1.2.2.2.2)) : Option ((Int × Int × Str × (List Expr_) × Int) ⊕ (Int × Int × Str × (List Expr_) × Int)))) (r.1.op, r.1.n_, r.1.name, r.1.kids, r.2)) fun s => some (⟨s.1, s.2.1, s.2.2.1, s.2.2.2.1⟩, s.2.2.2.2) := by
  have e : w64 (lv + 1) = lv + 1 := w64_id (by omega) (by omega)
  have e2 : decide (4 < lv) = false := by simp; omega
  rw [spec_l2Read, e2]
  simp only [Bool.false_eq_true, if_false, e, bindS]
end Prg
end Go.Wk
namespace Go.Wk
open Go
namespace Prg
set_option maxRecDepth 10000
theorem mk_eta (e : Expr_) : (⟨e.op, e.n_, e.name, e.kids⟩ : Expr_) = e := by cases e; rfl
theorem opW_ge (lv : Int) (w : Word_) : 0 ≤ opW lv w := by
  unfold opW; repeat' split
  all_goals decide
theorem spL_stop {list : List Word_} {n : Nat} {ws : List Word_} (h : AtW list n ws) {lv : Int} (hl : lv = 1 ∨ lv = 2 ∨ lv = 3 ∨ lv = 4) (ho : opT lv ws = 0) {op n_ : Int} {nm : Str} {ks : List Expr_} :
    loopM (fun (xs2_1 : Int × Int × Str × (List Expr_) × Int) => (Option.bind (if decide (0 ≤ xs2_1.2.2.2.2) then Option.bind (spec_l2Op list xs2_1.2.2.2.2 lv) fun r3_1 => some (decide (0 < r3_1)) else some false : Option (Bool)) fun s2_1 => if s2_1 then Option.bind (spec_l2Op list xs2_1.2.2.2.2 lv) fun r2_1 => Option.bind (spec_l2Read list (w64 (xs2_1.2.2.2.2 + 1)) (w64 (lv + 1))) fun r2_2 => some (.inl (r2_1, 0, (mkS []), ([(⟨xs2_1.1, xs2_1.2.1, xs2_1.2.2.1, xs2_1.2.2.2.1⟩ : Expr_), r2_2.1] : List Expr_), r2_2.2)) else some (.inr (xs2_1.1, xs2_1.2.1, xs2_1.2.2.1, xs2_1.2.2.2.1, xs2_1.2.2.2.2)) : Option ((Int × Int × Str × (List Expr_) × Int) ⊕ (Int × Int × Str × (List Expr_) × Int)))) (op, n_, nm, ks, (n : Int)) = some (op, n_, nm, ks, (n : Int)) := by
  refine loopM_inr ?_
  have e1 : decide (0 ≤ (n : Int)) = true := by simp
  simp only [e1, at_op h hl, ho, Option.bind_some]
  rfl
theorem spL_bad {list : List Word_} {lv : Int} {op n_ : Int} {nm : Str} {ks : List Expr_} :
    loopM (fun (xs2_1 : Int × Int × Str × (List Expr_) × Int) => (Option.bind (if decide (0 ≤ xs2_1.2.2.2.2) then Option.bind (spec_l2Op list xs2_1.2.2.2.2 lv) fun r3_1 => some (decide (0 < r3_1)) else some false : Option (Bool)) fun s2_1 => if s2_1 then Option.bind (spec_l2Op list xs2_1.2.2.2.2 lv) fun r2_1 => Option.bind (spec_l2Read list (w64 (xs2_1.2.2.2.2 + 1)) (w64 (lv + 1))) fun r2_2 => some (.inl (r2_1, 0, (mkS []), ([(⟨xs2_1.1, xs2_1.2.1, xs2_1.2.2.1, xs2_1.2.2.2.1⟩ : Expr_), r2_2.1] : List Expr_), r2_2.2)) else some (.inr (xs2_1.1, xs2_1.2.1, xs2_1.2.2.1, xs2_1.2.2.2.1, xs2_1.2.2.2.2)) : Option ((Int × Int × Str × (List Expr_) × Int) ⊕ (Int × Int × Str × (List Expr_) × Int)))) (op, n_, nm, ks, -1) = some (op, n_, nm, ks, -1) := by
  refine loopM_inr ?_
  rfl
theorem spL_step {list : List Word_} (hlen : list.length ≤ 1000) {n : Nat} {w : Word_} {ws : List Word_} (h : AtW list n (w :: ws)) {lv : Int} (hl : lv = 1 ∨ lv = 2 ∨ lv = 3 ∨ lv = 4) (ho : opW lv w ≠ 0) {op n_ : Int} {nm : Str} {ks : List Expr_} {f : Expr_} {m : Int}
    (hr : spec_l2Read list ((n + 1 : Nat) : Int) (lv + 1) = some (f, m)) :
    loopM (fun (xs2_1 : Int × Int × Str × (List Expr_) × Int) => (Option.bind (if decide (0 ≤ xs2_1.2.2.2.2) then Option.bind (spec_l2Op list xs2_1.2.2.2.2 lv) fun r3_1 => some (decide (0 < r3_1)) else some false : Option (Bool)) fun s2_1 => if s2_1 then Option.bind (spec_l2Op list xs2_1.2.2.2.2 lv) fun r2_1 => Option.bind (spec_l2Read list (w64 (xs2_1.2.2.2.2 + 1)) (w64 (lv + 1))) fun r2_2 => some (.inl (r2_1, 0, (mkS []), ([(⟨xs2_1.1, xs2_1.2.1, xs2_1.2.2.1, xs2_1.2.2.2.1⟩ : Expr_), r2_2.1] : List Expr_), r2_2.2)) else some (.inr (xs2_1.1, xs2_1.2.1, xs2_1.2.2.1, xs2_1.2.2.2.1, xs2_1.2.2.2.2)) : Option ((Int × Int × Str × (List Expr_) × Int) ⊕ (Int × Int × Str × (List Expr_) × Int)))) (op, n_, nm, ks, (n : Int)) = loopM (fun (xs2_1 : Int × Int × Str × (List Expr_) × Int) => (Option.bind (if decide (0 ≤ xs2_1.2.2.2.2) then Option.bind (spec_l2Op list xs2_1.2.2.2.2 lv) fun r3_1 => some (decide (0 < r3_1)) else some false : Option (Bool)) fun s2_1 => if s2_1 then Option.bind (spec_l2Op list xs2_1.2.2.2.2 lv) fun r2_1 => Option.bind (spec_l2Read list (w64 (xs2_1.2.2.2.2 + 1)) (w64 (lv + 1))) fun r2_2 => some (.inl (r2_1, 0, (mkS []), ([(⟨xs2_1.1, xs2_1.2.1, xs2_1.2.2.1, xs2_1.2.2.2.1⟩ : Expr_), r2_2.1] : List Expr_), r2_2.2)) else some (.inr (xs2_1.1, xs2_1.2.1, xs2_1.2.2.1, xs2_1.2.2.2.1, xs2_1.2.2.2.2)) : Option ((Int × Int × Str × (List Expr_) × Int) ⊕ (Int × Int × Str × (List Expr_) × Int)))) (opW lv w, 0, mkS [], [⟨op, n_, nm, ks⟩, f], m) := by
  obtain ⟨h1, h2, h3⟩ := at_cons h
  refine loopM_inl ?_
  have e1 : decide (0 ≤ (n : Int)) = true := by simp
  have e2 : decide (0 < opW lv w) = true := by have := opW_ge lv w; simp; omega
  have e3 : w64 (lv + 1) = lv + 1 := w64_id (by omega) (by omega)
  have e4 : spec_l2Op list (n : Int) lv = some (opW lv w) := at_op h hl
  simp only [e1, e4, e2, e3, w64_1 (show n ≤ 2000 by omega), hr, Option.bind_some, if_true]
theorem list_eq {list : List Word_} (hlen : list.length ≤ 1000) {n : Nat} {ws : List Word_} (h : AtW list n ws) : spec_l2List list (n : Int) = if isT ws (mkS [41]) then some ([], ((n + 1 : Nat) : Int)) else loopM (fun (xs1_1 : Int × (List Expr_)) => (Option.bind (spec_l2Read list xs1_1.1 1) fun r1_1 => Option.bind (appM xs1_1.2 ([r1_1.1] : List Expr_)) fun ys1_1 => Option.bind (if decide (r1_1.2 < 0) then some true else Option.bind (spec_l2Is list r1_1.2 (mkS [41])) fun r2_1 => some r2_1 : Option (Bool)) fun s1_1 => if s1_1 then Option.bind (spec_l1Step r1_1.2) fun r1_2 => some (.inr (ys1_1, w64 (r1_1.2 + r1_2))) else Option.bind (spec_l2Is list r1_1.2 (mkS [44])) fun r1_3 => if !(r1_3) then some (.inr (ys1_1, -1)) else some (.inl (w64 (r1_1.2 + 1), ys1_1)) : Option ((Int × (List Expr_)) ⊕ ((List Expr_) × Int)))) ((n : Int), []) := by
  have := h.2
  rw [spec_l2List, at_is h, Option.bind_some, w64_1 (show n ≤ 2000 by omega), bindS]
theorem spA_bad {list : List Word_} {q : Int} {acc : List Expr_} (ha : acc.length ≤ 1000) {e : Expr_} (hr : spec_l2Read list q 1 = some (e, -1)) : loopM (fun (xs1_1 : Int × (List Expr_)) => (Option.bind (spec_l2Read list xs1_1.1 1) fun r1_1 => Option.bind (appM xs1_1.2 ([r1_1.1] : List Expr_)) fun ys1_1 => Option.bind (if decide (r1_1.2 < 0) then some true else Option.bind (spec_l2Is list r1_1.2 (mkS [41])) fun r2_1 => some r2_1 : Option (Bool)) fun s1_1 => if s1_1 then Option.bind (spec_l1Step r1_1.2) fun r1_2 => some (.inr (ys1_1, w64 (r1_1.2 + r1_2))) else Option.bind (spec_l2Is list r1_1.2 (mkS [44])) fun r1_3 => if !(r1_3) then some (.inr (ys1_1, -1)) else some (.inl (w64 (r1_1.2 + 1), ys1_1)) : Option ((Int × (List Expr_)) ⊕ ((List Expr_) × Int)))) (q, acc) = some (acc ++ [e], -1) := by
  refine loopM_inr ?_
  simp only [hr, Option.bind_some, appM_ok (show acc.length + [e].length ≤ 2147483648 by simp; omega)]
  rfl
theorem spA_at {list : List Word_} (hlen : list.length ≤ 1000) {q : Int} {acc : List Expr_} (ha : acc.length ≤ 1000) {e : Expr_} {n : Nat} {ws : List Word_} (h : AtW list n ws) (hr : spec_l2Read list q 1 = some (e, (n : Int))) :
    loopM (fun (xs1_1 : Int × (List Expr_)) => (Option.bind (spec_l2Read list xs1_1.1 1) fun r1_1 => Option.bind (appM xs1_1.2 ([r1_1.1] : List Expr_)) fun ys1_1 => Option.bind (if decide (r1_1.2 < 0) then some true else Option.bind (spec_l2Is list r1_1.2 (mkS [41])) fun r2_1 => some r2_1 : Option (Bool)) fun s1_1 => if s1_1 then Option.bind (spec_l1Step r1_1.2) fun r1_2 => some (.inr (ys1_1, w64 (r1_1.2 + r1_2))) else Option.bind (spec_l2Is list r1_1.2 (mkS [44])) fun r1_3 => if !(r1_3) then some (.inr (ys1_1, -1)) else some (.inl (w64 (r1_1.2 + 1), ys1_1)) : Option ((Int × (List Expr_)) ⊕ ((List Expr_) × Int)))) (q, acc) = if isT ws (mkS [41]) then some (acc ++ [e], ((n + 1 : Nat) : Int)) else if isT ws (mkS [44]) then loopM (fun (xs1_1 : Int × (List Expr_)) => (Option.bind (spec_l2Read list xs1_1.1 1) fun r1_1 => Option.bind (appM xs1_1.2 ([r1_1.1] : List Expr_)) fun ys1_1 => Option.bind (if decide (r1_1.2 < 0) then some true else Option.bind (spec_l2Is list r1_1.2 (mkS [41])) fun r2_1 => some r2_1 : Option (Bool)) fun s1_1 => if s1_1 then Option.bind (spec_l1Step r1_1.2) fun r1_2 => some (.inr (ys1_1, w64 (r1_1.2 + r1_2))) else Option.bind (spec_l2Is list r1_1.2 (mkS [44])) fun r1_3 => if !(r1_3) then some (.inr (ys1_1, -1)) else some (.inl (w64 (r1_1.2 + 1), ys1_1)) : Option ((Int × (List Expr_)) ⊕ ((List Expr_) × Int)))) (((n + 1 : Nat) : Int), acc ++ [e]) else some (acc ++ [e], -1) := by
  have := h.2
  have e1 : decide ((n : Int) < 0) = false := by simp
  have hb : ((fun (xs1_1 : Int × (List Expr_)) => (Option.bind (spec_l2Read list xs1_1.1 1) fun r1_1 => Option.bind (appM xs1_1.2 ([r1_1.1] : List Expr_)) fun ys1_1 => Option.bind (if decide (r1_1.2 < 0) then some true else Option.bind (spec_l2Is list r1_1.2 (mkS [41])) fun r2_1 => some r2_1 : Option (Bool)) fun s1_1 => if s1_1 then Option.bind (spec_l1Step r1_1.2) fun r1_2 => some (.inr (ys1_1, w64 (r1_1.2 + r1_2))) else Option.bind (spec_l2Is list r1_1.2 (mkS [44])) fun r1_3 => if !(r1_3) then some (.inr (ys1_1, -1)) else some (.inl (w64 (r1_1.2 + 1), ys1_1)) : Option ((Int × (List Expr_)) ⊕ ((List Expr_) × Int)))) : _ → _) (q, acc) = if isT ws (mkS [41]) then some (.inr (acc ++ [e], ((n + 1 : Nat) : Int))) else if isT ws (mkS [44]) then some (.inl (((n + 1 : Nat) : Int), acc ++ [e])) else some (.inr (acc ++ [e], -1)) := by
    have hs : spec_l1Step (n : Int) = some 1 := by unfold spec_l1Step; rw [e1]; rfl
    simp only [hr, Option.bind_some, appM_ok (show acc.length + [e].length ≤ 2147483648 by simp; omega), e1, at_is h, hs, w64_1 (show n ≤ 2000 by omega), Bool.false_eq_true, if_false]
    cases isT ws (mkS [41]) <;> cases isT ws (mkS [44]) <;> rfl
  cases h1 : isT ws (mkS [41]) with
  | true => rw [h1] at hb; exact loopM_inr hb
  | false =>
    rw [h1] at hb
    cases h2 : isT ws (mkS [44]) with
    | true => rw [h2] at hb; exact loopM_inl hb
    | false => rw [h2] at hb; exact loopM_inr hb
def SpecJ (list : List Word_) : Job → Prop
  | .E lv ws e r => ∀ n, AtW list n ws → ∃ m, AtW list m r ∧ n < m ∧ spec_l2Read list (n : Int) lv = some (e, ((m : Nat) : Int))
  | .L lv x ws e r => (lv = 1 ∨ lv = 2 ∨ lv = 3 ∨ lv = 4) → ∀ n, AtW list n ws → ∃ m, AtW list m r ∧ n ≤ m ∧ loopM (fun (xs2_1 : Int × Int × Str × (List Expr_) × Int) => (Option.bind (if decide (0 ≤ xs2_1.2.2.2.2) then Option.bind (spec_l2Op list xs2_1.2.2.2.2 lv) fun r3_1 => some (decide (0 < r3_1)) else some false : Option (Bool)) fun s2_1 => if s2_1 then Option.bind (spec_l2Op list xs2_1.2.2.2.2 lv) fun r2_1 => Option.bind (spec_l2Read list (w64 (xs2_1.2.2.2.2 + 1)) (w64 (lv + 1))) fun r2_2 => some (.inl (r2_1, 0, (mkS []), ([(⟨xs2_1.1, xs2_1.2.1, xs2_1.2.2.1, xs2_1.2.2.2.1⟩ : Expr_), r2_2.1] : List Expr_), r2_2.2)) else some (.inr (xs2_1.1, xs2_1.2.1, xs2_1.2.2.1, xs2_1.2.2.2.1, xs2_1.2.2.2.2)) : Option ((Int × Int × Str × (List Expr_) × Int) ⊕ (Int × Int × Str × (List Expr_) × Int)))) (x.op, x.n_, x.name, x.kids, (n : Int)) = some (e.op, e.n_, e.name, e.kids, ((m : Nat) : Int))
  | .A ws ks r => ∀ n, AtW list n ws → ∃ m, AtW list m r ∧ n < m ∧ spec_l2List list (n : Int) = some (ks, ((m : Nat) : Int))
  | .M acc ws ks r => ∀ n, AtW list n ws → ∀ q acc0 e, acc = acc0 ++ [e] → acc.length ≤ n → spec_l2Read list q 1 = some (e, (n : Int)) → ∃ m, AtW list m r ∧ n < m ∧ loopM (fun (xs1_1 : Int × (List Expr_)) => (Option.bind (spec_l2Read list xs1_1.1 1) fun r1_1 => Option.bind (appM xs1_1.2 ([r1_1.1] : List Expr_)) fun ys1_1 => Option.bind (if decide (r1_1.2 < 0) then some true else Option.bind (spec_l2Is list r1_1.2 (mkS [41])) fun r2_1 => some r2_1 : Option (Bool)) fun s1_1 => if s1_1 then Option.bind (spec_l1Step r1_1.2) fun r1_2 => some (.inr (ys1_1, w64 (r1_1.2 + r1_2))) else Option.bind (spec_l2Is list r1_1.2 (mkS [44])) fun r1_3 => if !(r1_3) then some (.inr (ys1_1, -1)) else some (.inl (w64 (r1_1.2 + 1), ys1_1)) : Option ((Int × (List Expr_)) ⊕ ((List Expr_) × Int)))) (q, acc0) = some (ks, ((m : Nat) : Int))
theorem rd_spec {list : List Word_} (hlen : list.length ≤ 1000) (hv : ∀ w ∈ list, wordB w = true) {j : Job} (h : Rd j) : SpecJ list j := by
  have hin : ∀ {n w ws}, AtW list n (w :: ws) → wordB w = true := fun {n w ws} ha => hv w (List.mem_of_mem_drop (by rw [ha.1]; simp))
  have hne : ∀ {w : Word_} {c : UInt8} {t : Str}, wordB w = true → w.kind ≠ 3 → t.b = [c] → c ∈ sgnL → w.text ≠ t := fun {w c t} h1 h2 h3 h4 e => h2 (sign_kind h1 (by rw [e]; exact h3) h4)
  induction h <;> simp only [SpecJ] at *
  case neg w ws e r hw h ih =>
    intro n ha
    obtain ⟨h1, h2, h3⟩ := at_cons ha
    obtain ⟨m, g1, g2, g3⟩ := ih (n + 1) h3
    rw [read5] at g3
    exact ⟨m, g1, by omega, by rw [read5, tight_cons hlen ha, if_pos hw, g3]; rfl⟩
  case at_ w ws e r hw h ih =>
    intro n ha
    obtain ⟨h1, h2, h3⟩ := at_cons ha
    obtain ⟨m, g1, g2, g3⟩ := ih (n + 1) h3
    rw [read5] at g3
    exact ⟨m, g1, by omega, by rw [read5, tight_cons hlen ha, if_neg (by rw [hw]; decide), if_pos hw, g3]; rfl⟩
  case par w ws e v r hw h hv2 ih =>
    intro n ha
    obtain ⟨h1, h2, h3⟩ := at_cons ha
    obtain ⟨m, g1, g2, g3⟩ := ih (n + 1) h3
    obtain ⟨k1, k2, k3⟩ := at_cons g1
    refine ⟨m + 1, k3, by omega, ?_⟩
    have e1 : decide ((m : Int) < 0) = false := by simp
    have e2 : isT (v :: r) (mkS [41]) = true := by simp [isT, hv2]
    rw [read5, tight_cons hlen ha, if_neg (by rw [hw]; decide), if_neg (by rw [hw]; decide), if_pos hw, g3, Option.bind_some]
    dsimp only
    rw [e1, at_is g1, e2, w64_1 (by omega)]
    rfl
  case num w r hw =>
    intro n ha
    obtain ⟨h1, h2, h3⟩ := at_cons ha
    have hk : w.kind ≠ 3 := by omega
    exact ⟨n + 1, h3, by omega, by rw [read5, tight_cons hlen ha, if_neg (hne (hin ha) hk rfl (by decide)), if_neg (hne (hin ha) hk rfl (by decide)), if_neg (hne (hin ha) hk rfl (by decide)), if_pos hw]⟩
  case var w r hw ht =>
    intro n ha
    obtain ⟨h1, h2, h3⟩ := at_cons ha
    have hk : w.kind ≠ 3 := by omega
    exact ⟨n + 1, h3, by omega, by rw [read5, tight_cons hlen ha, if_neg (hne (hin ha) hk rfl (by decide)), if_neg (hne (hin ha) hk rfl (by decide)), if_neg (hne (hin ha) hk rfl (by decide)), if_neg (by omega), if_neg (by omega), if_pos ht]⟩
  case call w v ws ks r hw ht h ih =>
    intro n ha
    obtain ⟨h1, h2, h3⟩ := at_cons ha
    obtain ⟨k1, k2, k3⟩ := at_cons h3
    obtain ⟨m, g1, g2, g3⟩ := ih (n + 2) k3
    have hk : w.kind ≠ 3 := by omega
    exact ⟨m, g1, by omega, by rw [read5, tight_cons hlen ha, if_neg (hne (hin ha) hk rfl (by decide)), if_neg (hne (hin ha) hk rfl (by decide)), if_neg (hne (hin ha) hk rfl (by decide)), if_neg (by omega), if_neg (by omega), if_neg (by simp [isT, ht]), g3]; rfl⟩
  case up lv ws e ws' e' r hl h1 h2 ih1 ih2 =>
    intro n ha
    obtain ⟨m, g1, g2, g3⟩ := ih1 n ha
    obtain ⟨k, k1, k2, k3⟩ := ih2 hl m g1
    exact ⟨k, k1, by omega, by rw [read_lv hl, g3, Option.bind_some, k3, Option.bind_some]; dsimp only; rw [mk_eta]⟩
  case stop lv e ws ho =>
    intro hl n ha
    exact ⟨n, ha, Nat.le_refl _, spL_stop ha hl ho⟩
  case step lv e w ws f ws' e' r ho h1 h2 ih1 ih2 =>
    intro hl n ha
    obtain ⟨_, _, h3⟩ := at_cons ha
    obtain ⟨m, g1, g2, g3⟩ := ih1 (n + 1) h3
    obtain ⟨k, k1, k2, k3⟩ := ih2 hl m g1
    exact ⟨k, k1, by omega, by rw [spL_step hlen ha hl ho g3, mk_eta]; exact k3⟩
  case done v r hv2 =>
    intro n ha
    obtain ⟨_, _, h3⟩ := at_cons ha
    exact ⟨n + 1, h3, by omega, by rw [list_eq hlen ha, if_pos (by simp [isT, hv2])]⟩
  case first ws e ws' ks r ht h1 h2 ih1 ih2 =>
    intro n ha
    obtain ⟨m, g1, g2, g3⟩ := ih1 n ha
    obtain ⟨k, k1, k2, k3⟩ := ih2 m g1 n [] e rfl (by simp; omega) g3
    exact ⟨k, k1, by omega, by rw [list_eq hlen ha, ht]; exact k3⟩
  case last acc v r hv2 =>
    intro n ha q acc0 e he hle hr
    obtain ⟨h1, _, h3⟩ := at_cons ha
    refine ⟨n + 1, h3, by omega, ?_⟩
    rw [he] at hle ⊢
    simp at hle
    rw [spA_at hlen (by omega) ha hr, if_pos (by simp [isT, hv2])]
  case more acc v ws e ws' ks r hv2 h1 h2 ih1 ih2 =>
    intro n ha q acc0 e0 he hle hr
    obtain ⟨h1, _, h3⟩ := at_cons ha
    obtain ⟨m, g1, g2, g3⟩ := ih1 (n + 1) h3
    obtain ⟨k, k1, k2, k3⟩ := ih2 m g1 ((n + 1 : Nat) : Int) acc e rfl (by simp; omega) g3
    refine ⟨k, k1, by omega, ?_⟩
    have hle2 := hle
    rw [he] at hle2
    simp at hle2
    rw [spA_at hlen (by omega) ha hr, if_neg (by simp [isT, hv2]; try decide), if_pos (by simp [isT, hv2]), ← he]
    exact k3
end Prg
end Go.Wk
namespace Go.Wk
open Go
namespace Prg
set_option maxRecDepth 10000
def vW (ws : List Word_) : Prop := ∀ w ∈ ws, wordB w = true
theorem vW_tail {w : Word_} {ws : List Word_} (h : vW (w :: ws)) : vW ws := fun x hx => h x (by simp [hx])
theorem vW_head {w : Word_} {ws : List Word_} (h : vW (w :: ws)) : wordB w = true := h w (by simp)
def isS (w : Word_) (t : Str) : Bool := decide (w.kind = 3) && decide (w.text = t)
theorem isS_eq {w : Word_} (h : wordB w = true) {t : Str} {c : UInt8} (ht : t.b = [c]) (hc : c ∈ sgnL) : (decide (w.kind = 3) && decide (w.text = t)) = decide (w.text = t) := by
  by_cases h2 : w.text = t
  · have := sign_kind h (by rw [h2]; exact ht) hc
    simp [h2, this]
  · simp [h2]
theorem expr5 (r : wordReader) : pimpl_wordReader__expr r 5 = pimpl_wordReader__single r := by
  rw [pimpl_wordReader__expr, if_pos (by decide)]
  cases pimpl_wordReader__single r <;> rfl
theorem expr_inl {r : wordReader} {lv : Int} (hl : lv = 1 ∨ lv = 2 ∨ lv = 3 ∨ lv = 4) {x : Expr_} {ws : List Word_} {b : Bool} {y : Expr_ × wordReader} (h1 : pimpl_wordReader__expr r (lv + 1) = some (x, ⟨ws, b⟩))
    (h2 : loopM (fun (xs2_1 : (List Word_) × Bool × Int × Int × Str × (List Expr_)) => (if !(xs2_1.2.1) then Option.bind (Option.bind (rangeP (fun (p4_1 : Int × St_sign_level) (xs4_1 : Int) => Option.bind (Option.bind (if decide (p4_1.2.level = lv) then Option.bind (pimpl_wordReader__peek (⟨xs2_1.1, xs2_1.2.1⟩ : wordReader)) fun r6_1 => Option.bind (impl_signWord p4_1.2.sign) fun r6_2 => some (decide (r6_1.kind = r6_2.kind) && decide (r6_1.text = r6_2.text)) else some false : Option (Bool)) fun s5_1 => Option.bind (if s5_1 then some p4_1.1 else some xs4_1 : Option (Int)) fun s5_2 => some s5_2 : Option (Int)) fun s4_2 => some s4_2) (glob_impl_opSign : MapS St_sign_level).es 0) (fun xs3_1 => some xs3_1) : Option (Int)) fun s2_1 => if decide (s2_1 = 0) then some (.inr (.inl ((⟨xs2_1.2.2.1, xs2_1.2.2.2.1, xs2_1.2.2.2.2.1, xs2_1.2.2.2.2.2⟩ : Expr_), (⟨xs2_1.1, xs2_1.2.1⟩ : wordReader)))) else Option.bind (pimpl_wordReader__next (⟨xs2_1.1, xs2_1.2.1⟩ : wordReader)) fun r2_1 => Option.bind (Option.bind (pimpl_wordReader__expr r2_1.2 (w64 (lv + 1))) fun pb3_1 => some (pb3_1.2.list, pb3_1.2.bad, ([(⟨xs2_1.2.2.1, xs2_1.2.2.2.1, xs2_1.2.2.2.2.1, xs2_1.2.2.2.2.2⟩ : Expr_), pb3_1.1] : List Expr_)) : Option ((List Word_) × Bool × (List Expr_))) fun s2_2 => some (.inl (s2_2.1, s2_2.2.1, s2_1, 0, (mkS []), s2_2.2.2)) else some (.inr (.inr (xs2_1.2.2.1, xs2_1.2.2.2.1, xs2_1.2.2.2.2.1, xs2_1.2.2.2.2.2, xs2_1.1, xs2_1.2.1))) : Option (((List Word_) × Bool × Int × Int × Str × (List Expr_)) ⊕ ((Expr_ × wordReader) ⊕ (Int × Int × Str × (List Expr_) × (List Word_) × Bool))))) (ws, b, x.op, x.n_, x.name, x.kids) = some (.inl y)) : pimpl_wordReader__expr r lv = some y := by
  have e : w64 (lv + 1) = lv + 1 := w64_id (by omega) (by omega)
  have e2 : decide (lv = 5) = false := by simp; omega
  rw [e] at h2
  rw [pimpl_wordReader__expr, e2]
  simp only [Bool.false_eq_true, if_false, e, h1, Option.bind_some, h2]
  rfl
theorem expr_inr {r : wordReader} {lv : Int} (hl : lv = 1 ∨ lv = 2 ∨ lv = 3 ∨ lv = 4) {x : Expr_} {ws ws' : List Word_} {b b' : Bool} {op n_ : Int} {nm : Str} {ks : List Expr_} (h1 : pimpl_wordReader__expr r (lv + 1) = some (x, ⟨ws, b⟩))
    (h2 : loopM (fun (xs2_1 : (List Word_) × Bool × Int × Int × Str × (List Expr_)) => (if !(xs2_1.2.1) then Option.bind (Option.bind (rangeP (fun (p4_1 : Int × St_sign_level) (xs4_1 : Int) => Option.bind (Option.bind (if decide (p4_1.2.level = lv) then Option.bind (pimpl_wordReader__peek (⟨xs2_1.1, xs2_1.2.1⟩ : wordReader)) fun r6_1 => Option.bind (impl_signWord p4_1.2.sign) fun r6_2 => some (decide (r6_1.kind = r6_2.kind) && decide (r6_1.text = r6_2.text)) else some false : Option (Bool)) fun s5_1 => Option.bind (if s5_1 then some p4_1.1 else some xs4_1 : Option (Int)) fun s5_2 => some s5_2 : Option (Int)) fun s4_2 => some s4_2) (glob_impl_opSign : MapS St_sign_level).es 0) (fun xs3_1 => some xs3_1) : Option (Int)) fun s2_1 => if decide (s2_1 = 0) then some (.inr (.inl ((⟨xs2_1.2.2.1, xs2_1.2.2.2.1, xs2_1.2.2.2.2.1, xs2_1.2.2.2.2.2⟩ : Expr_), (⟨xs2_1.1, xs2_1.2.1⟩ : wordReader)))) else Option.bind (pimpl_wordReader__next (⟨xs2_1.1, xs2_1.2.1⟩ : wordReader)) fun r2_1 => Option.bind (Option.bind (pimpl_wordReader__expr r2_1.2 (w64 (lv + 1))) fun pb3_1 => some (pb3_1.2.list, pb3_1.2.bad, ([(⟨xs2_1.2.2.1, xs2_1.2.2.2.1, xs2_1.2.2.2.2.1, xs2_1.2.2.2.2.2⟩ : Expr_), pb3_1.1] : List Expr_)) : Option ((List Word_) × Bool × (List Expr_))) fun s2_2 => some (.inl (s2_2.1, s2_2.2.1, s2_1, 0, (mkS []), s2_2.2.2)) else some (.inr (.inr (xs2_1.2.2.1, xs2_1.2.2.2.1, xs2_1.2.2.2.2.1, xs2_1.2.2.2.2.2, xs2_1.1, xs2_1.2.1))) : Option (((List Word_) × Bool × Int × Int × Str × (List Expr_)) ⊕ ((Expr_ × wordReader) ⊕ (Int × Int × Str × (List Expr_) × (List Word_) × Bool))))) (ws, b, x.op, x.n_, x.name, x.kids) = some (.inr (op, n_, nm, ks, ws', b'))) : pimpl_wordReader__expr r lv = some (⟨op, n_, nm, ks⟩, ⟨ws', b'⟩) := by
  have e : w64 (lv + 1) = lv + 1 := w64_id (by omega) (by omega)
  have e2 : decide (lv = 5) = false := by simp; omega
  rw [e] at h2
  rw [pimpl_wordReader__expr, e2]
  simp only [Bool.false_eq_true, if_false, e, h1, Option.bind_some, h2]
  rfl
theorem imL_bad {lv : Int} {ws : List Word_} {op n_ : Int} {nm : Str} {ks : List Expr_} : loopM (fun (xs2_1 : (List Word_) × Bool × Int × Int × Str × (List Expr_)) => (if !(xs2_1.2.1) then Option.bind (Option.bind (rangeP (fun (p4_1 : Int × St_sign_level) (xs4_1 : Int) => Option.bind (Option.bind (if decide (p4_1.2.level = lv) then Option.bind (pimpl_wordReader__peek (⟨xs2_1.1, xs2_1.2.1⟩ : wordReader)) fun r6_1 => Option.bind (impl_signWord p4_1.2.sign) fun r6_2 => some (decide (r6_1.kind = r6_2.kind) && decide (r6_1.text = r6_2.text)) else some false : Option (Bool)) fun s5_1 => Option.bind (if s5_1 then some p4_1.1 else some xs4_1 : Option (Int)) fun s5_2 => some s5_2 : Option (Int)) fun s4_2 => some s4_2) (glob_impl_opSign : MapS St_sign_level).es 0) (fun xs3_1 => some xs3_1) : Option (Int)) fun s2_1 => if decide (s2_1 = 0) then some (.inr (.inl ((⟨xs2_1.2.2.1, xs2_1.2.2.2.1, xs2_1.2.2.2.2.1, xs2_1.2.2.2.2.2⟩ : Expr_), (⟨xs2_1.1, xs2_1.2.1⟩ : wordReader)))) else Option.bind (pimpl_wordReader__next (⟨xs2_1.1, xs2_1.2.1⟩ : wordReader)) fun r2_1 => Option.bind (Option.bind (pimpl_wordReader__expr r2_1.2 (w64 (lv + 1))) fun pb3_1 => some (pb3_1.2.list, pb3_1.2.bad, ([(⟨xs2_1.2.2.1, xs2_1.2.2.2.1, xs2_1.2.2.2.2.1, xs2_1.2.2.2.2.2⟩ : Expr_), pb3_1.1] : List Expr_)) : Option ((List Word_) × Bool × (List Expr_))) fun s2_2 => some (.inl (s2_2.1, s2_2.2.1, s2_1, 0, (mkS []), s2_2.2.2)) else some (.inr (.inr (xs2_1.2.2.1, xs2_1.2.2.2.1, xs2_1.2.2.2.2.1, xs2_1.2.2.2.2.2, xs2_1.1, xs2_1.2.1))) : Option (((List Word_) × Bool × Int × Int × Str × (List Expr_)) ⊕ ((Expr_ × wordReader) ⊕ (Int × Int × Str × (List Expr_) × (List Word_) × Bool))))) (ws, true, op, n_, nm, ks) = some (.inr (op, n_, nm, ks, ws, true)) := loopM_inr rfl
theorem imL_stop {lv : Int} (hl : lv = 1 ∨ lv = 2 ∨ lv = 3 ∨ lv = 4) {ws : List Word_} (hw : vW ws) (ho : opT lv ws = 0) {op n_ : Int} {nm : Str} {ks : List Expr_} :
    loopM (fun (xs2_1 : (List Word_) × Bool × Int × Int × Str × (List Expr_)) => (if !(xs2_1.2.1) then Option.bind (Option.bind (rangeP (fun (p4_1 : Int × St_sign_level) (xs4_1 : Int) => Option.bind (Option.bind (if decide (p4_1.2.level = lv) then Option.bind (pimpl_wordReader__peek (⟨xs2_1.1, xs2_1.2.1⟩ : wordReader)) fun r6_1 => Option.bind (impl_signWord p4_1.2.sign) fun r6_2 => some (decide (r6_1.kind = r6_2.kind) && decide (r6_1.text = r6_2.text)) else some false : Option (Bool)) fun s5_1 => Option.bind (if s5_1 then some p4_1.1 else some xs4_1 : Option (Int)) fun s5_2 => some s5_2 : Option (Int)) fun s4_2 => some s4_2) (glob_impl_opSign : MapS St_sign_level).es 0) (fun xs3_1 => some xs3_1) : Option (Int)) fun s2_1 => if decide (s2_1 = 0) then some (.inr (.inl ((⟨xs2_1.2.2.1, xs2_1.2.2.2.1, xs2_1.2.2.2.2.1, xs2_1.2.2.2.2.2⟩ : Expr_), (⟨xs2_1.1, xs2_1.2.1⟩ : wordReader)))) else Option.bind (pimpl_wordReader__next (⟨xs2_1.1, xs2_1.2.1⟩ : wordReader)) fun r2_1 => Option.bind (Option.bind (pimpl_wordReader__expr r2_1.2 (w64 (lv + 1))) fun pb3_1 => some (pb3_1.2.list, pb3_1.2.bad, ([(⟨xs2_1.2.2.1, xs2_1.2.2.2.1, xs2_1.2.2.2.2.1, xs2_1.2.2.2.2.2⟩ : Expr_), pb3_1.1] : List Expr_)) : Option ((List Word_) × Bool × (List Expr_))) fun s2_2 => some (.inl (s2_2.1, s2_2.2.1, s2_1, 0, (mkS []), s2_2.2.2)) else some (.inr (.inr (xs2_1.2.2.1, xs2_1.2.2.2.1, xs2_1.2.2.2.2.1, xs2_1.2.2.2.2.2, xs2_1.1, xs2_1.2.1))) : Option (((List Word_) × Bool × Int × Int × Str × (List Expr_)) ⊕ ((Expr_ × wordReader) ⊕ (Int × Int × Str × (List Expr_) × (List Word_) × Bool))))) (ws, false, op, n_, nm, ks) = some (.inl (⟨op, n_, nm, ks⟩, ⟨ws, false⟩)) := by
  refine loopM_inr ?_
  dsimp only
  rw [if_pos (show (!false) = true from rfl)]
  refine bindt (bindt (opI_ok ws hw lv hl fun p s => ?_) rfl) ?_
  · simp only [peek_ok, impl_signWord, Option.bind_some]
    unfold qE
    by_cases c1 : p.2.level = lv <;> by_cases c2 : (pkW ws).kind = 3 <;> by_cases c3 : (pkW ws).text = p.2.sign <;> simp [c1, c2, c3]
  · rw [ho]; rfl
theorem imL_step {lv : Int} (hl : lv = 1 ∨ lv = 2 ∨ lv = 3 ∨ lv = 4) {w : Word_} {ws : List Word_} (hw : vW (w :: ws)) (ho : opW lv w ≠ 0) {op n_ : Int} {nm : Str} {ks : List Expr_} {f : Expr_} {ws' : List Word_} {b : Bool}
    (hr : pimpl_wordReader__expr ⟨ws, false⟩ (lv + 1) = some (f, ⟨ws', b⟩)) :
    loopM (fun (xs2_1 : (List Word_) × Bool × Int × Int × Str × (List Expr_)) => (if !(xs2_1.2.1) then Option.bind (Option.bind (rangeP (fun (p4_1 : Int × St_sign_level) (xs4_1 : Int) => Option.bind (Option.bind (if decide (p4_1.2.level = lv) then Option.bind (pimpl_wordReader__peek (⟨xs2_1.1, xs2_1.2.1⟩ : wordReader)) fun r6_1 => Option.bind (impl_signWord p4_1.2.sign) fun r6_2 => some (decide (r6_1.kind = r6_2.kind) && decide (r6_1.text = r6_2.text)) else some false : Option (Bool)) fun s5_1 => Option.bind (if s5_1 then some p4_1.1 else some xs4_1 : Option (Int)) fun s5_2 => some s5_2 : Option (Int)) fun s4_2 => some s4_2) (glob_impl_opSign : MapS St_sign_level).es 0) (fun xs3_1 => some xs3_1) : Option (Int)) fun s2_1 => if decide (s2_1 = 0) then some (.inr (.inl ((⟨xs2_1.2.2.1, xs2_1.2.2.2.1, xs2_1.2.2.2.2.1, xs2_1.2.2.2.2.2⟩ : Expr_), (⟨xs2_1.1, xs2_1.2.1⟩ : wordReader)))) else Option.bind (pimpl_wordReader__next (⟨xs2_1.1, xs2_1.2.1⟩ : wordReader)) fun r2_1 => Option.bind (Option.bind (pimpl_wordReader__expr r2_1.2 (w64 (lv + 1))) fun pb3_1 => some (pb3_1.2.list, pb3_1.2.bad, ([(⟨xs2_1.2.2.1, xs2_1.2.2.2.1, xs2_1.2.2.2.2.1, xs2_1.2.2.2.2.2⟩ : Expr_), pb3_1.1] : List Expr_)) : Option ((List Word_) × Bool × (List Expr_))) fun s2_2 => some (.inl (s2_2.1, s2_2.2.1, s2_1, 0, (mkS []), s2_2.2.2)) else some (.inr (.inr (xs2_1.2.2.1, xs2_1.2.2.2.1, xs2_1.2.2.2.2.1, xs2_1.2.2.2.2.2, xs2_1.1, xs2_1.2.1))) : Option (((List Word_) × Bool × Int × Int × Str × (List Expr_)) ⊕ ((Expr_ × wordReader) ⊕ (Int × Int × Str × (List Expr_) × (List Word_) × Bool))))) (w :: ws, false, op, n_, nm, ks) = loopM (fun (xs2_1 : (List Word_) × Bool × Int × Int × Str × (List Expr_)) => (if !(xs2_1.2.1) then Option.bind (Option.bind (rangeP (fun (p4_1 : Int × St_sign_level) (xs4_1 : Int) => Option.bind (Option.bind (if decide (p4_1.2.level = lv) then Option.bind (pimpl_wordReader__peek (⟨xs2_1.1, xs2_1.2.1⟩ : wordReader)) fun r6_1 => Option.bind (impl_signWord p4_1.2.sign) fun r6_2 => some (decide (r6_1.kind = r6_2.kind) && decide (r6_1.text = r6_2.text)) else some false : Option (Bool)) fun s5_1 => Option.bind (if s5_1 then some p4_1.1 else some xs4_1 : Option (Int)) fun s5_2 => some s5_2 : Option (Int)) fun s4_2 => some s4_2) (glob_impl_opSign : MapS St_sign_level).es 0) (fun xs3_1 => some xs3_1) : Option (Int)) fun s2_1 => if decide (s2_1 = 0) then some (.inr (.inl ((⟨xs2_1.2.2.1, xs2_1.2.2.2.1, xs2_1.2.2.2.2.1, xs2_1.2.2.2.2.2⟩ : Expr_), (⟨xs2_1.1, xs2_1.2.1⟩ : wordReader)))) else Option.bind (pimpl_wordReader__next (⟨xs2_1.1, xs2_1.2.1⟩ : wordReader)) fun r2_1 => Option.bind (Option.bind (pimpl_wordReader__expr r2_1.2 (w64 (lv + 1))) fun pb3_1 => some (pb3_1.2.list, pb3_1.2.bad, ([(⟨xs2_1.2.2.1, xs2_1.2.2.2.1, xs2_1.2.2.2.2.1, xs2_1.2.2.2.2.2⟩ : Expr_), pb3_1.1] : List Expr_)) : Option ((List Word_) × Bool × (List Expr_))) fun s2_2 => some (.inl (s2_2.1, s2_2.2.1, s2_1, 0, (mkS []), s2_2.2.2)) else some (.inr (.inr (xs2_1.2.2.1, xs2_1.2.2.2.1, xs2_1.2.2.2.2.1, xs2_1.2.2.2.2.2, xs2_1.1, xs2_1.2.1))) : Option (((List Word_) × Bool × Int × Int × Str × (List Expr_)) ⊕ ((Expr_ × wordReader) ⊕ (Int × Int × Str × (List Expr_) × (List Word_) × Bool))))) (ws', b, opW lv w, 0, mkS [], [⟨op, n_, nm, ks⟩, f]) := by
  refine loopM_inl ?_
  dsimp only
  rw [if_pos (show (!false) = true from rfl)]
  refine bindt (bindt (opI_ok (w :: ws) hw lv hl fun p s => ?_) rfl) ?_
  · simp only [peek_ok, impl_signWord, Option.bind_some]
    unfold qE
    by_cases c1 : p.2.level = lv <;> by_cases c2 : (pkW (w :: ws)).kind = 3 <;> by_cases c3 : (pkW (w :: ws)).text = p.2.sign <;> simp [c1, c2, c3]
  · have e2 : decide (opT lv (w :: ws) = 0) = false := decide_eq_false ho
    have e : w64 (lv + 1) = lv + 1 := w64_id (by omega) (by omega)
    rw [e2, next_cons, e, Option.bind_some, hr]
    rfl
theorem single_nil : pimpl_wordReader__single ⟨[], false⟩ = some (⟨0, 0, mkS [], []⟩, ⟨[], true⟩) := by
  rw [pimpl_wordReader__single, next_nil]; rfl
theorem single_bad (ws : List Word_) : ∃ ws', pimpl_wordReader__single ⟨ws, true⟩ = some (⟨0, 0, mkS [], []⟩, ⟨ws', true⟩) := by
  cases ws with
  | nil => exact ⟨[], by rw [pimpl_wordReader__single, next_nil]; rfl⟩
  | cons w ws => exact ⟨ws, by rw [pimpl_wordReader__single, next_cons]; rfl⟩
theorem single_cons {w : Word_} {ws : List Word_} (hw : vW (w :: ws)) : pimpl_wordReader__single ⟨w :: ws, false⟩ =
    if w.text = mkS [33] then Option.bind (pimpl_wordReader__single ⟨ws, false⟩) fun r => some (⟨11, 0, mkS [], [r.1]⟩, r.2)
    else if w.text = mkS [64] then Option.bind (pimpl_wordReader__single ⟨ws, false⟩) fun r => some (⟨12, 0, mkS [], [r.1]⟩, r.2)
    else if w.text = mkS [40] then Option.bind (pimpl_wordReader__expr ⟨ws, false⟩ 1) fun r => Option.bind (pimpl_wordReader__want r.2 3 (mkS [41])) fun q => some (r.1, q)
    else if w.kind = 2 then some (⟨1, numW w, mkS [], []⟩, ⟨ws, false⟩)
    else if w.kind ≠ 1 then some (⟨0, 0, mkS [], []⟩, ⟨ws, true⟩)
    else if isT ws (mkS [40]) = false then some (⟨2, 0, w.text, []⟩, ⟨ws, false⟩)
    else Option.bind (loopM (fun (xs2_1 : (List Word_) × Bool × (List Expr_)) => (Option.bind (if !(xs2_1.2.1) then Option.bind (pimpl_wordReader__take (⟨xs2_1.1, xs2_1.2.1⟩ : wordReader) 3 (mkS [41])) fun r3_1 => some (r3_1.2.list, r3_1.2.bad, !(r3_1.1)) else some (xs2_1.1, xs2_1.2.1, false) : Option ((List Word_) × Bool × Bool)) fun s2_1 => if s2_1.2.2 then Option.bind (if decide (0 < ((xs2_1.2.2.length : Int))) then Option.bind (pimpl_wordReader__want (⟨s2_1.1, s2_1.2.1⟩ : wordReader) 3 (mkS [44])) fun r3_2 => some (r3_2.list, r3_2.bad) else some (s2_1.1, s2_1.2.1) : Option ((List Word_) × Bool)) fun s2_2 => Option.bind (pimpl_wordReader__expr (⟨s2_2.1, s2_2.2⟩ : wordReader) 1) fun r2_1 => Option.bind (appM xs2_1.2.2 ([r2_1.1] : List Expr_)) fun ys2_1 => some (.inl (r2_1.2.list, r2_1.2.bad, ys2_1)) else some (.inr (xs2_1.2.2, s2_1.1, s2_1.2.1)) : Option (((List Word_) × Bool × (List Expr_)) ⊕ ((List Expr_) × (List Word_) × Bool)))) (ws.tail, false, [])) fun s => some (⟨13, 0, w.text, s.1⟩, ⟨s.2.1, s.2.2⟩) := by
  have h0 := vW_head hw
  have a1 := isS_eq h0 (t := mkS [33]) rfl (by decide)
  have a2 := isS_eq h0 (t := mkS [64]) rfl (by decide)
  have a3 := isS_eq h0 (t := mkS [40]) rfl (by decide)
  rw [pimpl_wordReader__single, next_cons]
  simp only [Option.bind_some, Bool.false_eq_true, if_false, impl_signWord, a1, a2, a3, number_ok, take_ok, tk_is (vW_tail hw) (t := mkS [40]) rfl (by decide), bindS, decide_eq_true_eq]
  by_cases c1 : w.text = mkS [33]
  · simp only [c1, if_true]
  by_cases c2 : w.text = mkS [64]
  · simp only [c1, c2, if_true, if_false]
  by_cases c3 : w.text = mkS [40]
  · simp only [c1, c2, c3, if_true, if_false]
  by_cases c4 : w.kind = 2
  · simp only [c1, c2, c3, c4, if_true, if_false]
  by_cases c5 : w.kind = 1
  · cases c6 : isT ws (mkS [40]) <;> simp [c1, c2, c3, c5]
  · simp [c1, c2, c3, c4, c5]
theorem expr_bad (lv : Int) (hl : lv = 1 ∨ lv = 2 ∨ lv = 3 ∨ lv = 4 ∨ lv = 5) (ws : List Word_) : ∃ e ws', pimpl_wordReader__expr ⟨ws, true⟩ lv = some (e, ⟨ws', true⟩) := by
  have h5 : ∃ e ws', pimpl_wordReader__expr ⟨ws, true⟩ 5 = some (e, ⟨ws', true⟩) := by
    obtain ⟨ws', h⟩ := single_bad ws
    exact ⟨_, ws', by rw [expr5]; exact h⟩
  have hs : ∀ lv : Int, (lv = 1 ∨ lv = 2 ∨ lv = 3 ∨ lv = 4) → (∃ e ws', pimpl_wordReader__expr ⟨ws, true⟩ (lv + 1) = some (e, ⟨ws', true⟩)) → ∃ e ws', pimpl_wordReader__expr ⟨ws, true⟩ lv = some (e, ⟨ws', true⟩) := by
    rintro lv hl ⟨e, ws', h⟩
    exact ⟨_, _, expr_inr hl h imL_bad⟩
  have h4 := hs 4 (by omega) h5
  have h3 := hs 3 (by omega) h4
  have h2 := hs 2 (by omega) h3
  have h1 := hs 1 (by omega) h2
  rcases hl with rfl | rfl | rfl | rfl | rfl <;> assumption
theorem imA_bad {ws : List Word_} {ks : List Expr_} : loopM (fun (xs2_1 : (List Word_) × Bool × (List Expr_)) => (Option.bind (if !(xs2_1.2.1) then Option.bind (pimpl_wordReader__take (⟨xs2_1.1, xs2_1.2.1⟩ : wordReader) 3 (mkS [41])) fun r3_1 => some (r3_1.2.list, r3_1.2.bad, !(r3_1.1)) else some (xs2_1.1, xs2_1.2.1, false) : Option ((List Word_) × Bool × Bool)) fun s2_1 => if s2_1.2.2 then Option.bind (if decide (0 < ((xs2_1.2.2.length : Int))) then Option.bind (pimpl_wordReader__want (⟨s2_1.1, s2_1.2.1⟩ : wordReader) 3 (mkS [44])) fun r3_2 => some (r3_2.list, r3_2.bad) else some (s2_1.1, s2_1.2.1) : Option ((List Word_) × Bool)) fun s2_2 => Option.bind (pimpl_wordReader__expr (⟨s2_2.1, s2_2.2⟩ : wordReader) 1) fun r2_1 => Option.bind (appM xs2_1.2.2 ([r2_1.1] : List Expr_)) fun ys2_1 => some (.inl (r2_1.2.list, r2_1.2.bad, ys2_1)) else some (.inr (xs2_1.2.2, s2_1.1, s2_1.2.1)) : Option (((List Word_) × Bool × (List Expr_)) ⊕ ((List Expr_) × (List Word_) × Bool)))) (ws, true, ks) = some (ks, ws, true) := loopM_inr rfl
theorem imA_end {v : Word_} {ws : List Word_} (hw : vW (v :: ws)) (hv : v.text = mkS [41]) {ks : List Expr_} : loopM (fun (xs2_1 : (List Word_) × Bool × (List Expr_)) => (Option.bind (if !(xs2_1.2.1) then Option.bind (pimpl_wordReader__take (⟨xs2_1.1, xs2_1.2.1⟩ : wordReader) 3 (mkS [41])) fun r3_1 => some (r3_1.2.list, r3_1.2.bad, !(r3_1.1)) else some (xs2_1.1, xs2_1.2.1, false) : Option ((List Word_) × Bool × Bool)) fun s2_1 => if s2_1.2.2 then Option.bind (if decide (0 < ((xs2_1.2.2.length : Int))) then Option.bind (pimpl_wordReader__want (⟨s2_1.1, s2_1.2.1⟩ : wordReader) 3 (mkS [44])) fun r3_2 => some (r3_2.list, r3_2.bad) else some (s2_1.1, s2_1.2.1) : Option ((List Word_) × Bool)) fun s2_2 => Option.bind (pimpl_wordReader__expr (⟨s2_2.1, s2_2.2⟩ : wordReader) 1) fun r2_1 => Option.bind (appM xs2_1.2.2 ([r2_1.1] : List Expr_)) fun ys2_1 => some (.inl (r2_1.2.list, r2_1.2.bad, ys2_1)) else some (.inr (xs2_1.2.2, s2_1.1, s2_1.2.1)) : Option (((List Word_) × Bool × (List Expr_)) ⊕ ((List Expr_) × (List Word_) × Bool)))) (v :: ws, false, ks) = some (ks, ws, false) := by
  refine loopM_inr ?_
  have e : isT (v :: ws) (mkS [41]) = true := by simp [isT, hv]
  simp only [take_ok, tk_is hw (t := mkS [41]) rfl (by decide), e]
  rfl
theorem imA_first {ws : List Word_} (hw : vW ws) (ht : isT ws (mkS [41]) = false) {e : Expr_} {ws' : List Word_} {b : Bool} (hr : pimpl_wordReader__expr ⟨ws, false⟩ 1 = some (e, ⟨ws', b⟩)) :
    loopM (fun (xs2_1 : (List Word_) × Bool × (List Expr_)) => (Option.bind (if !(xs2_1.2.1) then Option.bind (pimpl_wordReader__take (⟨xs2_1.1, xs2_1.2.1⟩ : wordReader) 3 (mkS [41])) fun r3_1 => some (r3_1.2.list, r3_1.2.bad, !(r3_1.1)) else some (xs2_1.1, xs2_1.2.1, false) : Option ((List Word_) × Bool × Bool)) fun s2_1 => if s2_1.2.2 then Option.bind (if decide (0 < ((xs2_1.2.2.length : Int))) then Option.bind (pimpl_wordReader__want (⟨s2_1.1, s2_1.2.1⟩ : wordReader) 3 (mkS [44])) fun r3_2 => some (r3_2.list, r3_2.bad) else some (s2_1.1, s2_1.2.1) : Option ((List Word_) × Bool)) fun s2_2 => Option.bind (pimpl_wordReader__expr (⟨s2_2.1, s2_2.2⟩ : wordReader) 1) fun r2_1 => Option.bind (appM xs2_1.2.2 ([r2_1.1] : List Expr_)) fun ys2_1 => some (.inl (r2_1.2.list, r2_1.2.bad, ys2_1)) else some (.inr (xs2_1.2.2, s2_1.1, s2_1.2.1)) : Option (((List Word_) × Bool × (List Expr_)) ⊕ ((List Expr_) × (List Word_) × Bool)))) (ws, false, []) = loopM (fun (xs2_1 : (List Word_) × Bool × (List Expr_)) => (Option.bind (if !(xs2_1.2.1) then Option.bind (pimpl_wordReader__take (⟨xs2_1.1, xs2_1.2.1⟩ : wordReader) 3 (mkS [41])) fun r3_1 => some (r3_1.2.list, r3_1.2.bad, !(r3_1.1)) else some (xs2_1.1, xs2_1.2.1, false) : Option ((List Word_) × Bool × Bool)) fun s2_1 => if s2_1.2.2 then Option.bind (if decide (0 < ((xs2_1.2.2.length : Int))) then Option.bind (pimpl_wordReader__want (⟨s2_1.1, s2_1.2.1⟩ : wordReader) 3 (mkS [44])) fun r3_2 => some (r3_2.list, r3_2.bad) else some (s2_1.1, s2_1.2.1) : Option ((List Word_) × Bool)) fun s2_2 => Option.bind (pimpl_wordReader__expr (⟨s2_2.1, s2_2.2⟩ : wordReader) 1) fun r2_1 => Option.bind (appM xs2_1.2.2 ([r2_1.1] : List Expr_)) fun ys2_1 => some (.inl (r2_1.2.list, r2_1.2.bad, ys2_1)) else some (.inr (xs2_1.2.2, s2_1.1, s2_1.2.1)) : Option (((List Word_) × Bool × (List Expr_)) ⊕ ((List Expr_) × (List Word_) × Bool)))) (ws', b, [e]) := by
  refine loopM_inl ?_
  simp only [take_ok, tk_is hw (t := mkS [41]) rfl (by decide), ht]
  have e0 : decide (0 < (([] : List Expr_).length : Int)) = false := rfl
  simp only [Bool.not_false, if_true, Option.bind_some, e0, Bool.false_eq_true, if_false, hr]
  rfl
theorem imA_more {acc : List Expr_} (h0 : acc ≠ []) (hal : acc.length ≤ 1000) {v : Word_} {ws : List Word_} (hw : vW (v :: ws)) (hv : v.text = mkS [44]) {e : Expr_} {ws' : List Word_} {b : Bool} (hr : pimpl_wordReader__expr ⟨ws, false⟩ 1 = some (e, ⟨ws', b⟩)) :
    loopM (fun (xs2_1 : (List Word_) × Bool × (List Expr_)) => (Option.bind (if !(xs2_1.2.1) then Option.bind (pimpl_wordReader__take (⟨xs2_1.1, xs2_1.2.1⟩ : wordReader) 3 (mkS [41])) fun r3_1 => some (r3_1.2.list, r3_1.2.bad, !(r3_1.1)) else some (xs2_1.1, xs2_1.2.1, false) : Option ((List Word_) × Bool × Bool)) fun s2_1 => if s2_1.2.2 then Option.bind (if decide (0 < ((xs2_1.2.2.length : Int))) then Option.bind (pimpl_wordReader__want (⟨s2_1.1, s2_1.2.1⟩ : wordReader) 3 (mkS [44])) fun r3_2 => some (r3_2.list, r3_2.bad) else some (s2_1.1, s2_1.2.1) : Option ((List Word_) × Bool)) fun s2_2 => Option.bind (pimpl_wordReader__expr (⟨s2_2.1, s2_2.2⟩ : wordReader) 1) fun r2_1 => Option.bind (appM xs2_1.2.2 ([r2_1.1] : List Expr_)) fun ys2_1 => some (.inl (r2_1.2.list, r2_1.2.bad, ys2_1)) else some (.inr (xs2_1.2.2, s2_1.1, s2_1.2.1)) : Option (((List Word_) × Bool × (List Expr_)) ⊕ ((List Expr_) × (List Word_) × Bool)))) (v :: ws, false, acc) = loopM (fun (xs2_1 : (List Word_) × Bool × (List Expr_)) => (Option.bind (if !(xs2_1.2.1) then Option.bind (pimpl_wordReader__take (⟨xs2_1.1, xs2_1.2.1⟩ : wordReader) 3 (mkS [41])) fun r3_1 => some (r3_1.2.list, r3_1.2.bad, !(r3_1.1)) else some (xs2_1.1, xs2_1.2.1, false) : Option ((List Word_) × Bool × Bool)) fun s2_1 => if s2_1.2.2 then Option.bind (if decide (0 < ((xs2_1.2.2.length : Int))) then Option.bind (pimpl_wordReader__want (⟨s2_1.1, s2_1.2.1⟩ : wordReader) 3 (mkS [44])) fun r3_2 => some (r3_2.list, r3_2.bad) else some (s2_1.1, s2_1.2.1) : Option ((List Word_) × Bool)) fun s2_2 => Option.bind (pimpl_wordReader__expr (⟨s2_2.1, s2_2.2⟩ : wordReader) 1) fun r2_1 => Option.bind (appM xs2_1.2.2 ([r2_1.1] : List Expr_)) fun ys2_1 => some (.inl (r2_1.2.list, r2_1.2.bad, ys2_1)) else some (.inr (xs2_1.2.2, s2_1.1, s2_1.2.1)) : Option (((List Word_) × Bool × (List Expr_)) ⊕ ((List Expr_) × (List Word_) × Bool)))) (ws', b, acc ++ [e]) := by
  refine loopM_inl ?_
  have e1 : isT (v :: ws) (mkS [41]) = false := by simp [isT, hv]; decide
  have e2 : isT (v :: ws) (mkS [44]) = true := by simp [isT, hv]
  have e0 : decide (0 < (acc.length : Int)) = true := by have := List.length_pos_iff.2 h0; simp; omega
  simp only [take_ok, tk_is hw (t := mkS [41]) rfl (by decide), want_ok, tk_is hw (t := mkS [44]) rfl (by decide), e1, e2, Bool.not_false, if_true, Option.bind_some, e0, Bool.false_eq_true, if_false, List.tail_cons, hr, appM_ok (show acc.length + [e].length ≤ 2147483648 by simp; omega)]
theorem imA_want {acc : List Expr_} (h0 : acc ≠ []) (hal : acc.length ≤ 1000) {ws : List Word_} (hw : vW ws) (h1 : isT ws (mkS [41]) = false) (h2 : isT ws (mkS [44]) = false) :
    ∃ ks ws', loopM (fun (xs2_1 : (List Word_) × Bool × (List Expr_)) => (Option.bind (if !(xs2_1.2.1) then Option.bind (pimpl_wordReader__take (⟨xs2_1.1, xs2_1.2.1⟩ : wordReader) 3 (mkS [41])) fun r3_1 => some (r3_1.2.list, r3_1.2.bad, !(r3_1.1)) else some (xs2_1.1, xs2_1.2.1, false) : Option ((List Word_) × Bool × Bool)) fun s2_1 => if s2_1.2.2 then Option.bind (if decide (0 < ((xs2_1.2.2.length : Int))) then Option.bind (pimpl_wordReader__want (⟨s2_1.1, s2_1.2.1⟩ : wordReader) 3 (mkS [44])) fun r3_2 => some (r3_2.list, r3_2.bad) else some (s2_1.1, s2_1.2.1) : Option ((List Word_) × Bool)) fun s2_2 => Option.bind (pimpl_wordReader__expr (⟨s2_2.1, s2_2.2⟩ : wordReader) 1) fun r2_1 => Option.bind (appM xs2_1.2.2 ([r2_1.1] : List Expr_)) fun ys2_1 => some (.inl (r2_1.2.list, r2_1.2.bad, ys2_1)) else some (.inr (xs2_1.2.2, s2_1.1, s2_1.2.1)) : Option (((List Word_) × Bool × (List Expr_)) ⊕ ((List Expr_) × (List Word_) × Bool)))) (ws, false, acc) = some (ks, ws', true) := by
  obtain ⟨e, ws', hr⟩ := expr_bad 1 (by omega) ws
  refine ⟨acc ++ [e], ws', ?_⟩
  rw [loopM_inl (s' := (ws', true, acc ++ [e]))]
  · exact imA_bad
  have e0 : decide (0 < (acc.length : Int)) = true := by have := List.length_pos_iff.2 h0; simp; omega
  simp only [take_ok, tk_is hw (t := mkS [41]) rfl (by decide), want_ok, tk_is hw (t := mkS [44]) rfl (by decide), h1, h2, Bool.not_false, if_true, Option.bind_some, e0, Bool.false_eq_true, if_false, hr, appM_ok (show acc.length + [e].length ≤ 2147483648 by simp; omega)]
end Prg
end Go.Wk
namespace Go.Wk
open Go
namespace Prg
set_option maxRecDepth 10000
def ImplJ : Job → Prop
  | .E lv ws e r => vW ws → ws.length ≤ 1000 → pimpl_wordReader__expr ⟨ws, false⟩ lv = some (e, ⟨r, false⟩)
  | .L lv x ws e r => (lv = 1 ∨ lv = 2 ∨ lv = 3 ∨ lv = 4) → vW ws → ws.length ≤ 1000 → loopM (fun (xs2_1 : (List Word_) × Bool × Int × Int × Str × (List Expr_)) => (if !(xs2_1.2.1) then Option.bind (Option.bind (rangeP (fun (p4_1 : Int × St_sign_level) (xs4_1 : Int) => Option.bind (Option.bind (if decide (p4_1.2.level = lv) then Option.bind (pimpl_wordReader__peek (⟨xs2_1.1, xs2_1.2.1⟩ : wordReader)) fun r6_1 => Option.bind (impl_signWord p4_1.2.sign) fun r6_2 => some (decide (r6_1.kind = r6_2.kind) && decide (r6_1.text = r6_2.text)) else some false : Option (Bool)) fun s5_1 => Option.bind (if s5_1 then some p4_1.1 else some xs4_1 : Option (Int)) fun s5_2 => some s5_2 : Option (Int)) fun s4_2 => some s4_2) (glob_impl_opSign : MapS St_sign_level).es 0) (fun xs3_1 => some xs3_1) : Option (Int)) fun s2_1 => if decide (s2_1 = 0) then some (.inr (.inl ((⟨xs2_1.2.2.1, xs2_1.2.2.2.1, xs2_1.2.2.2.2.1, xs2_1.2.2.2.2.2⟩ : Expr_), (⟨xs2_1.1, xs2_1.2.1⟩ : wordReader)))) else Option.bind (pimpl_wordReader__next (⟨xs2_1.1, xs2_1.2.1⟩ : wordReader)) fun r2_1 => Option.bind (Option.bind (pimpl_wordReader__expr r2_1.2 (w64 (lv + 1))) fun pb3_1 => some (pb3_1.2.list, pb3_1.2.bad, ([(⟨xs2_1.2.2.1, xs2_1.2.2.2.1, xs2_1.2.2.2.2.1, xs2_1.2.2.2.2.2⟩ : Expr_), pb3_1.1] : List Expr_)) : Option ((List Word_) × Bool × (List Expr_))) fun s2_2 => some (.inl (s2_2.1, s2_2.2.1, s2_1, 0, (mkS []), s2_2.2.2)) else some (.inr (.inr (xs2_1.2.2.1, xs2_1.2.2.2.1, xs2_1.2.2.2.2.1, xs2_1.2.2.2.2.2, xs2_1.1, xs2_1.2.1))) : Option (((List Word_) × Bool × Int × Int × Str × (List Expr_)) ⊕ ((Expr_ × wordReader) ⊕ (Int × Int × Str × (List Expr_) × (List Word_) × Bool))))) (ws, false, x.op, x.n_, x.name, x.kids) = some (.inl (e, ⟨r, false⟩))
  | .A ws ks r => vW ws → ws.length ≤ 1000 → loopM (fun (xs2_1 : (List Word_) × Bool × (List Expr_)) => (Option.bind (if !(xs2_1.2.1) then Option.bind (pimpl_wordReader__take (⟨xs2_1.1, xs2_1.2.1⟩ : wordReader) 3 (mkS [41])) fun r3_1 => some (r3_1.2.list, r3_1.2.bad, !(r3_1.1)) else some (xs2_1.1, xs2_1.2.1, false) : Option ((List Word_) × Bool × Bool)) fun s2_1 => if s2_1.2.2 then Option.bind (if decide (0 < ((xs2_1.2.2.length : Int))) then Option.bind (pimpl_wordReader__want (⟨s2_1.1, s2_1.2.1⟩ : wordReader) 3 (mkS [44])) fun r3_2 => some (r3_2.list, r3_2.bad) else some (s2_1.1, s2_1.2.1) : Option ((List Word_) × Bool)) fun s2_2 => Option.bind (pimpl_wordReader__expr (⟨s2_2.1, s2_2.2⟩ : wordReader) 1) fun r2_1 => Option.bind (appM xs2_1.2.2 ([r2_1.1] : List Expr_)) fun ys2_1 => some (.inl (r2_1.2.list, r2_1.2.bad, ys2_1)) else some (.inr (xs2_1.2.2, s2_1.1, s2_1.2.1)) : Option (((List Word_) × Bool × (List Expr_)) ⊕ ((List Expr_) × (List Word_) × Bool)))) (ws, false, []) = some (ks, r, false)
  | .M acc ws ks r => acc ≠ [] → vW ws → acc.length + ws.length ≤ 1000 → loopM (fun (xs2_1 : (List Word_) × Bool × (List Expr_)) => (Option.bind (if !(xs2_1.2.1) then Option.bind (pimpl_wordReader__take (⟨xs2_1.1, xs2_1.2.1⟩ : wordReader) 3 (mkS [41])) fun r3_1 => some (r3_1.2.list, r3_1.2.bad, !(r3_1.1)) else some (xs2_1.1, xs2_1.2.1, false) : Option ((List Word_) × Bool × Bool)) fun s2_1 => if s2_1.2.2 then Option.bind (if decide (0 < ((xs2_1.2.2.length : Int))) then Option.bind (pimpl_wordReader__want (⟨s2_1.1, s2_1.2.1⟩ : wordReader) 3 (mkS [44])) fun r3_2 => some (r3_2.list, r3_2.bad) else some (s2_1.1, s2_1.2.1) : Option ((List Word_) × Bool)) fun s2_2 => Option.bind (pimpl_wordReader__expr (⟨s2_2.1, s2_2.2⟩ : wordReader) 1) fun r2_1 => Option.bind (appM xs2_1.2.2 ([r2_1.1] : List Expr_)) fun ys2_1 => some (.inl (r2_1.2.list, r2_1.2.bad, ys2_1)) else some (.inr (xs2_1.2.2, s2_1.1, s2_1.2.1)) : Option (((List Word_) × Bool × (List Expr_)) ⊕ ((List Expr_) × (List Word_) × Bool)))) (ws, false, acc) = some (ks, r, false)
theorem ne_sign {w : Word_} {c : UInt8} {t : Str} (h1 : wordB w = true) (h2 : w.kind ≠ 3) (h3 : t.b = [c]) (h4 : c ∈ sgnL) : w.text ≠ t := fun e => h2 (sign_kind h1 (by rw [e]; exact h3) h4)
theorem rd_impl {j : Job} (h : Rd j) : ImplJ j := by
  induction h
  case neg w ws e r hw h ih =>
    intro ha hl
    have g := ih (vW_tail ha) (by simp at hl; omega)
    rw [expr5] at g
    rw [expr5, single_cons ha, if_pos hw, g]; rfl
  case at_ w ws e r hw h ih =>
    intro ha hl
    have g := ih (vW_tail ha) (by simp at hl; omega)
    rw [expr5] at g
    rw [expr5, single_cons ha, if_neg (by rw [hw]; decide), if_pos hw, g]; rfl
  case par w ws e v r hw h hv2 ih =>
    intro ha hl
    have g := ih (vW_tail ha) (by simp at hl; omega)
    obtain ⟨s1, s2⟩ := rd_suf h
    have hv3 : vW (v :: r) := fun x hx => vW_tail ha x (s2 x hx)
    have e2 : isT (v :: r) (mkS [41]) = true := by simp [isT, hv2]
    rw [expr5, single_cons ha, if_neg (by rw [hw]; decide), if_neg (by rw [hw]; decide), if_pos hw, g, Option.bind_some]
    dsimp only
    rw [want_ok, tk_is hv3 rfl (by decide), e2]; rfl
  case num w r hw =>
    intro ha hl
    have hk : w.kind ≠ 3 := by omega
    have h0 := vW_head ha
    rw [expr5, single_cons ha, if_neg (ne_sign h0 hk rfl (by decide)), if_neg (ne_sign h0 hk rfl (by decide)), if_neg (ne_sign h0 hk rfl (by decide)), if_pos hw]
  case var w r hw ht =>
    intro ha hl
    have hk : w.kind ≠ 3 := by omega
    have h0 := vW_head ha
    rw [expr5, single_cons ha, if_neg (ne_sign h0 hk rfl (by decide)), if_neg (ne_sign h0 hk rfl (by decide)), if_neg (ne_sign h0 hk rfl (by decide)), if_neg (by omega), if_neg (by omega), if_pos ht]
  case call w v ws ks r hw ht h ih =>
    intro ha hl
    have hk : w.kind ≠ 3 := by omega
    have h0 := vW_head ha
    have g := ih (vW_tail (vW_tail ha)) (by simp at hl; omega)
    rw [expr5, single_cons ha, if_neg (ne_sign h0 hk rfl (by decide)), if_neg (ne_sign h0 hk rfl (by decide)), if_neg (ne_sign h0 hk rfl (by decide)), if_neg (by omega), if_neg (by omega), if_neg (by simp [isT, ht]), List.tail_cons, g]; rfl
  case up lv ws e ws' e' r hlv h1 h2 ih1 ih2 =>
    intro ha hl
    obtain ⟨s1, s2⟩ := rd_suf h1
    exact expr_inl hlv (ih1 ha hl) (ih2 hlv (fun x hx => ha x (s2 x hx)) (by omega))
  case stop lv e ws ho =>
    intro hlv ha hl
    rw [imL_stop hlv ha ho, mk_eta]
  case step lv e w ws f ws' e' r ho h1 h2 ih1 ih2 =>
    intro hlv ha hl
    obtain ⟨s1, s2⟩ := rd_suf h1
    simp at hl
    rw [imL_step hlv ha ho (ih1 (vW_tail ha) (by omega)), mk_eta]
    exact ih2 hlv (fun x hx => vW_tail ha x (s2 x hx)) (by omega)
  case done v r hv2 =>
    intro ha hl
    exact imA_end ha hv2
  case first ws e ws' ks r ht h1 h2 ih1 ih2 =>
    intro ha hl
    obtain ⟨s1, s2⟩ := rd_suf h1
    rw [imA_first ha ht (ih1 ha hl)]
    exact ih2 (by simp) (fun x hx => ha x (s2 x hx)) (by simp; omega)
  case last acc v r hv2 =>
    intro h0 ha hl
    exact imA_end ha hv2
  case more acc v ws e ws' ks r hv2 h1 h2 ih1 ih2 =>
    intro h0 ha hl
    obtain ⟨s1, s2⟩ := rd_suf h1
    simp at hl
    rw [imA_more h0 (by omega) ha hv2 (ih1 (vW_tail ha) (by omega))]
    exact ih2 (by simp) (fun x hx => vW_tail ha x (s2 x hx)) (by simp; omega)
def FailE (lv : Int) (ws : List Word_) : Prop := (∀ list n, list.length ≤ 1000 → vW list → AtW list n ws → ∃ e, spec_l2Read list (n : Int) lv = some (e, -1)) ∧ ∃ e ws', pimpl_wordReader__expr ⟨ws, false⟩ lv = some (e, ⟨ws', true⟩)
def FailL (lv : Int) (x : Expr_) (ws : List Word_) : Prop := (∀ list n, list.length ≤ 1000 → vW list → AtW list n ws → ∃ op n_ nm ks, loopM (fun (xs2_1 : Int × Int × Str × (List Expr_) × Int) => (Option.bind (if decide (0 ≤ xs2_1.2.2.2.2) then Option.bind (spec_l2Op list xs2_1.2.2.2.2 lv) fun r3_1 => some (decide (0 < r3_1)) else some false : Option (Bool)) fun s2_1 => if s2_1 then Option.bind (spec_l2Op list xs2_1.2.2.2.2 lv) fun r2_1 => Option.bind (spec_l2Read list (w64 (xs2_1.2.2.2.2 + 1)) (w64 (lv + 1))) fun r2_2 => some (.inl (r2_1, 0, (mkS []), ([(⟨xs2_1.1, xs2_1.2.1, xs2_1.2.2.1, xs2_1.2.2.2.1⟩ : Expr_), r2_2.1] : List Expr_), r2_2.2)) else some (.inr (xs2_1.1, xs2_1.2.1, xs2_1.2.2.1, xs2_1.2.2.2.1, xs2_1.2.2.2.2)) : Option ((Int × Int × Str × (List Expr_) × Int) ⊕ (Int × Int × Str × (List Expr_) × Int)))) (x.op, x.n_, x.name, x.kids, (n : Int)) = some (op, n_, nm, ks, -1)) ∧
  ∃ op n_ nm ks ws', loopM (fun (xs2_1 : (List Word_) × Bool × Int × Int × Str × (List Expr_)) => (if !(xs2_1.2.1) then Option.bind (Option.bind (rangeP (fun (p4_1 : Int × St_sign_level) (xs4_1 : Int) => Option.bind (Option.bind (if decide (p4_1.2.level = lv) then Option.bind (pimpl_wordReader__peek (⟨xs2_1.1, xs2_1.2.1⟩ : wordReader)) fun r6_1 => Option.bind (impl_signWord p4_1.2.sign) fun r6_2 => some (decide (r6_1.kind = r6_2.kind) && decide (r6_1.text = r6_2.text)) else some false : Option (Bool)) fun s5_1 => Option.bind (if s5_1 then some p4_1.1 else some xs4_1 : Option (Int)) fun s5_2 => some s5_2 : Option (Int)) fun s4_2 => some s4_2) (glob_impl_opSign : MapS St_sign_level).es 0) (fun xs3_1 => some xs3_1) : Option (Int)) fun s2_1 => if decide (s2_1 = 0) then some (.inr (.inl ((⟨xs2_1.2.2.1, xs2_1.2.2.2.1, xs2_1.2.2.2.2.1, xs2_1.2.2.2.2.2⟩ : Expr_), (⟨xs2_1.1, xs2_1.2.1⟩ : wordReader)))) else Option.bind (pimpl_wordReader__next (⟨xs2_1.1, xs2_1.2.1⟩ : wordReader)) fun r2_1 => Option.bind (Option.bind (pimpl_wordReader__expr r2_1.2 (w64 (lv + 1))) fun pb3_1 => some (pb3_1.2.list, pb3_1.2.bad, ([(⟨xs2_1.2.2.1, xs2_1.2.2.2.1, xs2_1.2.2.2.2.1, xs2_1.2.2.2.2.2⟩ : Expr_), pb3_1.1] : List Expr_)) : Option ((List Word_) × Bool × (List Expr_))) fun s2_2 => some (.inl (s2_2.1, s2_2.2.1, s2_1, 0, (mkS []), s2_2.2.2)) else some (.inr (.inr (xs2_1.2.2.1, xs2_1.2.2.2.1, xs2_1.2.2.2.2.1, xs2_1.2.2.2.2.2, xs2_1.1, xs2_1.2.1))) : Option (((List Word_) × Bool × Int × Int × Str × (List Expr_)) ⊕ ((Expr_ × wordReader) ⊕ (Int × Int × Str × (List Expr_) × (List Word_) × Bool))))) (ws, false, x.op, x.n_, x.name, x.kids) = some (.inr (op, n_, nm, ks, ws', true))
def FailA (ws : List Word_) : Prop := (∀ list n, list.length ≤ 1000 → vW list → AtW list n ws → ∃ ks, spec_l2List list (n : Int) = some (ks, -1)) ∧
  ∃ ks ws', loopM (fun (xs2_1 : (List Word_) × Bool × (List Expr_)) => (Option.bind (if !(xs2_1.2.1) then Option.bind (pimpl_wordReader__take (⟨xs2_1.1, xs2_1.2.1⟩ : wordReader) 3 (mkS [41])) fun r3_1 => some (r3_1.2.list, r3_1.2.bad, !(r3_1.1)) else some (xs2_1.1, xs2_1.2.1, false) : Option ((List Word_) × Bool × Bool)) fun s2_1 => if s2_1.2.2 then Option.bind (if decide (0 < ((xs2_1.2.2.length : Int))) then Option.bind (pimpl_wordReader__want (⟨s2_1.1, s2_1.2.1⟩ : wordReader) 3 (mkS [44])) fun r3_2 => some (r3_2.list, r3_2.bad) else some (s2_1.1, s2_1.2.1) : Option ((List Word_) × Bool)) fun s2_2 => Option.bind (pimpl_wordReader__expr (⟨s2_2.1, s2_2.2⟩ : wordReader) 1) fun r2_1 => Option.bind (appM xs2_1.2.2 ([r2_1.1] : List Expr_)) fun ys2_1 => some (.inl (r2_1.2.list, r2_1.2.bad, ys2_1)) else some (.inr (xs2_1.2.2, s2_1.1, s2_1.2.1)) : Option (((List Word_) × Bool × (List Expr_)) ⊕ ((List Expr_) × (List Word_) × Bool)))) (ws, false, []) = some (ks, ws', true)
def FailM (acc : List Expr_) (ws : List Word_) : Prop := (∀ list n, list.length ≤ 1000 → vW list → AtW list n ws → ∀ q acc0 e, acc = acc0 ++ [e] → acc.length ≤ n → spec_l2Read list q 1 = some (e, (n : Int)) → ∃ ks, loopM (fun (xs1_1 : Int × (List Expr_)) => (Option.bind (spec_l2Read list xs1_1.1 1) fun r1_1 => Option.bind (appM xs1_1.2 ([r1_1.1] : List Expr_)) fun ys1_1 => Option.bind (if decide (r1_1.2 < 0) then some true else Option.bind (spec_l2Is list r1_1.2 (mkS [41])) fun r2_1 => some r2_1 : Option (Bool)) fun s1_1 => if s1_1 then Option.bind (spec_l1Step r1_1.2) fun r1_2 => some (.inr (ys1_1, w64 (r1_1.2 + r1_2))) else Option.bind (spec_l2Is list r1_1.2 (mkS [44])) fun r1_3 => if !(r1_3) then some (.inr (ys1_1, -1)) else some (.inl (w64 (r1_1.2 + 1), ys1_1)) : Option ((Int × (List Expr_)) ⊕ ((List Expr_) × Int)))) (q, acc0) = some (ks, -1)) ∧
  ∃ ks ws', loopM (fun (xs2_1 : (List Word_) × Bool × (List Expr_)) => (Option.bind (if !(xs2_1.2.1) then Option.bind (pimpl_wordReader__take (⟨xs2_1.1, xs2_1.2.1⟩ : wordReader) 3 (mkS [41])) fun r3_1 => some (r3_1.2.list, r3_1.2.bad, !(r3_1.1)) else some (xs2_1.1, xs2_1.2.1, false) : Option ((List Word_) × Bool × Bool)) fun s2_1 => if s2_1.2.2 then Option.bind (if decide (0 < ((xs2_1.2.2.length : Int))) then Option.bind (pimpl_wordReader__want (⟨s2_1.1, s2_1.2.1⟩ : wordReader) 3 (mkS [44])) fun r3_2 => some (r3_2.list, r3_2.bad) else some (s2_1.1, s2_1.2.1) : Option ((List Word_) × Bool)) fun s2_2 => Option.bind (pimpl_wordReader__expr (⟨s2_2.1, s2_2.2⟩ : wordReader) 1) fun r2_1 => Option.bind (appM xs2_1.2.2 ([r2_1.1] : List Expr_)) fun ys2_1 => some (.inl (r2_1.2.list, r2_1.2.bad, ys2_1)) else some (.inr (xs2_1.2.2, s2_1.1, s2_1.2.1)) : Option (((List Word_) × Bool × (List Expr_)) ⊕ ((List Expr_) × (List Word_) × Bool)))) (ws, false, acc) = some (ks, ws', true)
def TotE (lv : Int) (ws : List Word_) : Prop := (∃ e r, Rd (.E lv ws e r)) ∨ FailE lv ws
theorem fail_nil : FailE 5 [] := ⟨fun list n _ _ ha => ⟨_, by rw [read5]; exact tight_nil ha⟩, ⟨_, _, by rw [expr5]; exact single_nil⟩⟩
theorem tot_L {lv : Int} (hlv : lv = 1 ∨ lv = 2 ∨ lv = 3 ∨ lv = 4) : ∀ (k : Nat) (ws : List Word_), ws.length ≤ k → vW ws → ws.length ≤ 1000 → (∀ ws', ws'.length < ws.length → vW ws' → TotE (lv + 1) ws') → ∀ x, (∃ e r, Rd (.L lv x ws e r)) ∨ FailL lv x ws := by
  intro k
  induction k with
  | zero =>
    intro ws hk hv hl ht x
    have : ws = [] := List.eq_nil_of_length_eq_zero (by omega)
    subst this
    exact .inl ⟨_, _, .stop rfl⟩
  | succ k ih =>
    intro ws hk hv hl ht x
    cases ws with
    | nil => exact .inl ⟨_, _, .stop rfl⟩
    | cons w ws =>
      simp at hk hl
      by_cases ho : opW lv w = 0
      · exact .inl ⟨_, _, .stop ho⟩
      rcases ht ws (by simp) (vW_tail hv) with ⟨f, r, h1⟩ | ⟨f1, f2⟩
      · obtain ⟨s1, s2⟩ := rd_suf h1
        have hvr : vW r := fun y hy => vW_tail hv y (s2 y hy)
        rcases ih r (by omega) hvr (by omega) (fun ws' h => ht ws' (by simp; omega)) ⟨opW lv w, 0, mkS [], [x, f]⟩ with ⟨e, r', h2⟩ | ⟨f1, f2⟩
        · exact .inl ⟨_, _, .step ho h1 h2⟩
        · refine .inr ⟨fun list n hlen hvl ha => ?_, ?_⟩
          · obtain ⟨_, _, h3⟩ := at_cons ha
            obtain ⟨m, g1, g2, g3⟩ := rd_spec hlen hvl h1 (n + 1) h3
            obtain ⟨op, n_, nm, ks, h4⟩ := f1 list m hlen hvl g1
            exact ⟨op, n_, nm, ks, by rw [spL_step hlen ha hlv ho g3, mk_eta]; exact h4⟩
          · obtain ⟨op, n_, nm, ks, ws', h4⟩ := f2
            exact ⟨op, n_, nm, ks, ws', by rw [imL_step hlv hv ho (rd_impl h1 (vW_tail hv) (by omega)), mk_eta]; exact h4⟩
      · refine .inr ⟨fun list n hlen hvl ha => ?_, ?_⟩
        · obtain ⟨_, _, h3⟩ := at_cons ha
          obtain ⟨e, h4⟩ := f1 list (n + 1) hlen hvl h3
          exact ⟨_, _, _, _, by rw [spL_step hlen ha hlv ho h4]; exact spL_bad⟩
        · obtain ⟨e, ws', h4⟩ := f2
          exact ⟨_, _, _, _, ws', by rw [imL_step hlv hv ho h4]; exact imL_bad⟩
theorem tot_up {lv : Int} (hlv : lv = 1 ∨ lv = 2 ∨ lv = 3 ∨ lv = 4) {ws : List Word_} (hv : vW ws) (hl : ws.length ≤ 1000) (ht : ∀ ws', ws'.length ≤ ws.length → vW ws' → TotE (lv + 1) ws') : TotE lv ws := by
  rcases ht ws (Nat.le_refl _) hv with ⟨x, r, h1⟩ | ⟨f1, f2⟩
  · obtain ⟨s1, s2⟩ := rd_suf h1
    rcases tot_L hlv r.length r (Nat.le_refl _) (fun y hy => hv y (s2 y hy)) (by omega) (fun ws' h => ht ws' (by omega)) x with ⟨e, r', h2⟩ | ⟨f1, f2⟩
    · exact .inl ⟨_, _, .up hlv h1 h2⟩
    · refine .inr ⟨fun list n hlen hvl ha => ?_, ?_⟩
      · obtain ⟨m, g1, g2, g3⟩ := rd_spec hlen hvl h1 n ha
        obtain ⟨op, n_, nm, ks, h4⟩ := f1 list m hlen hvl g1
        exact ⟨_, by rw [read_lv hlv, g3, Option.bind_some, h4]; rfl⟩
      · obtain ⟨op, n_, nm, ks, ws', h4⟩ := f2
        exact ⟨_, ws', expr_inr hlv (rd_impl h1 hv hl) h4⟩
  · refine .inr ⟨fun list n hlen hvl ha => ?_, ?_⟩
    · obtain ⟨e, h4⟩ := f1 list n hlen hvl ha
      exact ⟨_, by rw [read_lv hlv, h4, Option.bind_some, spL_bad]; rfl⟩
    · obtain ⟨e, ws', h4⟩ := f2
      exact ⟨_, ws', expr_inr hlv h4 imL_bad⟩
theorem tot_M : ∀ (k : Nat) (ws : List Word_), ws.length ≤ k → vW ws → ∀ acc, acc ≠ [] → acc.length + ws.length ≤ 1000 → (∀ ws', ws'.length < ws.length → vW ws' → TotE 1 ws') → (∃ ks r, Rd (.M acc ws ks r)) ∨ FailM acc ws := by
  intro k
  induction k with
  | zero =>
    intro ws hk hv acc h0 hl ht
    have : ws = [] := List.eq_nil_of_length_eq_zero (by omega)
    subst this
    refine .inr ⟨fun list n hlen hvl ha q acc0 e he hle hr => ?_, imA_want h0 (by simp at hl; omega) hv rfl rfl⟩
    have hle2 := hle
    rw [he] at hle2
    simp at hle2
    have := ha.2
    exact ⟨_, by rw [spA_at hlen (by omega) ha hr]; rfl⟩
  | succ k ih =>
    intro ws hk hv acc h0 hl ht
    by_cases c1 : isT ws (mkS [41]) = true
    · cases ws with
      | nil => cases c1
      | cons v ws => exact .inl ⟨_, _, .last (by simpa [isT] using c1)⟩
    have c1 : isT ws (mkS [41]) = false := by simpa using c1
    by_cases c2 : isT ws (mkS [44]) = true
    · cases ws with
      | nil => cases c2
      | cons v ws =>
        have hv2 : v.text = mkS [44] := by simpa [isT] using c2
        simp at hk hl
        rcases ht ws (by simp) (vW_tail hv) with ⟨f, r, h1⟩ | ⟨f1, f2⟩
        · obtain ⟨s1, s2⟩ := rd_suf h1
          have hvr : vW r := fun y hy => vW_tail hv y (s2 y hy)
          rcases ih r (by omega) hvr (acc ++ [f]) (by simp) (by simp; omega) (fun ws' h => ht ws' (by simp; omega)) with ⟨ks, r', h2⟩ | ⟨f1, f2⟩
          · exact .inl ⟨_, _, .more hv2 h1 h2⟩
          · refine .inr ⟨fun list n hlen hvl ha q acc0 e he hle hr => ?_, ?_⟩
            · obtain ⟨h5, _, h3⟩ := at_cons ha
              obtain ⟨m, g1, g2, g3⟩ := rd_spec hlen hvl h1 (n + 1) h3
              have hle2 := hle
              rw [he] at hle2
              simp at hle2
              obtain ⟨ks, h4⟩ := f1 list m hlen hvl g1 _ acc f rfl (by simp; omega) g3
              exact ⟨ks, by rw [spA_at hlen (by omega) ha hr, c1, c2, ← he]; exact h4⟩
            · obtain ⟨ks, ws', h4⟩ := f2
              exact ⟨ks, ws', by rw [imA_more h0 (by omega) hv hv2 (rd_impl h1 (vW_tail hv) (by omega))]; exact h4⟩
        · refine .inr ⟨fun list n hlen hvl ha q acc0 e he hle hr => ?_, ?_⟩
          · obtain ⟨h5, _, h3⟩ := at_cons ha
            obtain ⟨e2, h4⟩ := f1 list (n + 1) hlen hvl h3
            have hle2 := hle
            rw [he] at hle2
            simp at hle2
            exact ⟨_, by rw [spA_at hlen (by omega) ha hr, c1, c2, ← he]; exact spA_bad (by omega) h4⟩
          · obtain ⟨e2, ws', h4⟩ := f2
            exact ⟨_, ws', by rw [imA_more h0 (by omega) hv hv2 h4]; exact imA_bad⟩
    have c2 : isT ws (mkS [44]) = false := by simpa using c2
    refine .inr ⟨fun list n hlen hvl ha q acc0 e he hle hr => ?_, imA_want h0 (by omega) hv c1 c2⟩
    have hle2 := hle
    rw [he] at hle2
    simp at hle2
    have := ha.2
    exact ⟨_, by rw [spA_at hlen (by omega) ha hr, c1, c2]; rfl⟩
theorem tot_A {ws : List Word_} (hv : vW ws) (hl : ws.length ≤ 1000) (ht : ∀ ws', ws'.length ≤ ws.length → vW ws' → TotE 1 ws') : (∃ ks r, Rd (.A ws ks r)) ∨ FailA ws := by
  by_cases c1 : isT ws (mkS [41]) = true
  · cases ws with
    | nil => cases c1
    | cons v ws => exact .inl ⟨_, _, .done (by simpa [isT] using c1)⟩
  have c1 : isT ws (mkS [41]) = false := by simpa using c1
  rcases ht ws (Nat.le_refl _) hv with ⟨x, r, h1⟩ | ⟨f1, f2⟩
  · obtain ⟨s1, s2⟩ := rd_suf h1
    rcases tot_M r.length r (Nat.le_refl _) (fun y hy => hv y (s2 y hy)) [x] (by simp) (by simp; omega) (fun ws' h => ht ws' (by omega)) with ⟨ks, r', h2⟩ | ⟨f1, f2⟩
    · exact .inl ⟨_, _, .first c1 h1 h2⟩
    · refine .inr ⟨fun list n hlen hvl ha => ?_, ?_⟩
      · obtain ⟨m, g1, g2, g3⟩ := rd_spec hlen hvl h1 n ha
        obtain ⟨ks, h4⟩ := f1 list m hlen hvl g1 _ [] x rfl (by simp; omega) g3
        exact ⟨ks, by rw [list_eq hlen ha, c1]; exact h4⟩
      · obtain ⟨ks, ws', h4⟩ := f2
        exact ⟨ks, ws', by rw [imA_first hv c1 (rd_impl h1 hv hl)]; exact h4⟩
  · refine .inr ⟨fun list n hlen hvl ha => ?_, ?_⟩
    · obtain ⟨e, h4⟩ := f1 list n hlen hvl ha
      exact ⟨_, by rw [list_eq hlen ha, c1]; exact spA_bad (by simp) h4⟩
    · obtain ⟨e, ws', h4⟩ := f2
      exact ⟨_, ws', by rw [imA_first hv c1 h4]; exact imA_bad⟩
theorem tot_5 {ws : List Word_} (hv : vW ws) (hl : ws.length ≤ 1000) (h5 : ∀ ws', ws'.length < ws.length → vW ws' → TotE 5 ws') (h1 : ∀ ws', ws'.length < ws.length → vW ws' → TotE 1 ws') : TotE 5 ws := by
  cases ws with
  | nil => exact .inr fail_nil
  | cons w ws =>
    have h0 := vW_head hv
    have hvt := vW_tail hv
    simp at hl
    by_cases c1 : w.text = mkS [33]
    · rcases h5 ws (by simp) hvt with ⟨e, r, h⟩ | ⟨f1, f2⟩
      · exact .inl ⟨_, _, .neg c1 h⟩
      · refine .inr ⟨fun list n hlen hvl ha => ?_, ?_⟩
        · obtain ⟨e, g⟩ := f1 list (n + 1) hlen hvl (at_cons ha).2.2
          rw [read5] at g
          exact ⟨_, by rw [read5, tight_cons hlen ha, if_pos c1, g]; rfl⟩
        · obtain ⟨e, ws', g⟩ := f2
          rw [expr5] at g
          exact ⟨_, ws', by rw [expr5, single_cons hv, if_pos c1, g]; rfl⟩
    by_cases c2 : w.text = mkS [64]
    · rcases h5 ws (by simp) hvt with ⟨e, r, h⟩ | ⟨f1, f2⟩
      · exact .inl ⟨_, _, .at_ c2 h⟩
      · refine .inr ⟨fun list n hlen hvl ha => ?_, ?_⟩
        · obtain ⟨e, g⟩ := f1 list (n + 1) hlen hvl (at_cons ha).2.2
          rw [read5] at g
          exact ⟨_, by rw [read5, tight_cons hlen ha, if_neg c1, if_pos c2, g]; rfl⟩
        · obtain ⟨e, ws', g⟩ := f2
          rw [expr5] at g
          exact ⟨_, ws', by rw [expr5, single_cons hv, if_neg c1, if_pos c2, g]; rfl⟩
    by_cases c3 : w.text = mkS [40]
    · rcases h1 ws (by simp) hvt with ⟨e, r, h⟩ | ⟨f1, f2⟩
      · obtain ⟨s1, s2⟩ := rd_suf h
        by_cases c4 : isT r (mkS [41]) = true
        · cases r with
          | nil => cases c4
          | cons v r => exact .inl ⟨_, _, .par c3 h (by simpa [isT] using c4)⟩
        have c4 : isT r (mkS [41]) = false := by simpa using c4
        refine .inr ⟨fun list n hlen hvl ha => ?_, ?_⟩
        · obtain ⟨m, g1, g2, g3⟩ := rd_spec hlen hvl h (n + 1) (at_cons ha).2.2
          have e1 : decide ((m : Int) < 0) = false := by simp
          refine ⟨e, ?_⟩
          rw [read5, tight_cons hlen ha, if_neg c1, if_neg c2, if_pos c3, g3, Option.bind_some]
          dsimp only
          rw [e1, at_is g1, c4]; rfl
        · refine ⟨e, r, ?_⟩
          rw [expr5, single_cons hv, if_neg c1, if_neg c2, if_pos c3, rd_impl h hvt (by omega), Option.bind_some]
          dsimp only
          rw [want_ok, tk_is (fun x hx => hvt x (s2 x hx)) rfl (by decide), c4]; rfl
      · refine .inr ⟨fun list n hlen hvl ha => ?_, ?_⟩
        · obtain ⟨e, g⟩ := f1 list (n + 1) hlen hvl (at_cons ha).2.2
          exact ⟨e, by rw [read5, tight_cons hlen ha, if_neg c1, if_neg c2, if_pos c3, g]; rfl⟩
        · obtain ⟨e, ws', g⟩ := f2
          refine ⟨e, if tkW ws' 3 (mkS [41]) then ws'.tail else ws', ?_⟩
          rw [expr5, single_cons hv, if_neg c1, if_neg c2, if_pos c3, g, Option.bind_some]
          dsimp only
          rw [want_ok]
          cases tkW ws' 3 (mkS [41]) <;> rfl
    by_cases c4 : w.kind = 2
    · exact .inl ⟨_, _, .num c4⟩
    by_cases c5 : w.kind = 1
    · cases c6 : isT ws (mkS [40]) with
      | false => exact .inl ⟨_, _, .var c5 c6⟩
      | true =>
        cases ws with
        | nil => cases c6
        | cons v ws =>
          have c7 : v.text = mkS [40] := by simpa [isT] using c6
          simp at hl
          rcases tot_A (vW_tail hvt) (by omega) (fun ws' h => h1 ws' (by simp; omega)) with ⟨ks, r, h⟩ | ⟨f1, f2⟩
          · exact .inl ⟨_, _, .call c5 c7 h⟩
          · refine .inr ⟨fun list n hlen hvl ha => ?_, ?_⟩
            · obtain ⟨ks, g⟩ := f1 list (n + 2) hlen hvl (at_cons (at_cons ha).2.2).2.2
              exact ⟨_, by rw [read5, tight_cons hlen ha, if_neg c1, if_neg c2, if_neg c3, if_neg c4, if_neg (by omega), if_neg (by rw [c6]; decide), g]; rfl⟩
            · obtain ⟨ks, ws', g⟩ := f2
              exact ⟨_, ws', by rw [expr5, single_cons hv, if_neg c1, if_neg c2, if_neg c3, if_neg c4, if_neg (by omega), if_neg (by rw [c6]; decide), List.tail_cons, g]; rfl⟩
    · refine .inr ⟨fun list n hlen hvl ha => ⟨_, by rw [read5, tight_cons hlen ha, if_neg c1, if_neg c2, if_neg c3, if_neg c4, if_pos c5]⟩, ⟨_, ws, by rw [expr5, single_cons hv, if_neg c1, if_neg c2, if_neg c3, if_neg c4, if_pos c5]⟩⟩
theorem tot_all : ∀ (k : Nat) (ws : List Word_), ws.length ≤ k → ws.length ≤ 1000 → vW ws → ∀ lv : Int, (lv = 1 ∨ lv = 2 ∨ lv = 3 ∨ lv = 4 ∨ lv = 5) → TotE lv ws := by
  intro k
  induction k with
  | zero =>
    intro ws hk hl hv
    have h5 : ∀ ws' : List Word_, ws'.length ≤ ws.length → vW ws' → TotE 5 ws' := fun ws' h hv' => tot_5 hv' (by omega) (fun _ h => by omega) (fun _ h => by omega)
    have h4 : ∀ ws' : List Word_, ws'.length ≤ ws.length → vW ws' → TotE 4 ws' := fun ws' h hv' => tot_up (by omega) hv' (by omega) fun x hx => h5 x (by omega)
    have h3 : ∀ ws' : List Word_, ws'.length ≤ ws.length → vW ws' → TotE 3 ws' := fun ws' h hv' => tot_up (by omega) hv' (by omega) fun x hx => h4 x (by omega)
    have h2 : ∀ ws' : List Word_, ws'.length ≤ ws.length → vW ws' → TotE 2 ws' := fun ws' h hv' => tot_up (by omega) hv' (by omega) fun x hx => h3 x (by omega)
    have h1 : ∀ ws' : List Word_, ws'.length ≤ ws.length → vW ws' → TotE 1 ws' := fun ws' h hv' => tot_up (by omega) hv' (by omega) fun x hx => h2 x (by omega)
    rintro lv (rfl | rfl | rfl | rfl | rfl)
    · exact h1 ws (Nat.le_refl _) hv
    · exact h2 ws (Nat.le_refl _) hv
    · exact h3 ws (Nat.le_refl _) hv
    · exact h4 ws (Nat.le_refl _) hv
    · exact h5 ws (Nat.le_refl _) hv
  | succ k ih =>
    intro ws hk hl hv
    have h5 : ∀ ws' : List Word_, ws'.length ≤ ws.length → vW ws' → TotE 5 ws' := fun ws' h hv' => tot_5 hv' (by omega) (fun x hx hvx => ih x (by omega) (by omega) hvx 5 (by omega)) (fun x hx hvx => ih x (by omega) (by omega) hvx 1 (by omega))
    have h4 : ∀ ws' : List Word_, ws'.length ≤ ws.length → vW ws' → TotE 4 ws' := fun ws' h hv' => tot_up (by omega) hv' (by omega) fun x hx => h5 x (by omega)
    have h3 : ∀ ws' : List Word_, ws'.length ≤ ws.length → vW ws' → TotE 3 ws' := fun ws' h hv' => tot_up (by omega) hv' (by omega) fun x hx => h4 x (by omega)
    have h2 : ∀ ws' : List Word_, ws'.length ≤ ws.length → vW ws' → TotE 2 ws' := fun ws' h hv' => tot_up (by omega) hv' (by omega) fun x hx => h3 x (by omega)
    have h1 : ∀ ws' : List Word_, ws'.length ≤ ws.length → vW ws' → TotE 1 ws' := fun ws' h hv' => tot_up (by omega) hv' (by omega) fun x hx => h2 x (by omega)
    rintro lv (rfl | rfl | rfl | rfl | rfl)
    · exact h1 ws (Nat.le_refl _) hv
    · exact h2 ws (Nat.le_refl _) hv
    · exact h3 ws (Nat.le_refl _) hv
    · exact h4 ws (Nat.le_refl _) hv
    · exact h5 ws (Nat.le_refl _) hv
end Prg
end Go.Wk
namespace Go.Wk
open Go
namespace Prg
set_option maxRecDepth 10000
theorem rd_det {ws : List Word_} (hv : vW ws) (hl : ws.length ≤ 1000) {lv : Int} {e e' : Expr_} {r r' : List Word_} (h : Rd (.E lv ws e r)) (h' : Rd (.E lv ws e' r')) : e = e' ∧ r = r' := by
  have h1 := rd_impl h hv hl
  have h2 := rd_impl h' hv hl
  rw [h1] at h2
  simp only [Option.some.injEq, Prod.mk.injEq, wordReader.mk.injEq] at h2
  exact ⟨h2.1, h2.2.1⟩
open Classical in
noncomputable def rE (ws : List Word_) : Option (Expr_ × List Word_) := if h : ∃ p : Expr_ × List Word_, Rd (.E 1 ws p.1 p.2) then some h.choose else none
theorem rE_some {ws : List Word_} {e : Expr_} {r : List Word_} (h : rE ws = some (e, r)) : Rd (.E 1 ws e r) := by
  unfold rE at h
  split at h
  · rename_i hx
    have := hx.choose_spec
    rw [Option.some.inj h] at this
    exact this
  · cases h
theorem rE_of {ws : List Word_} (hv : vW ws) (hl : ws.length ≤ 1000) {e : Expr_} {r : List Word_} (h : Rd (.E 1 ws e r)) : rE ws = some (e, r) := by
  unfold rE
  have hx : ∃ p : Expr_ × List Word_, Rd (.E 1 ws p.1 p.2) := ⟨(e, r), h⟩
  rw [dif_pos hx]
  obtain ⟨h1, h2⟩ := rd_det hv hl hx.choose_spec h
  rw [← h1, ← h2]
theorem rE_none {ws : List Word_} (hv : vW ws) (hl : ws.length ≤ 1000) (h : rE ws = none) : FailE 1 ws := by
  rcases tot_all ws.length ws (Nat.le_refl _) hl hv 1 (by omega) with ⟨e, r, hr⟩ | hf
  · rw [rE_of hv hl hr] at h; cases h
  · exact hf
def tLet : Str := mkS [108, 101, 116]
def tSay : Str := mkS [115, 97, 121]
def tPut : Str := mkS [112, 117, 116]
def tIf : Str := mkS [105, 102]
def tElse : Str := mkS [101, 108, 115, 101]
def tLoop : Str := mkS [108, 111, 111, 112]
def tBack : Str := mkS [98, 97, 99, 107]
def tDo : Str := mkS [100, 111]
def tFn : Str := mkS [102, 110]
def opK (t : Str) : Int := if t = tLet then 1 else if t = tSay then 3 else if t = tPut then 4 else if t = tIf then 5 else if t = tLoop then 6 else if t = tBack then 7 else if t = tDo then 8 else 0
def wT (t : Str) (ws : List Word_) : Option (List Word_) := if isT ws t then some ws.tail else none
def nT (ws : List Word_) : Option (Str × List Word_) := match ws with
  | [] => none
  | w :: r => if w.kind = 1 then some (w.text, r) else none
def headS (ws : List Word_) : Option (Int × Str × List Word_) := match ws with
  | [] => none
  | w :: r => if opK w.text = 0 then (if w.kind = 1 then (wT (mkS [61]) r).map fun q => (2, w.text, q) else none)
    else if opK w.text = 1 then (nT r).bind fun p => (wT (mkS [61]) p.2).map fun q => (1, p.1, q)
    else some (opK w.text, mkS [], r)
mutual
noncomputable def pS : Nat → List Word_ → Option (Stmt_ × List Word_)
  | 0, _ => none
  | k + 1, ws => (headS ws).bind fun h => (rE h.2.2).bind fun a =>
    if h.1 = 4 then (wT (mkS [44]) a.2).bind fun q => (rE q).bind fun b => (wT (mkS [59]) b.2).map fun r => (⟨4, h.2.1, [a.1, b.1], [], []⟩, r)
    else if h.1 = 5 then (pK k a.2).bind fun b => if isT b.2 tElse then (pK k b.2.tail).map fun c => (⟨5, h.2.1, [a.1], b.1, c.1⟩, c.2) else some (⟨5, h.2.1, [a.1], b.1, []⟩, b.2)
    else if h.1 = 6 then (pK k a.2).map fun b => (⟨6, h.2.1, [a.1], b.1, []⟩, b.2)
    else (wT (mkS [59]) a.2).map fun r => (⟨h.1, h.2.1, [a.1], [], []⟩, r)
noncomputable def pK : Nat → List Word_ → Option (List Stmt_ × List Word_)
  | 0, _ => none
  | k + 1, ws => (wT (mkS [123]) ws).bind fun q => pB k [] q
noncomputable def pB : Nat → List Stmt_ → List Word_ → Option (List Stmt_ × List Word_)
  | 0, _, _ => none
  | k + 1, acc, ws => if isT ws (mkS [125]) then some (acc, ws.tail) else (pS k ws).bind fun s => pB k (acc ++ [s.1]) s.2
end
noncomputable def pP : Nat → List Str → List Word_ → Option (List Str × List Word_)
  | 0, _, _ => none
  | k + 1, acc, ws => if isT ws (mkS [41]) then some (acc, ws.tail) else ((if acc = [] then some ws else wT (mkS [44]) ws).bind nT).bind fun p => pP k (acc ++ [p.1]) p.2
noncomputable def pF (k : Nat) (ws : List Word_) : Option (Fn_ × List Word_) := (wT tFn ws).bind fun a => (nT a).bind fun b => (wT (mkS [40]) b.2).bind fun c => (pP k [] c).bind fun d => (pK k d.2).map fun q => (⟨b.1, d.1, q.1⟩, q.2)
noncomputable def pG (k0 : Nat) : Nat → List Fn_ → List Word_ → Option (List Fn_)
  | 0, _, _ => none
  | k + 1, acc, ws => if ws = [] then some acc else (pF k0 ws).bind fun p => pG k0 k (acc ++ [p.1]) p.2
def Suf (r ws : List Word_) : Prop := r.length ≤ ws.length ∧ ∀ x ∈ r, x ∈ ws
def SufS (r ws : List Word_) : Prop := r.length < ws.length ∧ ∀ x ∈ r, x ∈ ws
theorem SufS.le {r ws : List Word_} (h : SufS r ws) : Suf r ws := ⟨Nat.le_of_lt h.1, h.2⟩
theorem Suf.trans {a b c : List Word_} (h : Suf a b) (h' : Suf b c) : Suf a c := ⟨Nat.le_trans h.1 h'.1, fun x hx => h'.2 x (h.2 x hx)⟩
theorem SufS.trans {a b c : List Word_} (h : Suf a b) (h' : SufS b c) : SufS a c := ⟨Nat.lt_of_le_of_lt h.1 h'.1, fun x hx => h'.2 x (h.2 x hx)⟩
theorem Suf.vW {r ws : List Word_} (h : Suf r ws) (hv : Prg.vW ws) : Prg.vW r := fun x hx => hv x (h.2 x hx)
theorem suf_tail (w : Word_) (r : List Word_) : SufS r (w :: r) := ⟨by simp, fun x hx => by simp [hx]⟩
theorem wT_suf {t : Str} {ws q : List Word_} (h : wT t ws = some q) : SufS q ws := by
  unfold wT at h
  cases ws with
  | nil => simp [isT] at h
  | cons w r =>
    split at h
    · cases h; exact suf_tail w r
    · cases h
theorem nT_suf {ws q : List Word_} {n : Str} (h : nT ws = some (n, q)) : SufS q ws := by
  unfold nT at h
  cases ws with
  | nil => cases h
  | cons w r =>
    dsimp only at h
    split at h
    · cases h; exact suf_tail _ _
    · cases h
theorem rE_suf {ws r : List Word_} {e : Expr_} (h : rE ws = some (e, r)) : SufS r ws := rd_suf (rE_some h)
theorem headS_suf {ws q : List Word_} {op : Int} {n : Str} (h : headS ws = some (op, n, q)) : SufS q ws := by
  unfold headS at h
  cases ws with
  | nil => cases h
  | cons w r =>
    dsimp only at h
    split at h
    · split at h
      · obtain ⟨q', h1, h2⟩ := Option.map_eq_some_iff.1 h
        cases h2
        exact SufS.trans (wT_suf h1).le (suf_tail w r)
      · cases h
    · split at h
      · obtain ⟨p, h1, h2⟩ := Option.bind_eq_some_iff.1 h
        obtain ⟨q', h3, h4⟩ := Option.map_eq_some_iff.1 h2
        cases h4
        exact SufS.trans ((wT_suf h3).le.trans (nT_suf (n := p.1) (q := p.2) h1).le) (suf_tail w r)
      · cases h
        exact suf_tail w _
theorem pSK_suf : ∀ k : Nat, (∀ ws s r, pS k ws = some (s, r) → SufS r ws) ∧ (∀ ws b r, pK k ws = some (b, r) → SufS r ws) ∧ (∀ acc ws b r, pB k acc ws = some (b, r) → SufS r ws) := by
  intro k
  induction k with
  | zero => exact ⟨fun ws s r h => (by rw [pS] at h; cases h), fun ws s r h => (by rw [pK] at h; cases h), fun acc ws s r h => (by rw [pB] at h; cases h)⟩
  | succ k ih =>
    obtain ⟨i1, i2, i3⟩ := ih
    refine ⟨fun ws s r h => ?_, fun ws b r h => ?_, fun acc ws b r h => ?_⟩
    · rw [pS] at h
      obtain ⟨⟨op, nm, q⟩, h1, h⟩ := Option.bind_eq_some_iff.1 h
      obtain ⟨⟨e, q2⟩, h2, h⟩ := Option.bind_eq_some_iff.1 h
      have s1 := headS_suf h1
      have s2 : SufS q2 ws := SufS.trans (rE_suf h2).le s1
      dsimp only at h h2
      split at h
      · obtain ⟨q3, h3, h⟩ := Option.bind_eq_some_iff.1 h
        obtain ⟨⟨e2, q4⟩, h4, h⟩ := Option.bind_eq_some_iff.1 h
        obtain ⟨q5, h5, h⟩ := Option.map_eq_some_iff.1 h
        cases h
        exact SufS.trans ((wT_suf h5).le.trans ((rE_suf h4).le.trans (wT_suf h3).le)) s2
      · split at h
        · obtain ⟨⟨b, q3⟩, h3, h⟩ := Option.bind_eq_some_iff.1 h
          dsimp only at h
          split at h
          · rename_i ht
            obtain ⟨⟨c, q4⟩, h4, h⟩ := Option.map_eq_some_iff.1 h
            cases h
            have : Suf q3.tail q3 := by
              cases q3 with
              | nil => exact ⟨Nat.le_refl _, fun x hx => hx⟩
              | cons y z => exact (suf_tail y z).le
            exact SufS.trans ((i2 _ _ _ h4).le.trans (this.trans (i2 _ _ _ h3).le)) s2
          · cases h
            exact SufS.trans (i2 _ _ _ h3).le s2
        · split at h
          · obtain ⟨⟨b, q3⟩, h3, h⟩ := Option.map_eq_some_iff.1 h
            cases h
            exact SufS.trans (i2 _ _ _ h3).le s2
          · obtain ⟨q3, h3, h⟩ := Option.map_eq_some_iff.1 h
            cases h
            exact SufS.trans (wT_suf h3).le s2
    · rw [pK] at h
      obtain ⟨q, h1, h⟩ := Option.bind_eq_some_iff.1 h
      exact SufS.trans (i3 _ _ _ _ h).le (wT_suf h1)
    · rw [pB] at h
      split at h
      · rename_i ht
        cases h
        cases ws with
        | nil => cases ht
        | cons w r => exact suf_tail w r
      · obtain ⟨⟨s, q⟩, h1, h⟩ := Option.bind_eq_some_iff.1 h
        exact SufS.trans (i3 _ _ _ _ h).le (i1 _ _ _ h1)
theorem pP_suf : ∀ (k : Nat) (acc : List Str) (ws : List Word_) (ps : List Str) (r : List Word_), pP k acc ws = some (ps, r) → SufS r ws
  | 0, acc, ws, ps, r, h => by rw [pP] at h; cases h
  | k + 1, acc, ws, ps, r, h => by
    rw [pP] at h
    split at h
    · rename_i ht
      cases h
      cases ws with
      | nil => cases ht
      | cons w r => exact suf_tail w r
    · obtain ⟨⟨n, q⟩, h1, h⟩ := Option.bind_eq_some_iff.1 h
      obtain ⟨q2, h2, h3⟩ := Option.bind_eq_some_iff.1 h1
      have : Suf q2 ws := by
        split at h2
        · cases h2; exact ⟨Nat.le_refl _, fun x hx => hx⟩
        · exact (wT_suf h2).le
      have s1 := nT_suf h3
      exact SufS.trans (pP_suf k _ _ _ _ h).le ⟨Nat.lt_of_lt_of_le s1.1 this.1, fun x hx => this.2 x (s1.2 x hx)⟩
theorem pF_suf {k : Nat} {ws r : List Word_} {f : Fn_} (h : pF k ws = some (f, r)) : SufS r ws := by
  unfold pF at h
  obtain ⟨a, h1, h⟩ := Option.bind_eq_some_iff.1 h
  obtain ⟨⟨n, b⟩, h2, h⟩ := Option.bind_eq_some_iff.1 h
  obtain ⟨c, h3, h⟩ := Option.bind_eq_some_iff.1 h
  obtain ⟨⟨ps, d⟩, h4, h⟩ := Option.bind_eq_some_iff.1 h
  obtain ⟨⟨q, r'⟩, h5, h⟩ := Option.map_eq_some_iff.1 h
  cases h
  exact SufS.trans (((pSK_suf k).2.1 _ _ _ h5).le.trans ((pP_suf _ _ _ _ _ h4).le.trans ((wT_suf h3).le.trans (nT_suf h2).le))) (wT_suf h1)
end Prg
end Go.Wk
namespace Go.Wk
open Go
namespace Prg
set_option maxRecDepth 10000
theorem key_kind {w : Word_} (hw : wordB w = true) (hk : keyB w.text = true) : w.kind = 4 := by
  have hne := hk
  unfold keyB at hne
  have hne := of_decide_eq_true hne
  unfold wordB at hw
  by_cases h1 : w.kind = 1
  · rw [if_pos h1] at hw
    unfold nameB at hw
    rw [hk] at hw
    simp at hw
  rw [if_neg h1] at hw
  by_cases h2 : w.kind = 2
  · rw [if_pos h2] at hw
    have : numI w.text = -1 := by
      have key : ∀ s ∈ glob_impl_keys, s.b.all digB = false := by decide
      unfold numI
      rw [if_neg]
      rintro ⟨_, h, _⟩
      rw [key _ hne] at h; cases h
    rw [this] at hw
    simp at hw
  rw [if_neg h2] at hw
  by_cases h3 : w.kind = 3
  · rw [if_pos h3] at hw
    have key : ∀ s ∈ glob_impl_keys, ∃ a b l, s.b = a :: b :: l := by
      intro s hs
      unfold glob_impl_keys at hs
      simp only [List.mem_cons, List.not_mem_nil, or_false] at hs
      rcases hs with rfl | rfl | rfl | rfl | rfl | rfl | rfl | rfl | rfl <;> exact ⟨_, _, _, rfl⟩
    obtain ⟨a, b, l, h⟩ := key _ hne
    rw [h] at hw
    cases hw
  rw [if_neg h3] at hw
  by_cases h4 : w.kind = 4
  · exact h4
  · rw [if_neg h4] at hw; cases hw
theorem opK_key {t : Str} (h : opK t ≠ 0) : keyB t = true := by
  unfold opK at h
  by_cases h1 : t = tLet
  · subst h1; decide
  by_cases h2 : t = tSay
  · subst h2; decide
  by_cases h3 : t = tPut
  · subst h3; decide
  by_cases h4 : t = tIf
  · subst h4; decide
  by_cases h5 : t = tLoop
  · subst h5; decide
  by_cases h6 : t = tBack
  · subst h6; decide
  by_cases h7 : t = tDo
  · subst h7; decide
  · simp [h1, h2, h3, h4, h5, h6, h7] at h
theorem opK_range (t : Str) : opK t = 0 ∨ opK t = 1 ∨ opK t = 3 ∨ opK t = 4 ∨ opK t = 5 ∨ opK t = 6 ∨ opK t = 7 ∨ opK t = 8 := by
  unfold opK; repeat' split
  all_goals decide
theorem l3Op_ok (t : Str) : spec_l3Op t = some (if opK t = 0 then 2 else opK t) := by
  by_cases h1 : t = tLet
  · subst h1; rfl
  by_cases h2 : t = tSay
  · subst h2; rfl
  by_cases h3 : t = tPut
  · subst h3; rfl
  by_cases h4 : t = tIf
  · subst h4; rfl
  by_cases h5 : t = tLoop
  · subst h5; rfl
  by_cases h6 : t = tBack
  · subst h6; rfl
  by_cases h7 : t = tDo
  · subst h7; rfl
  have h0 : opK t = 0 := by unfold opK; simp [h1, h2, h3, h4, h5, h6, h7]
  rw [h0, if_pos rfl]
  unfold spec_l3Op
  rw [show (((9 : Int) : Int) - 1).toNat = 8 from rfl]
  have g : ∀ i : Int, getI [(mkS []), tLet, (mkS []), tSay, tPut, tIf, tLoop, tBack, tDo] i = ([(mkS []), tLet, (mkS []), tSay, tPut, tIf, tLoop, tBack, tDo] : List Str)[i.toNat]? ∨ i < 0 := by
    intro i
    unfold getI
    by_cases h : 0 ≤ i
    · left; simp [h]
    · right; omega
  have e1 : decide (mkS [108, 101, 116] = t) = false := decide_eq_false fun e => h1 e.symm
  have e2 : decide (mkS [115, 97, 121] = t) = false := decide_eq_false fun e => h2 e.symm
  have e3 : decide (mkS [112, 117, 116] = t) = false := decide_eq_false fun e => h3 e.symm
  have e4 : decide (mkS [105, 102] = t) = false := decide_eq_false fun e => h4 e.symm
  have e5 : decide (mkS [108, 111, 111, 112] = t) = false := decide_eq_false fun e => h5 e.symm
  have e6 : decide (mkS [98, 97, 99, 107] = t) = false := decide_eq_false fun e => h6 e.symm
  have e7 : decide (mkS [100, 111] = t) = false := decide_eq_false fun e => h7 e.symm
  have e8 : (if decide (mkS [] = t) = true then some (decide (t ≠ mkS [])) else some false : Option Bool) = some false := by
    by_cases h : mkS [] = t
    · subst h; rfl
    · rw [decide_eq_false h]; rfl
  have g1 : getI ([(mkS []), (mkS [108, 101, 116]), (mkS []), (mkS [115, 97, 121]), (mkS [112, 117, 116]), (mkS [105, 102]), (mkS [108, 111, 111, 112]), (mkS [98, 97, 99, 107]), (mkS [100, 111])] : List Str) 1 = some (mkS [108, 101, 116]) := rfl
  have g2 : getI ([(mkS []), (mkS [108, 101, 116]), (mkS []), (mkS [115, 97, 121]), (mkS [112, 117, 116]), (mkS [105, 102]), (mkS [108, 111, 111, 112]), (mkS [98, 97, 99, 107]), (mkS [100, 111])] : List Str) 2 = some (mkS []) := rfl
  have g3 : getI ([(mkS []), (mkS [108, 101, 116]), (mkS []), (mkS [115, 97, 121]), (mkS [112, 117, 116]), (mkS [105, 102]), (mkS [108, 111, 111, 112]), (mkS [98, 97, 99, 107]), (mkS [100, 111])] : List Str) 3 = some (mkS [115, 97, 121]) := rfl
  have g4 : getI ([(mkS []), (mkS [108, 101, 116]), (mkS []), (mkS [115, 97, 121]), (mkS [112, 117, 116]), (mkS [105, 102]), (mkS [108, 111, 111, 112]), (mkS [98, 97, 99, 107]), (mkS [100, 111])] : List Str) 4 = some (mkS [112, 117, 116]) := rfl
  have g5 : getI ([(mkS []), (mkS [108, 101, 116]), (mkS []), (mkS [115, 97, 121]), (mkS [112, 117, 116]), (mkS [105, 102]), (mkS [108, 111, 111, 112]), (mkS [98, 97, 99, 107]), (mkS [100, 111])] : List Str) 5 = some (mkS [105, 102]) := rfl
  have g6 : getI ([(mkS []), (mkS [108, 101, 116]), (mkS []), (mkS [115, 97, 121]), (mkS [112, 117, 116]), (mkS [105, 102]), (mkS [108, 111, 111, 112]), (mkS [98, 97, 99, 107]), (mkS [100, 111])] : List Str) 6 = some (mkS [108, 111, 111, 112]) := rfl
  have g7 : getI ([(mkS []), (mkS [108, 101, 116]), (mkS []), (mkS [115, 97, 121]), (mkS [112, 117, 116]), (mkS [105, 102]), (mkS [108, 111, 111, 112]), (mkS [98, 97, 99, 107]), (mkS [100, 111])] : List Str) 7 = some (mkS [98, 97, 99, 107]) := rfl
  have g8 : getI ([(mkS []), (mkS [108, 101, 116]), (mkS []), (mkS [115, 97, 121]), (mkS [112, 117, 116]), (mkS [105, 102]), (mkS [108, 111, 111, 112]), (mkS [98, 97, 99, 107]), (mkS [100, 111])] : List Str) 8 = some (mkS [100, 111]) := rfl
  simp only [forN, show (1 : Int) + 1 = 2 from rfl, show (2 : Int) + 1 = 3 from rfl, show (3 : Int) + 1 = 4 from rfl, show (4 : Int) + 1 = 5 from rfl, show (5 : Int) + 1 = 6 from rfl, show (6 : Int) + 1 = 7 from rfl, show (7 : Int) + 1 = 8 from rfl, g1, g2, g3, g4, g5, g6, g7, g8, Option.bind_some, e1, e2, e3, e4, e5, e6, e7, e8, Bool.false_eq_true, if_false]
  rfl
theorem keys_get (t : Str) : (MapT.get glob_impl_stmtKeys t).getD 0 = opK t := by
  unfold MapT.get glob_impl_stmtKeys lookM opK
  by_cases h1 : t = tLet
  · subst h1; rfl
  by_cases h2 : t = tSay
  · subst h2; rfl
  by_cases h3 : t = tPut
  · subst h3; rfl
  by_cases h4 : t = tIf
  · subst h4; rfl
  by_cases h5 : t = tLoop
  · subst h5; rfl
  by_cases h6 : t = tBack
  · subst h6; rfl
  by_cases h7 : t = tDo
  · subst h7; rfl
  have f1 : ¬ t = mkS [108, 101, 116] := h1
  have f2 : ¬ t = mkS [115, 97, 121] := h2
  have f3 : ¬ t = mkS [112, 117, 116] := h3
  have f4 : ¬ t = mkS [105, 102] := h4
  have f5 : ¬ t = mkS [108, 111, 111, 112] := h5
  have f6 : ¬ t = mkS [98, 97, 99, 107] := h6
  have f7 : ¬ t = mkS [100, 111] := h7
  simp [findIx, h1, h2, h3, h4, h5, h6, h7, f1, f2, f3, f4, f5, f6, f7]
def SpW (list : List Word_) (o : Option (List Word_)) (res : Option l3Reader) : Prop := match o with
  | some r => ∃ m : Nat, AtW list m r ∧ res = some ⟨list, (m : Int)⟩
  | none => res = some ⟨list, -1⟩
def SpO {X : Type} (list : List Word_) (o : Option (X × List Word_)) (res : Option (X × l3Reader)) : Prop := match o with
  | some p => ∃ m : Nat, AtW list m p.2 ∧ res = some (p.1, ⟨list, (m : Int)⟩)
  | none => ∃ x, res = some (x, ⟨list, -1⟩)
theorem sIs {list : List Word_} {n : Nat} {ws : List Word_} (h : AtW list n ws) (t : Str) : pspec_l3Reader__is ⟨list, (n : Int)⟩ t = some (isT ws t) := by
  unfold pspec_l3Reader__is
  rw [if_pos (by simp), at_is h]; rfl
theorem sIsB (list : List Word_) (t : Str) : pspec_l3Reader__is ⟨list, -1⟩ t = some false := rfl
theorem sWant {list : List Word_} (hl : list.length ≤ 1000) {n : Nat} {ws : List Word_} (h : AtW list n ws) (t : Str) : SpW list (wT t ws) (pspec_l3Reader__want ⟨list, (n : Int)⟩ t) := by
  unfold pspec_l3Reader__want wT
  rw [sIs h, Option.bind_some]
  have := h.2
  cases ws with
  | nil => rfl
  | cons w r =>
    cases hi : isT (w :: r) t with
    | true => exact ⟨n + 1, (at_cons h).2.2, by simp only [Bool.not_true, Bool.false_eq_true, if_false]; rw [w64_1 (by omega)]⟩
    | false => rfl
theorem sWantB (list : List Word_) (t : Str) : pspec_l3Reader__want ⟨list, -1⟩ t = some ⟨list, -1⟩ := by
  unfold pspec_l3Reader__want
  rw [sIsB]; rfl
theorem sName {list : List Word_} (hl : list.length ≤ 1000) {n : Nat} {ws : List Word_} (h : AtW list n ws) : SpO list (nT ws) (pspec_l3Reader__name ⟨list, (n : Int)⟩) := by
  unfold pspec_l3Reader__name nT
  have e0 : decide ((n : Int) < 0) = false := by simp
  have hle := h.2
  cases ws with
  | nil =>
    have h1 := at_nil h
    have e1 : decide ((list.length : Int) ≤ (n : Int)) = true := by simp; omega
    dsimp only
    rw [e0, e1]
    exact ⟨_, rfl⟩
  | cons w r =>
    obtain ⟨h1, h2, h3⟩ := at_cons h
    have e1 : decide ((list.length : Int) ≤ (n : Int)) = false := by simp; omega
    have e2 : w64 (((n + 1 : Nat) : Int) - 1) = (n : Int) := by rw [w64_id (by omega) (by omega)]; omega
    dsimp only
    rw [e0, e1, w64_1 (by omega), e2, h2]
    by_cases hk : w.kind = 1
    · simp only [hk, Bool.false_eq_true, if_false, Option.bind_some, ne_eq, not_true_eq_false, decide_false, if_true]
      exact ⟨n + 1, h3, rfl⟩
    · simp only [hk, Bool.false_eq_true, if_false, Option.bind_some, ne_eq, not_false_eq_true, decide_true, if_true]
      exact ⟨_, rfl⟩
theorem sNameB (list : List Word_) : pspec_l3Reader__name ⟨list, -1⟩ = some (mkS [], ⟨list, -1⟩) := rfl
theorem sExpr {list : List Word_} (hl : list.length ≤ 1000) (hv : vW list) {n : Nat} {ws : List Word_} (h : AtW list n ws) : SpO list (rE ws) (pspec_l3Reader__expr ⟨list, (n : Int)⟩) := by
  have hvw : vW ws := fun w hw => hv w (List.mem_of_mem_drop (by rw [h.1]; exact hw))
  have hlw : ws.length ≤ 1000 := by rw [← h.1, List.length_drop]; omega
  unfold pspec_l3Reader__expr
  have e0 : decide ((n : Int) < 0) = false := by simp
  dsimp only
  rw [e0]
  cases hr : rE ws with
  | some p =>
    obtain ⟨m, g1, g2, g3⟩ := rd_spec hl hv (rE_some hr) n h
    rw [if_neg (by simp), g3]
    refine ⟨m, g1, ?_⟩
    simp only [Option.bind_some, mk_eta]
  | none =>
    obtain ⟨e, g⟩ := (rE_none hvw hlw hr).1 list n hl hv h
    rw [if_neg (by simp), g]
    exact ⟨_, rfl⟩
theorem sExprB (list : List Word_) : pspec_l3Reader__expr ⟨list, -1⟩ = some (⟨0, 0, mkS [], []⟩, ⟨list, -1⟩) := rfl
theorem sBlockB (list : List Word_) : pspec_l3Reader__block ⟨list, -1⟩ = some ([], ⟨list, -1⟩) := by
  rw [pspec_l3Reader__block, sWantB, Option.bind_some]
  refine bindt (bindt (loopM_inr rfl) rfl) ?_
  rw [sWantB]; rfl
def ImW (o : Option (List Word_)) (res : Option wordReader) : Prop := match o with
  | some r => res = some ⟨r, false⟩
  | none => ∃ ws', res = some ⟨ws', true⟩
def ImO {X : Type} (o : Option (X × List Word_)) (res : Option (X × wordReader)) : Prop := match o with
  | some p => res = some (p.1, ⟨p.2, false⟩)
  | none => ∃ x ws', res = some (x, ⟨ws', true⟩)
theorem iWantB (ws : List Word_) (k : Int) (t : Str) : ∃ ws', pimpl_wordReader__want ⟨ws, true⟩ k t = some ⟨ws', true⟩ := by
  rw [want_ok]
  cases tkW ws k t <;> exact ⟨_, rfl⟩
theorem iWantT {ws : List Word_} {k : Int} {t : Str} (h : tkW ws k t = isT ws t) : ImW (wT t ws) (pimpl_wordReader__want ⟨ws, false⟩ k t) := by
  rw [want_ok, h]
  unfold wT
  cases isT ws t with
  | true => rfl
  | false => exact ⟨_, rfl⟩
theorem iWant {ws : List Word_} (hw : vW ws) {t : Str} {c : UInt8} (ht : t.b = [c]) (hc : c ∈ sgnL) : ImW (wT t ws) (pimpl_wordReader__want ⟨ws, false⟩ 3 t) := iWantT (tk_is hw ht hc)
theorem tk_key {ws : List Word_} (hw : vW ws) {t : Str} (ht : keyB t = true) : tkW ws 4 t = isT ws t := by
  cases ws with
  | nil => rfl
  | cons w r =>
    unfold tkW isT
    by_cases h : w.text = t
    · have := key_kind (vW_head hw) (by rw [h]; exact ht)
      simp [h, this]
    · simp [h]
theorem iName {ws : List Word_} : ImO (nT ws) (pimpl_wordReader__name ⟨ws, false⟩) := by
  unfold pimpl_wordReader__name nT
  cases ws with
  | nil =>
    rw [next_nil]
    exact ⟨_, _, rfl⟩
  | cons w r =>
    rw [next_cons]
    by_cases hk : w.kind = 1
    · simp [hk, ImO]
    · simp [hk, ImO]
theorem iNameB (ws : List Word_) : ∃ x ws', pimpl_wordReader__name ⟨ws, true⟩ = some (x, ⟨ws', true⟩) := by
  unfold pimpl_wordReader__name
  cases ws with
  | nil => rw [next_nil]; exact ⟨_, _, rfl⟩
  | cons w r =>
    rw [next_cons]
    by_cases hk : w.kind = 1
    · exact ⟨w.text, r, by simp [hk]⟩
    · exact ⟨w.text, r, by simp [hk]⟩
theorem iExpr {ws : List Word_} (hv : vW ws) (hl : ws.length ≤ 1000) : ImO (rE ws) (pimpl_wordReader__expr ⟨ws, false⟩ 1) := by
  cases hr : rE ws with
  | some p => exact rd_impl (rE_some hr) hv hl
  | none => exact (rE_none hv hl hr).2
theorem iBlockB (ws : List Word_) : ∃ ws', pimpl_wordReader__block ⟨ws, true⟩ = some ([], ⟨ws', true⟩) := by
  obtain ⟨ws', h⟩ := iWantB ws 3 (mkS [123])
  refine ⟨ws', ?_⟩
  rw [pimpl_wordReader__block, h, Option.bind_some]
  exact bindt (bindt (loopM_inr rfl) rfl) rfl
end Prg
end Go.Wk
namespace Go.Wk
open Go
namespace Prg
set_option maxRecDepth 10000
noncomputable def pT (k : Nat) (op : Int) (nm : Str) (ws : List Word_) : Option (Stmt_ × List Word_) := (rE ws).bind fun a =>
    if op = 4 then (wT (mkS [44]) a.2).bind fun q => (rE q).bind fun b => (wT (mkS [59]) b.2).map fun r => (⟨4, nm, [a.1, b.1], [], []⟩, r)
    else if op = 5 then (pK k a.2).bind fun b => if isT b.2 tElse then (pK k b.2.tail).map fun c => (⟨5, nm, [a.1], b.1, c.1⟩, c.2) else some (⟨5, nm, [a.1], b.1, []⟩, b.2)
    else if op = 6 then (pK k a.2).map fun b => (⟨6, nm, [a.1], b.1, []⟩, b.2)
    else (wT (mkS [59]) a.2).map fun r => (⟨op, nm, [a.1], [], []⟩, r)
theorem pS_eq (k : Nat) (ws : List Word_) : pS (k + 1) ws = (headS ws).bind fun h => pT k h.1 h.2.1 h.2.2 := by rw [pS]; rfl
noncomputable def tlS (list : List Word_) (s0_1 : Int) (s0_4 : Int × Str) : Option (Stmt_ × l3Reader) :=
  Option.bind (pspec_l3Reader__expr (⟨list, s0_4.1⟩ : l3Reader)) fun r0_1 => Option.bind (if decide (s0_1 = 5) then Option.bind (pspec_l3Reader__block (⟨list, r0_1.2.at_⟩ : l3Reader)) fun r1_3 => Option.bind (pspec_l3Reader__is (⟨list, r1_3.2.at_⟩ : l3Reader) (mkS [101, 108, 115, 101])) fun r1_4 => Option.bind (if r1_4 then Option.bind (pspec_l3Reader__want (⟨list, r1_3.2.at_⟩ : l3Reader) (mkS [101, 108, 115, 101])) fun r2_1 => Option.bind (pspec_l3Reader__block (⟨list, r2_1.at_⟩ : l3Reader)) fun r2_2 => some (r2_2.1, r2_2.2.at_) else some ([], r1_3.2.at_) : Option ((List Stmt_) × Int)) fun s1_1 => some (.inr ((⟨s0_1, s0_4.2, ([r0_1.1] : List Expr_), r1_3.1, s1_1.1⟩ : Stmt_), (⟨list, s1_1.2⟩ : l3Reader))) else if decide (s0_1 = 6) then Option.bind (pspec_l3Reader__block (⟨list, r0_1.2.at_⟩ : l3Reader)) fun r1_5 => some (.inr ((⟨s0_1, s0_4.2, ([r0_1.1] : List Expr_), r1_5.1, []⟩ : Stmt_), (⟨list, r1_5.2.at_⟩ : l3Reader))) else Option.bind (if decide (s0_1 = 4) then Option.bind (pspec_l3Reader__want (⟨list, r0_1.2.at_⟩ : l3Reader) (mkS [44])) fun r2_3 => Option.bind (pspec_l3Reader__expr (⟨list, r2_3.at_⟩ : l3Reader)) fun r2_4 => Option.bind (appM ([r0_1.1] : List Expr_) ([r2_4.1] : List Expr_)) fun ys2_1 => some (r2_4.2.at_, ys2_1) else some (r0_1.2.at_, ([r0_1.1] : List Expr_)) : Option (Int × (List Expr_))) fun s1_2 => some (.inl (s1_2.1, s1_2.2)) : Option ((Int × (List Expr_)) ⊕ (Stmt_ × l3Reader))) (Sum.elim (fun s0_5 => Option.bind (pspec_l3Reader__want (⟨list, s0_5.1⟩ : l3Reader) (mkS [59])) fun r0_2 => some ((⟨s0_1, s0_4.2, s0_5.2, [], []⟩ : Stmt_), (⟨list, r0_2.at_⟩ : l3Reader))) (fun e0 => some e0))
noncomputable def tlI (s0_1 : List Word_ × Bool × Int × Str) : Option (Stmt_ × wordReader) :=
  Option.bind (pimpl_wordReader__expr (⟨s0_1.1, s0_1.2.1⟩ : wordReader) 1) fun r0_2 => Option.bind (appM ([] : List Expr_) ([r0_2.1] : List Expr_)) fun ys0_1 => Option.bind (if decide (s0_1.2.2.1 = 4) then Option.bind (pimpl_wordReader__want r0_2.2 3 (mkS [44])) fun r1_1 => Option.bind (pimpl_wordReader__expr r1_1 1) fun r1_2 => Option.bind (appM ys0_1 ([r1_2.1] : List Expr_)) fun ys1_1 => some (r1_2.2.list, r1_2.2.bad, ys1_1) else some (r0_2.2.list, r0_2.2.bad, ys0_1) : Option ((List Word_) × Bool × (List Expr_))) fun s0_2 => Option.bind (Option.bind (if decide (s0_1.2.2.1 = 5) then some true else some (decide (s0_1.2.2.1 = 6)) : Option (Bool)) fun s1_3 => Option.bind (if s1_3 then Option.bind (pimpl_wordReader__block (⟨s0_2.1, s0_2.2.1⟩ : wordReader)) fun r2_2 => Option.bind (if decide (s0_1.2.2.1 = 5) then Option.bind (pimpl_wordReader__take r2_2.2 4 (mkS [101, 108, 115, 101])) fun r3_3 => some (r3_3.2.list, r3_3.2.bad, r3_3.1) else some (r2_2.2.list, r2_2.2.bad, false) : Option ((List Word_) × Bool × Bool)) fun s2_2 => Option.bind (if s2_2.2.2 then Option.bind (pimpl_wordReader__block (⟨s2_2.1, s2_2.2.1⟩ : wordReader)) fun r3_4 => some (r3_4.1, r3_4.2.list, r3_4.2.bad) else some ([], s2_2.1, s2_2.2.1) : Option ((List Stmt_) × (List Word_) × Bool)) fun s2_3 => some (r2_2.1, s2_3.1, s2_3.2.1, s2_3.2.2) else Option.bind (pimpl_wordReader__want (⟨s0_2.1, s0_2.2.1⟩ : wordReader) 3 (mkS [59])) fun r2_3 => some ([], [], r2_3.list, r2_3.bad) : Option ((List Stmt_) × (List Stmt_) × (List Word_) × Bool)) fun s1_4 => some (s1_4.1, s1_4.2.1, s1_4.2.2.1, s1_4.2.2.2) : Option ((List Stmt_) × (List Stmt_) × (List Word_) × Bool)) fun s0_3 => some ((⟨s0_1.2.2.1, s0_1.2.2.2, s0_2.2.2, s0_3.1, s0_3.2.1⟩ : Stmt_), (⟨s0_3.2.2.1, s0_3.2.2.2⟩ : wordReader))
theorem app1 {α : Type} (x : α) : appM ([] : List α) [x] = some [x] := appM_ok (by simp)
theorem app2 {α : Type} (x y : α) : appM [x] [y] = some [x, y] := appM_ok (by simp)
theorem tlS_bad (list : List Word_) (op : Int) (nm : Str) : ∃ x, tlS list op (-1, nm) = some (x, ⟨list, -1⟩) := by
  unfold tlS
  rw [sExprB, Option.bind_some]
  dsimp only
  by_cases h5 : op = 5
  · rw [if_pos (decide_eq_true h5), sBlockB, Option.bind_some]
    dsimp only
    rw [sIsB]
    exact ⟨_, rfl⟩
  rw [if_neg (show ¬ decide (op = 5) = true by simpa using h5)]
  by_cases h6 : op = 6
  · rw [if_pos (decide_eq_true h6), sBlockB]
    exact ⟨_, rfl⟩
  rw [if_neg (show ¬ decide (op = 6) = true by simpa using h6)]
  by_cases h4 : op = 4
  · rw [if_pos (decide_eq_true h4), sWantB, Option.bind_some]
    dsimp only
    rw [sExprB, Option.bind_some]
    dsimp only
    rw [app2]
    simp only [Option.bind_some, Sum.elim_inl]
    rw [sWantB]
    exact ⟨_, rfl⟩
  · rw [if_neg (show ¬ decide (op = 4) = true by simpa using h4)]
    simp only [Option.bind_some, Sum.elim_inl]
    rw [sWantB]
    exact ⟨_, rfl⟩
def OkS (k : Nat) (ws : List Word_) : Prop := ∀ list (n : Nat), list.length ≤ 1000 → vW list → AtW list n ws → SpO list (pK k ws) (pspec_l3Reader__block ⟨list, (n : Int)⟩)
theorem tlS_ok {k : Nat} {list : List Word_} (hl : list.length ≤ 1000) (hv : vW list) {op : Int} {nm : Str} {n : Nat} {ws : List Word_} (ha : AtW list n ws) (hk : ∀ r, SufS r ws → OkS k r) : SpO list (pT k op nm ws) (tlS list op ((n : Int), nm)) := by
  unfold tlS pT
  have h1 := sExpr hl hv ha
  cases hq1 : rE ws with
  | none =>
    rw [hq1] at h1
    obtain ⟨e, h1⟩ := h1
    have h2 := tlS_bad list op nm
    obtain ⟨x, h2⟩ := h2
    show ∃ x, _
    unfold tlS at h2
    rw [sExprB, Option.bind_some] at h2
    dsimp only at h1 h2 ⊢
    rw [h1, Option.bind_some]
    dsimp only
    by_cases h5 : op = 5
    · rw [if_pos (decide_eq_true h5), sBlockB, Option.bind_some]
      dsimp only
      rw [sIsB]
      exact ⟨_, rfl⟩
    rw [if_neg (show ¬ decide (op = 5) = true by simpa using h5)]
    by_cases h6 : op = 6
    · rw [if_pos (decide_eq_true h6), sBlockB]
      exact ⟨_, rfl⟩
    rw [if_neg (show ¬ decide (op = 6) = true by simpa using h6)]
    by_cases h4 : op = 4
    · rw [if_pos (decide_eq_true h4), sWantB, Option.bind_some]
      dsimp only
      rw [sExprB, Option.bind_some]
      dsimp only
      rw [app2]
      simp only [Option.bind_some, Sum.elim_inl]
      rw [sWantB]
      exact ⟨_, rfl⟩
    · rw [if_neg (show ¬ decide (op = 4) = true by simpa using h4)]
      simp only [Option.bind_some, Sum.elim_inl]
      rw [sWantB]
      exact ⟨_, rfl⟩
  | some a =>
    obtain ⟨e, q⟩ := a
    rw [hq1] at h1
    obtain ⟨m, a1, h1⟩ := h1
    have su := rE_suf hq1
    dsimp only at h1 a1 ⊢
    rw [h1, Option.bind_some, Option.bind_some]
    dsimp only
    by_cases h4 : op = 4
    · rw [if_pos h4, if_neg (show ¬ decide (op = 5) = true by simp [h4]), if_neg (show ¬ decide (op = 6) = true by simp [h4]), if_pos (decide_eq_true h4)]
      have h2 := sWant hl a1 (mkS [44])
      cases hq2 : wT (mkS [44]) q with
      | none =>
        rw [hq2] at h2
        rw [show pspec_l3Reader__want ⟨list, (m : Int)⟩ (mkS [44]) = some ⟨list, -1⟩ from h2, Option.bind_some]
        dsimp only
        rw [sExprB, Option.bind_some]
        dsimp only
        rw [app2]
        simp only [Option.bind_some, Sum.elim_inl, Option.bind_none]
        rw [sWantB]
        exact ⟨_, rfl⟩
      | some q2 =>
        rw [hq2] at h2
        obtain ⟨m2, a2, h2⟩ := h2
        rw [h2, Option.bind_some, Option.bind_some]
        dsimp only
        have h3 := sExpr hl hv a2
        cases hq3 : rE q2 with
        | none =>
          rw [hq3] at h3
          obtain ⟨e2, h3⟩ := h3
          rw [h3, Option.bind_some]
          dsimp only
          rw [app2]
          simp only [Option.bind_some, Sum.elim_inl, Option.bind_none]
          rw [sWantB]
          exact ⟨_, rfl⟩
        | some b =>
          rw [hq3] at h3
          obtain ⟨m3, a3, h3⟩ := h3
          rw [h3, Option.bind_some, Option.bind_some]
          dsimp only
          rw [app2]
          simp only [Option.bind_some, Sum.elim_inl]
          have h5 := sWant hl a3 (mkS [59])
          cases hq4 : wT (mkS [59]) b.2 with
          | none =>
            rw [hq4] at h5
            rw [show pspec_l3Reader__want ⟨list, (m3 : Int)⟩ (mkS [59]) = some ⟨list, -1⟩ from h5]
            exact ⟨_, rfl⟩
          | some q4 =>
            rw [hq4] at h5
            obtain ⟨m4, a4, h5⟩ := h5
            rw [h5]
            exact ⟨m4, a4, by rw [h4]; rfl⟩
    rw [if_neg h4]
    by_cases h5 : op = 5
    · rw [if_pos h5, if_pos (decide_eq_true h5)]
      have h2 := hk q su list m hl hv a1
      cases hq2 : pK k q with
      | none =>
        rw [hq2] at h2
        obtain ⟨b, h2⟩ := h2
        rw [h2, Option.bind_some]
        dsimp only
        rw [sIsB]
        exact ⟨_, rfl⟩
      | some b =>
        rw [hq2] at h2
        obtain ⟨m2, a2, h2⟩ := h2
        have su2 := (pSK_suf k).2.1 _ _ _ hq2
        rw [h2, Option.bind_some, Option.bind_some]
        dsimp only
        rw [sIs a2, Option.bind_some]
        show SpO list (if isT b.2 (mkS [101, 108, 115, 101]) = true then _ else _) _
        cases ht : isT b.2 (mkS [101, 108, 115, 101]) with
        | false =>
          simp only [Bool.false_eq_true, if_false, Option.bind_some, Sum.elim_inr]
          exact ⟨m2, a2, by rw [h5]⟩
        | true =>
          simp only [if_true]
          have h3 := sWant hl a2 (mkS [101, 108, 115, 101])
          have hw : wT (mkS [101, 108, 115, 101]) b.2 = some b.2.tail := by unfold wT; rw [ht]; rfl
          rw [hw] at h3
          obtain ⟨m3, a3, h3⟩ := h3
          rw [h3, Option.bind_some]
          dsimp only
          have su3 := wT_suf hw
          have h6 := hk b.2.tail (SufS.trans su3.le (SufS.trans su2.le su)) list m3 hl hv a3
          cases hq3 : pK k b.2.tail with
          | none =>
            rw [hq3] at h6
            obtain ⟨c, h6⟩ := h6
            rw [h6]
            exact ⟨_, rfl⟩
          | some c =>
            rw [hq3] at h6
            obtain ⟨m4, a4, h6⟩ := h6
            rw [h6]
            exact ⟨m4, a4, by rw [h5]; rfl⟩
    rw [if_neg h5, if_neg (show ¬ decide (op = 5) = true by simpa using h5)]
    by_cases h6 : op = 6
    · rw [if_pos h6, if_pos (decide_eq_true h6)]
      have h2 := hk q su list m hl hv a1
      cases hq2 : pK k q with
      | none =>
        rw [hq2] at h2
        obtain ⟨b, h2⟩ := h2
        rw [h2]
        exact ⟨_, rfl⟩
      | some b =>
        rw [hq2] at h2
        obtain ⟨m2, a2, h2⟩ := h2
        rw [h2]
        exact ⟨m2, a2, by rw [h6]; rfl⟩
    rw [if_neg h6, if_neg (show ¬ decide (op = 6) = true by simpa using h6), if_neg (show ¬ decide (op = 4) = true by simpa using h4)]
    simp only [Option.bind_some, Sum.elim_inl]
    have h2 := sWant hl a1 (mkS [59])
    cases hq2 : wT (mkS [59]) q with
    | none =>
      rw [hq2] at h2
      rw [show pspec_l3Reader__want ⟨list, (m : Int)⟩ (mkS [59]) = some ⟨list, -1⟩ from h2]
      exact ⟨_, rfl⟩
    | some q2 =>
      rw [hq2] at h2
      obtain ⟨m2, a2, h2⟩ := h2
      rw [h2]
      exact ⟨m2, a2, rfl⟩
theorem stmtS_ok {k : Nat} {list : List Word_} (hl : list.length ≤ 1000) (hv : vW list) {n : Nat} {ws : List Word_} (ha : AtW list n ws) (hk : ∀ r, SufS r ws → OkS k r) : SpO list (pS (k + 1) ws) (pspec_l3Reader__stmt ⟨list, (n : Int)⟩) := by
  rw [pspec_l3Reader__stmt, pS_eq]
  have hle := ha.2
  dsimp only
  cases ws with
  | nil =>
    have := at_nil ha
    rw [if_pos (by simp; omega)]
    exact ⟨_, rfl⟩
  | cons w r =>
    obtain ⟨h1, h2, h3⟩ := at_cons ha
    rw [if_neg (by simp; omega), h2, Option.bind_some, l3Op_ok, Option.bind_some, Option.bind_some]
    have hsr : SufS r (w :: r) := suf_tail w r
    by_cases h0 : opK w.text = 0
    · rw [h0]
      simp only [if_true, ne_eq, not_true_eq_false, decide_false, Bool.false_eq_true, if_false, Option.bind_some, show decide ((2 : Int) = 1) = false from rfl, decide_true]
      have h4 := sName hl ha
      by_cases hw : w.kind = 1
      · have hn : nT (w :: r) = some (w.text, r) := by simp [nT, hw]
        rw [hn] at h4
        obtain ⟨m, a1, h4⟩ := h4
        rw [h4, Option.bind_some]
        dsimp only at a1 ⊢
        have h5 := sWant hl a1 (mkS [61])
        cases hq : wT (mkS [61]) r with
        | none =>
          rw [hq] at h5
          have hh : headS (w :: r) = none := by simp [headS, h0, hw, hq]
          rw [show pspec_l3Reader__want ⟨list, (m : Int)⟩ (mkS [61]) = some ⟨list, -1⟩ from h5, hh]
          exact tlS_bad list 2 w.text
        | some q =>
          rw [hq] at h5
          obtain ⟨m2, a2, h5⟩ := h5
          have hh : headS (w :: r) = some (2, w.text, q) := by simp [headS, h0, hw, hq]
          rw [h5, hh]
          exact tlS_ok hl hv a2 fun x hx => hk x (SufS.trans hx.le (SufS.trans (wT_suf hq).le hsr))
      · have hn : nT (w :: r) = none := by simp [nT, hw]
        rw [hn] at h4
        obtain ⟨x, h4⟩ := h4
        have hh : headS (w :: r) = none := by simp [headS, h0, hw]
        rw [h4, Option.bind_some]
        dsimp only
        rw [sWantB, hh]
        exact tlS_bad list 2 x
    · by_cases hl1 : opK w.text = 1
      · rw [hl1]
        simp only [show ((1 : Int) = 0) = False from by simp, if_false, ne_eq, show ((1 : Int) = 2) = False from by simp, not_false_eq_true, decide_true, if_true, Option.bind_some]
        rw [w64_1 (by omega)]
        have h4 := sName hl h3
        cases hn : nT r with
        | none =>
          rw [hn] at h4
          obtain ⟨x, h4⟩ := h4
          have hh : headS (w :: r) = none := by simp [headS, hl1, hn]
          rw [h4, Option.bind_some]
          dsimp only
          rw [sWantB, hh]
          exact tlS_bad list 1 x
        | some p =>
          rw [hn] at h4
          obtain ⟨m, a1, h4⟩ := h4
          rw [h4, Option.bind_some]
          dsimp only
          have h5 := sWant hl a1 (mkS [61])
          cases hq : wT (mkS [61]) p.2 with
          | none =>
            rw [hq] at h5
            have hh : headS (w :: r) = none := by simp [headS, hl1, hn, hq]
            rw [show pspec_l3Reader__want ⟨list, (m : Int)⟩ (mkS [61]) = some ⟨list, -1⟩ from h5, hh]
            exact tlS_bad list 1 p.1
          | some q =>
            rw [hq] at h5
            obtain ⟨m2, a2, h5⟩ := h5
            have hh : headS (w :: r) = some (1, p.1, q) := by simp [headS, hl1, hn, hq]
            rw [h5, hh]
            exact tlS_ok hl hv a2 fun x hx => hk x (SufS.trans hx.le (SufS.trans ((wT_suf hq).le.trans (nT_suf (n := p.1) (q := p.2) hn).le) hsr))
      · have h2' : opK w.text ≠ 2 := by
          have := opK_range w.text
          omega
        have hh : headS (w :: r) = some (opK w.text, mkS [], r) := by simp [headS, h0, hl1]
        rw [if_neg h0, if_pos (by simpa using h2'), Option.bind_some, if_neg (by simpa using hl1), Option.bind_some, if_neg (by simpa using h2'), w64_1 (by omega), hh]
        exact tlS_ok hl hv h3 fun x hx => hk x (SufS.trans hx.le hsr)
end Prg
end Go.Wk
namespace Go.Wk
open Go
namespace Prg
set_option maxRecDepth 10000
theorem tlI_bad (ws : List Word_) (op : Int) (nm : Str) : ∃ x ws', tlI (ws, true, op, nm) = some (x, ⟨ws', true⟩) := by
  unfold tlI
  obtain ⟨e, ws1, h1⟩ := expr_bad 1 (by omega) ws
  dsimp only
  rw [h1, Option.bind_some, app1, Option.bind_some]
  dsimp only
  by_cases h4 : op = 4
  · obtain ⟨ws2, h2⟩ := iWantB ws1 3 (mkS [44])
    obtain ⟨e2, ws3, h3⟩ := expr_bad 1 (by omega) ws2
    obtain ⟨ws4, h5⟩ := iWantB ws3 3 (mkS [59])
    rw [if_pos (decide_eq_true h4), h2, Option.bind_some, h3, Option.bind_some, app2]
    simp only [Option.bind_some]
    rw [if_neg (show ¬ decide (op = 5) = true by simp [h4])]
    simp only [Option.bind_some]
    rw [if_neg (show ¬ decide (op = 6) = true by simp [h4]), h5]
    exact ⟨_, _, rfl⟩
  rw [if_neg (show ¬ decide (op = 4) = true by simpa using h4)]
  simp only [Option.bind_some]
  by_cases h5 : op = 5
  · obtain ⟨ws2, h2⟩ := iBlockB ws1
    rw [if_pos (decide_eq_true h5)]
    simp only [Option.bind_some, if_true]
    rw [h2, Option.bind_some, if_pos (decide_eq_true h5)]
    dsimp only
    rw [take_ok, Option.bind_some, Option.bind_some]
    dsimp only
    cases tkW ws2 4 (mkS [101, 108, 115, 101]) with
    | false => exact ⟨_, _, rfl⟩
    | true =>
      obtain ⟨ws3, h3⟩ := iBlockB ws2.tail
      simp only [if_true]
      rw [h3]
      exact ⟨_, _, rfl⟩
  rw [if_neg (show ¬ decide (op = 5) = true by simpa using h5)]
  simp only [Option.bind_some]
  by_cases h6 : op = 6
  · obtain ⟨ws2, h2⟩ := iBlockB ws1
    rw [if_pos (decide_eq_true h6)]
    rw [h2, Option.bind_some, if_neg (show ¬ decide (op = 5) = true by simpa using h5)]
    exact ⟨_, _, rfl⟩
  · obtain ⟨ws2, h2⟩ := iWantB ws1 3 (mkS [59])
    rw [if_neg (show ¬ decide (op = 6) = true by simpa using h6), h2]
    exact ⟨_, _, rfl⟩
def OkI (k : Nat) (ws : List Word_) : Prop := ImO (pK k ws) (pimpl_wordReader__block ⟨ws, false⟩)
theorem tlI_ok {k : Nat} {op : Int} {nm : Str} {ws : List Word_} (hv : vW ws) (hl : ws.length ≤ 1000) (hk : ∀ r, SufS r ws → OkI k r) : ImO (pT k op nm ws) (tlI (ws, false, op, nm)) := by
  unfold tlI pT
  have h1 := iExpr hv hl
  cases hq1 : rE ws with
  | none =>
    rw [hq1] at h1
    obtain ⟨e, ws1, h1⟩ := h1
    have hb := tlI_bad ws1 op nm
    show ∃ x ws', _
    dsimp only
    rw [h1, Option.bind_some, app1, Option.bind_some]
    dsimp only
    by_cases h4 : op = 4
    · obtain ⟨ws2, h2⟩ := iWantB ws1 3 (mkS [44])
      obtain ⟨e2, ws3, h3⟩ := expr_bad 1 (by omega) ws2
      obtain ⟨ws4, h5⟩ := iWantB ws3 3 (mkS [59])
      rw [if_pos (decide_eq_true h4), h2, Option.bind_some, h3, Option.bind_some, app2]
      simp only [Option.bind_some]
      rw [if_neg (show ¬ decide (op = 5) = true by simp [h4])]
      simp only [Option.bind_some]
      rw [if_neg (show ¬ decide (op = 6) = true by simp [h4]), h5]
      exact ⟨_, _, rfl⟩
    rw [if_neg (show ¬ decide (op = 4) = true by simpa using h4)]
    simp only [Option.bind_some]
    by_cases h5 : op = 5
    · obtain ⟨ws2, h2⟩ := iBlockB ws1
      rw [if_pos (decide_eq_true h5)]
      simp only [Option.bind_some, if_true]
      rw [h2, Option.bind_some, if_pos (decide_eq_true h5)]
      dsimp only
      rw [take_ok, Option.bind_some, Option.bind_some]
      dsimp only
      cases tkW ws2 4 (mkS [101, 108, 115, 101]) with
      | false => exact ⟨_, _, rfl⟩
      | true =>
        obtain ⟨ws3, h3⟩ := iBlockB ws2.tail
        simp only [if_true]
        rw [h3]
        exact ⟨_, _, rfl⟩
    rw [if_neg (show ¬ decide (op = 5) = true by simpa using h5)]
    simp only [Option.bind_some]
    by_cases h6 : op = 6
    · obtain ⟨ws2, h2⟩ := iBlockB ws1
      rw [if_pos (decide_eq_true h6)]
      rw [h2, Option.bind_some, if_neg (show ¬ decide (op = 5) = true by simpa using h5)]
      exact ⟨_, _, rfl⟩
    · obtain ⟨ws2, h2⟩ := iWantB ws1 3 (mkS [59])
      rw [if_neg (show ¬ decide (op = 6) = true by simpa using h6), h2]
      exact ⟨_, _, rfl⟩
  | some a =>
    obtain ⟨e, q⟩ := a
    rw [hq1] at h1
    have su := rE_suf hq1
    have hvq := su.le.vW hv
    replace h1 : pimpl_wordReader__expr ⟨ws, false⟩ 1 = some (e, ⟨q, false⟩) := h1
    dsimp only
    rw [h1, Option.bind_some, Option.bind_some, app1, Option.bind_some]
    dsimp only
    by_cases h4 : op = 4
    · rw [if_pos h4, if_pos (decide_eq_true h4)]
      have h2 := iWant hvq (t := mkS [44]) rfl (by decide)
      cases hq2 : wT (mkS [44]) q with
      | none =>
        rw [hq2] at h2
        obtain ⟨ws2, h2⟩ := h2
        obtain ⟨e2, ws3, h3⟩ := expr_bad 1 (by omega) ws2
        obtain ⟨ws4, h5⟩ := iWantB ws3 3 (mkS [59])
        rw [h2, Option.bind_some, h3, Option.bind_some, app2]
        simp only [Option.bind_some, Option.bind_none]
        rw [if_neg (show ¬ decide (op = 5) = true by simp [h4])]
        simp only [Option.bind_some]
        rw [if_neg (show ¬ decide (op = 6) = true by simp [h4]), h5]
        exact ⟨_, _, rfl⟩
      | some q2 =>
        rw [hq2] at h2
        have su2 := wT_suf hq2
        have hv2 := su2.le.vW hvq
        replace h2 : pimpl_wordReader__want ⟨q, false⟩ 3 (mkS [44]) = some ⟨q2, false⟩ := h2
        rw [h2, Option.bind_some, Option.bind_some]
        have h3 := iExpr hv2 (by have := su.1; have := su2.1; omega)
        cases hq3 : rE q2 with
        | none =>
          rw [hq3] at h3
          obtain ⟨e2, ws3, h3⟩ := h3
          obtain ⟨ws4, h5⟩ := iWantB ws3 3 (mkS [59])
          rw [h3, Option.bind_some, app2]
          simp only [Option.bind_some, Option.bind_none]
          rw [if_neg (show ¬ decide (op = 5) = true by simp [h4])]
          simp only [Option.bind_some]
          rw [if_neg (show ¬ decide (op = 6) = true by simp [h4]), h5]
          exact ⟨_, _, rfl⟩
        | some b =>
          obtain ⟨e2, q3⟩ := b
          rw [hq3] at h3
          have su3 := rE_suf hq3
          have hv3 := su3.le.vW hv2
          replace h3 : pimpl_wordReader__expr ⟨q2, false⟩ 1 = some (e2, ⟨q3, false⟩) := h3
          rw [h3, Option.bind_some, Option.bind_some, app2]
          simp only [Option.bind_some]
          rw [if_neg (show ¬ decide (op = 5) = true by simp [h4])]
          simp only [Option.bind_some]
          rw [if_neg (show ¬ decide (op = 6) = true by simp [h4])]
          have h5 := iWant hv3 (t := mkS [59]) rfl (by decide)
          cases hq4 : wT (mkS [59]) q3 with
          | none =>
            rw [hq4] at h5
            obtain ⟨ws5, h5⟩ := h5
            rw [h5]
            exact ⟨_, _, rfl⟩
          | some q4 =>
            rw [hq4] at h5
            replace h5 : pimpl_wordReader__want ⟨q3, false⟩ 3 (mkS [59]) = some ⟨q4, false⟩ := h5
            rw [h5, h4]
            rfl
    rw [if_neg h4, if_neg (show ¬ decide (op = 4) = true by simpa using h4)]
    simp only [Option.bind_some]
    by_cases h5 : op = 5
    · rw [if_pos h5, if_pos (decide_eq_true h5)]
      simp only [Option.bind_some, if_true]
      have h2 := hk q su
      unfold OkI at h2
      cases hq2 : pK k q with
      | none =>
        rw [hq2] at h2
        obtain ⟨b, ws2, h2⟩ := h2
        rw [h2, Option.bind_some, if_pos (decide_eq_true h5)]
        dsimp only
        rw [take_ok, Option.bind_some, Option.bind_some]
        dsimp only
        cases tkW ws2 4 (mkS [101, 108, 115, 101]) with
        | false => exact ⟨_, _, rfl⟩
        | true =>
          obtain ⟨ws3, h3⟩ := iBlockB ws2.tail
          simp only [if_true]
          rw [h3]
          exact ⟨_, _, rfl⟩
      | some b =>
        obtain ⟨b, q2⟩ := b
        rw [hq2] at h2
        have su2 := (pSK_suf k).2.1 _ _ _ hq2
        have hv2 := su2.le.vW hvq
        replace h2 : pimpl_wordReader__block ⟨q, false⟩ = some (b, ⟨q2, false⟩) := h2
        rw [h2, Option.bind_some, Option.bind_some, if_pos (decide_eq_true h5)]
        dsimp only
        rw [take_ok, Option.bind_some, Option.bind_some]
        dsimp only
        rw [tk_key hv2 (t := mkS [101, 108, 115, 101]) (by decide)]
        show ImO (if isT q2 (mkS [101, 108, 115, 101]) = true then _ else _) _
        cases ht : isT q2 (mkS [101, 108, 115, 101]) with
        | false =>
          simp only [Bool.false_eq_true, if_false, Option.bind_some]
          rw [h5]
          rfl
        | true =>
          have hw : wT (mkS [101, 108, 115, 101]) q2 = some q2.tail := by unfold wT; rw [ht]; rfl
          have su3 := wT_suf hw
          have h6 := hk q2.tail (SufS.trans su3.le (SufS.trans su2.le su))
          unfold OkI at h6
          simp only [if_true]
          cases hq3 : pK k q2.tail with
          | none =>
            rw [hq3] at h6
            obtain ⟨c, ws3, h6⟩ := h6
            rw [h6]
            exact ⟨_, _, rfl⟩
          | some c =>
            rw [hq3] at h6
            replace h6 : pimpl_wordReader__block ⟨q2.tail, false⟩ = some (c.1, ⟨c.2, false⟩) := h6
            rw [h6, h5]
            rfl
    rw [if_neg h5, if_neg (show ¬ decide (op = 5) = true by simpa using h5)]
    simp only [Option.bind_some]
    by_cases h6 : op = 6
    · rw [if_pos h6, if_pos (decide_eq_true h6)]
      have h2 := hk q su
      unfold OkI at h2
      cases hq2 : pK k q with
      | none =>
        rw [hq2] at h2
        obtain ⟨b, ws2, h2⟩ := h2
        rw [h2, Option.bind_some, if_neg (show ¬ decide (op = 5) = true by simpa using h5)]
        exact ⟨_, _, rfl⟩
      | some b =>
        obtain ⟨b, q2⟩ := b
        rw [hq2] at h2
        replace h2 : pimpl_wordReader__block ⟨q, false⟩ = some (b, ⟨q2, false⟩) := h2
        rw [h2, Option.bind_some, if_neg (show ¬ decide (op = 5) = true by simpa using h5), h6]
        rfl
    rw [if_neg h6, if_neg (show ¬ decide (op = 6) = true by simpa using h6)]
    have h2 := iWant hvq (t := mkS [59]) rfl (by decide)
    cases hq2 : wT (mkS [59]) q with
    | none =>
      rw [hq2] at h2
      obtain ⟨ws2, h2⟩ := h2
      rw [h2]
      exact ⟨_, _, rfl⟩
    | some q2 =>
      rw [hq2] at h2
      replace h2 : pimpl_wordReader__want ⟨q, false⟩ 3 (mkS [59]) = some ⟨q2, false⟩ := h2
      rw [h2]
      rfl
theorem stmtI_eq (ws : List Word_) (b : Bool) : pimpl_wordReader__stmt ⟨ws, b⟩ = Option.bind (pimpl_wordReader__next ⟨ws, b⟩) fun r => Option.bind (if decide (r.1.kind = 4) then some (decide (0 < opK r.1.text)) else some false : Option Bool) fun s => Option.bind (if s then Option.bind (if decide (opK r.1.text = 1) then Option.bind (pimpl_wordReader__name r.2) fun p => Option.bind (pimpl_wordReader__want p.2 3 (mkS [61])) fun q => some (q.list, q.bad, p.1) else some (r.2.list, r.2.bad, mkS []) : Option (List Word_ × Bool × Str)) fun u => some (.inl (u.1, u.2.1, opK r.1.text, u.2.2))
    else if decide (r.1.kind = 1) then Option.bind (pimpl_wordReader__want r.2 3 (mkS [61])) fun q => some (.inl (q.list, q.bad, 2, r.1.text)) else some (.inr ((⟨2, r.1.text, [], [], []⟩ : Stmt_), (⟨r.2.list, true⟩ : wordReader))) : Option ((List Word_ × Bool × Int × Str) ⊕ (Stmt_ × wordReader))) (Sum.elim tlI some) := by
  rw [pimpl_wordReader__stmt]
  simp only [keys_get]
  refine congrArg (Option.bind _) (funext fun r => ?_)
  cases (if decide (r.1.kind = 4) then some (decide (0 < opK r.1.text)) else some false : Option Bool) with
  | none => rfl
  | some s =>
    simp only [Option.bind_some]
    cases (if s = true then Option.bind (if decide (opK r.1.text = 1) then Option.bind (pimpl_wordReader__name r.2) fun p => Option.bind (pimpl_wordReader__want p.2 3 (mkS [61])) fun q => some (q.list, q.bad, p.1) else some (r.2.list, r.2.bad, mkS []) : Option (List Word_ × Bool × Str)) fun u => some (.inl (u.1, u.2.1, opK r.1.text, u.2.2))
      else if decide (r.1.kind = 1) then Option.bind (pimpl_wordReader__want r.2 3 (mkS [61])) fun q => some (.inl (q.list, q.bad, 2, r.1.text)) else some (.inr ((⟨2, r.1.text, [], [], []⟩ : Stmt_), (⟨r.2.list, true⟩ : wordReader))) : Option ((List Word_ × Bool × Int × Str) ⊕ (Stmt_ × wordReader))) with
    | none => rfl
    | some z => cases z <;> rfl
theorem stmtI_ok {k : Nat} {ws : List Word_} (hv : vW ws) (hl : ws.length ≤ 1000) (hk : ∀ r, SufS r ws → OkI k r) : ImO (pS (k + 1) ws) (pimpl_wordReader__stmt ⟨ws, false⟩) := by
  rw [stmtI_eq, pS_eq]
  cases ws with
  | nil =>
    rw [next_nil]
    exact ⟨_, _, rfl⟩
  | cons w r =>
    have hsr : SufS r (w :: r) := suf_tail w r
    have hvr := hsr.le.vW hv
    have hlr : r.length ≤ 1000 := by have := hsr.1; omega
    rw [next_cons, Option.bind_some]
    dsimp only
    by_cases h0 : opK w.text = 0
    · have e1 : (if decide (w.kind = 4) = true then some (decide (0 < opK w.text)) else some false : Option Bool) = some false := by
        rw [h0]; cases decide (w.kind = 4) <;> rfl
      rw [e1, Option.bind_some]
      simp only [Bool.false_eq_true, if_false]
      by_cases hw : w.kind = 1
      · rw [if_pos (decide_eq_true hw)]
        have h5 := iWant hvr (t := mkS [61]) rfl (by decide)
        cases hq : wT (mkS [61]) r with
        | none =>
          rw [hq] at h5
          obtain ⟨ws2, h5⟩ := h5
          have hh : headS (w :: r) = none := by simp [headS, h0, hw, hq]
          rw [h5, hh]
          exact tlI_bad ws2 2 w.text
        | some q =>
          rw [hq] at h5
          replace h5 : pimpl_wordReader__want ⟨r, false⟩ 3 (mkS [61]) = some ⟨q, false⟩ := h5
          have hh : headS (w :: r) = some (2, w.text, q) := by simp [headS, h0, hw, hq]
          have su := wT_suf hq
          rw [h5, hh]
          exact tlI_ok (ws := q) (su.le.vW hvr) (by have := su.1; omega) fun x hx => hk x (SufS.trans hx.le (SufS.trans su.le hsr))
      · have hh : headS (w :: r) = none := by simp [headS, h0, hw]
        rw [if_neg (show ¬ decide (w.kind = 1) = true by simpa using hw), hh]
        exact ⟨_, _, rfl⟩
    · have hk4 : w.kind = 4 := key_kind (vW_head hv) (opK_key h0)
      have hpos : 0 < opK w.text := by have := opK_range w.text; omega
      rw [if_pos (decide_eq_true hk4), Option.bind_some, if_pos (decide_eq_true hpos)]
      by_cases hl1 : opK w.text = 1
      · rw [if_pos (decide_eq_true hl1)]
        have h4 := iName (ws := r)
        cases hn : nT r with
        | none =>
          rw [hn] at h4
          obtain ⟨x, ws2, h4⟩ := h4
          obtain ⟨ws3, h5⟩ := iWantB ws2 3 (mkS [61])
          have hh : headS (w :: r) = none := by simp [headS, hl1, hn]
          rw [h4, Option.bind_some, h5, hh]
          exact tlI_bad ws3 _ x
        | some p =>
          obtain ⟨x, p⟩ := p
          rw [hn] at h4
          have su1 := nT_suf hn
          have hvp := su1.le.vW hvr
          replace h4 : pimpl_wordReader__name ⟨r, false⟩ = some (x, ⟨p, false⟩) := h4
          rw [h4, Option.bind_some]
          dsimp only
          have h5 := iWant hvp (t := mkS [61]) rfl (by decide)
          cases hq : wT (mkS [61]) p with
          | none =>
            rw [hq] at h5
            obtain ⟨ws2, h5⟩ := h5
            have hh : headS (w :: r) = none := by simp [headS, hl1, hn, hq]
            rw [h5, hh]
            exact tlI_bad ws2 _ x
          | some q =>
            rw [hq] at h5
            replace h5 : pimpl_wordReader__want ⟨p, false⟩ 3 (mkS [61]) = some ⟨q, false⟩ := h5
            have hh : headS (w :: r) = some (1, x, q) := by simp [headS, hl1, hn, hq]
            have su := wT_suf hq
            rw [h5, hh, hl1]
            exact tlI_ok (ws := q) (su.le.vW hvp) (by have := su.1; have := su1.1; omega) fun y hy => hk y (SufS.trans hy.le (SufS.trans (su.le.trans su1.le) hsr))
      · have hh : headS (w :: r) = some (opK w.text, mkS [], r) := by simp [headS, h0, hl1]
        rw [if_neg (show ¬ decide (opK w.text = 1) = true by simpa using hl1), hh]
        exact tlI_ok (ws := r) hvr hlr fun x hx => hk x (SufS.trans hx.le hsr)
theorem sim : ∀ k : Nat, (∀ ws, 2 * ws.length + 2 ≤ k → vW ws → ws.length ≤ 1000 → OkS k ws ∧ OkI k ws) ∧
    (∀ acc ws, 2 * ws.length + 3 ≤ k → vW ws → acc.length + ws.length ≤ 1000 →
      (∀ (r0 : l3Reader) (n : Nat), r0.list.length ≤ 1000 → vW r0.list → AtW r0.list n ws → match pB k acc ws with
        | some p => ∃ (m : Nat) (w : Word_), AtW r0.list m (w :: p.2) ∧ w.text = mkS [125] ∧ loopM (fun (xs2_1 : Int × (List Stmt_)) => (Option.bind (if decide (0 ≤ xs2_1.1) then Option.bind (pspec_l3Reader__is (⟨r0.list, xs2_1.1⟩ : l3Reader) (mkS [125])) fun r3_1 => some (!(r3_1)) else some false : Option (Bool)) fun s2_1 => if s2_1 then Option.bind (pspec_l3Reader__stmt (⟨r0.list, xs2_1.1⟩ : l3Reader)) fun r2_1 => Option.bind (appM xs2_1.2 ([r2_1.1] : List Stmt_)) fun ys2_1 => some (.inl (r2_1.2.at_, ys2_1)) else some (.inr (xs2_1.1, xs2_1.2)) : Option ((Int × (List Stmt_)) ⊕ (Int × (List Stmt_))))) ((n : Int), acc) = some ((m : Int), p.1)
        | none => ∃ acc', loopM (fun (xs2_1 : Int × (List Stmt_)) => (Option.bind (if decide (0 ≤ xs2_1.1) then Option.bind (pspec_l3Reader__is (⟨r0.list, xs2_1.1⟩ : l3Reader) (mkS [125])) fun r3_1 => some (!(r3_1)) else some false : Option (Bool)) fun s2_1 => if s2_1 then Option.bind (pspec_l3Reader__stmt (⟨r0.list, xs2_1.1⟩ : l3Reader)) fun r2_1 => Option.bind (appM xs2_1.2 ([r2_1.1] : List Stmt_)) fun ys2_1 => some (.inl (r2_1.2.at_, ys2_1)) else some (.inr (xs2_1.1, xs2_1.2)) : Option ((Int × (List Stmt_)) ⊕ (Int × (List Stmt_))))) ((n : Int), acc) = some (-1, acc')) ∧
      (match pB k acc ws with
        | some p => loopM (fun (xs2_1 : (List Word_) × Bool × (List Stmt_)) => (Option.bind (if !(xs2_1.2.1) then Option.bind (pimpl_wordReader__take (⟨xs2_1.1, xs2_1.2.1⟩ : wordReader) 3 (mkS [125])) fun r3_1 => some (r3_1.2.list, r3_1.2.bad, !(r3_1.1)) else some (xs2_1.1, xs2_1.2.1, false) : Option ((List Word_) × Bool × Bool)) fun s2_1 => if s2_1.2.2 then Option.bind (pimpl_wordReader__stmt (⟨s2_1.1, s2_1.2.1⟩ : wordReader)) fun r2_1 => Option.bind (appM xs2_1.2.2 ([r2_1.1] : List Stmt_)) fun ys2_1 => some (.inl (r2_1.2.list, r2_1.2.bad, ys2_1)) else some (.inr (xs2_1.2.2, s2_1.1, s2_1.2.1)) : Option (((List Word_) × Bool × (List Stmt_)) ⊕ ((List Stmt_) × (List Word_) × Bool)))) (ws, false, acc) = some (p.1, p.2, false)
        | none => ∃ acc' ws', loopM (fun (xs2_1 : (List Word_) × Bool × (List Stmt_)) => (Option.bind (if !(xs2_1.2.1) then Option.bind (pimpl_wordReader__take (⟨xs2_1.1, xs2_1.2.1⟩ : wordReader) 3 (mkS [125])) fun r3_1 => some (r3_1.2.list, r3_1.2.bad, !(r3_1.1)) else some (xs2_1.1, xs2_1.2.1, false) : Option ((List Word_) × Bool × Bool)) fun s2_1 => if s2_1.2.2 then Option.bind (pimpl_wordReader__stmt (⟨s2_1.1, s2_1.2.1⟩ : wordReader)) fun r2_1 => Option.bind (appM xs2_1.2.2 ([r2_1.1] : List Stmt_)) fun ys2_1 => some (.inl (r2_1.2.list, r2_1.2.bad, ys2_1)) else some (.inr (xs2_1.2.2, s2_1.1, s2_1.2.1)) : Option (((List Word_) × Bool × (List Stmt_)) ⊕ ((List Stmt_) × (List Word_) × Bool)))) (ws, false, acc) = some (acc', ws', true))) ∧
    (∀ ws, 2 * ws.length + 2 ≤ k → vW ws → ws.length ≤ 1000 → (∀ list (n : Nat), list.length ≤ 1000 → vW list → AtW list n ws → SpO list (pS k ws) (pspec_l3Reader__stmt ⟨list, (n : Int)⟩)) ∧ ImO (pS k ws) (pimpl_wordReader__stmt ⟨ws, false⟩)) := by
  intro k
  induction k with
  | zero => exact ⟨fun ws h => by omega, fun acc ws h => by omega, fun ws h => by omega⟩
  | succ k ih =>
    obtain ⟨ihK, ihB, ihS⟩ := ih
    refine ⟨fun ws hk hv hl => ⟨fun list n hll hvl ha => ?_, ?_⟩, fun acc ws hk hv hl => ⟨fun r0 n hll hvl ha => ?_, ?_⟩, fun ws hk hv hl => ⟨fun list n hll hvl ha => ?_, ?_⟩⟩
    ·
      rw [pspec_l3Reader__block, pK]
      have h1 := sWant hll ha (mkS [123])
      cases hq : wT (mkS [123]) ws with
      | none =>
        rw [hq] at h1
        rw [show pspec_l3Reader__want ⟨list, (n : Int)⟩ (mkS [123]) = some ⟨list, -1⟩ from h1, Option.bind_some]
        refine ⟨[], bindt (bindt (loopM_inr rfl) rfl) ?_⟩
        rw [sWantB]; rfl
      | some q =>
        rw [hq] at h1
        obtain ⟨m, a1, h1⟩ := h1
        have su := wT_suf hq
        have h2 := (ihB [] q (by have := su.1; omega) (su.le.vW hv) (by have := su.1; simp; omega)).1 ⟨list, (n : Int)⟩ m hll hvl a1
        rw [h1, Option.bind_some, Option.bind_some]
        cases hb : pB k [] q with
        | none =>
          rw [hb] at h2
          obtain ⟨acc', h2⟩ := h2
          refine ⟨acc', bindt (bindt h2 rfl) ?_⟩
          dsimp only
          rw [sWantB]; rfl
        | some p =>
          rw [hb] at h2
          obtain ⟨m2, w, a2, hw, h2⟩ := h2
          have h3 := sWant hll a2 (mkS [125])
          have hw2 : wT (mkS [125]) (w :: p.2) = some p.2 := by simp [wT, isT, hw]
          rw [hw2] at h3
          obtain ⟨m3, a3, h3⟩ := h3
          refine ⟨m3, a3, bindt (bindt h2 rfl) ?_⟩
          dsimp only
          rw [h3]; rfl
    ·
      unfold OkI
      rw [pimpl_wordReader__block, pK]
      have h1 := iWant hv (t := mkS [123]) rfl (by decide)
      cases hq : wT (mkS [123]) ws with
      | none =>
        rw [hq] at h1
        obtain ⟨ws', h1⟩ := h1
        rw [h1, Option.bind_some]
        exact ⟨[], ws', bindt (bindt (loopM_inr rfl) rfl) rfl⟩
      | some q =>
        rw [hq] at h1
        have su := wT_suf hq
        replace h1 : pimpl_wordReader__want ⟨ws, false⟩ 3 (mkS [123]) = some ⟨q, false⟩ := h1
        have h2 := (ihB [] q (by have := su.1; omega) (su.le.vW hv) (by have := su.1; simp; omega)).2
        rw [h1, Option.bind_some, Option.bind_some]
        cases hb : pB k [] q with
        | none =>
          rw [hb] at h2
          obtain ⟨acc', ws', h2⟩ := h2
          exact ⟨acc', ws', bindt (bindt h2 rfl) rfl⟩
        | some p =>
          rw [hb] at h2
          exact bindt (bindt h2 rfl) rfl
    ·
      rw [pB]
      have e0 : decide (0 ≤ (n : Int)) = true := by simp
      by_cases ht : isT ws (mkS [125]) = true
      · rw [if_pos ht]
        cases ws with
        | nil => cases ht
        | cons w r =>
          refine ⟨n, w, ha, by simpa [isT] using ht, loopM_inr ?_⟩
          dsimp only
          rw [if_pos e0, sIs ha, ht]; rfl
      · have ht : isT ws (mkS [125]) = false := by simpa using ht
        rw [if_neg (by simp [ht])]
        have h1 := (ihS ws (by omega) hv (by omega)).1 r0.list n hll hvl ha
        cases hs : pS k ws with
        | none =>
          rw [hs] at h1
          obtain ⟨s, h1⟩ := h1
          refine ⟨acc ++ [s], ?_⟩
          rw [loopM_inl (s' := (-1, acc ++ [s]))]
          · exact loopM_inr rfl
          dsimp only
          rw [if_pos e0, sIs ha, ht]
          simp only [Option.bind_some, Bool.not_false, if_true]
          rw [h1, Option.bind_some, appM_ok (show acc.length + [s].length ≤ 2147483648 by simp; omega)]; rfl
        | some p =>
          obtain ⟨s, q⟩ := p
          rw [hs] at h1
          obtain ⟨m, a1, h1⟩ := h1
          have su := (pSK_suf k).1 _ _ _ hs
          have h2 := (ihB (acc ++ [s]) q (by have := su.1; omega) (su.le.vW hv) (by have := su.1; simp; omega)).1 r0 m hll hvl a1
          rw [Option.bind_some]
          dsimp only
          have he : loopM (fun (xs2_1 : Int × (List Stmt_)) => (Option.bind (if decide (0 ≤ xs2_1.1) then Option.bind (pspec_l3Reader__is (⟨r0.list, xs2_1.1⟩ : l3Reader) (mkS [125])) fun r3_1 => some (!(r3_1)) else some false : Option (Bool)) fun s2_1 => if s2_1 then Option.bind (pspec_l3Reader__stmt (⟨r0.list, xs2_1.1⟩ : l3Reader)) fun r2_1 => Option.bind (appM xs2_1.2 ([r2_1.1] : List Stmt_)) fun ys2_1 => some (.inl (r2_1.2.at_, ys2_1)) else some (.inr (xs2_1.1, xs2_1.2)) : Option ((Int × (List Stmt_)) ⊕ (Int × (List Stmt_))))) ((n : Int), acc) = loopM (fun (xs2_1 : Int × (List Stmt_)) => (Option.bind (if decide (0 ≤ xs2_1.1) then Option.bind (pspec_l3Reader__is (⟨r0.list, xs2_1.1⟩ : l3Reader) (mkS [125])) fun r3_1 => some (!(r3_1)) else some false : Option (Bool)) fun s2_1 => if s2_1 then Option.bind (pspec_l3Reader__stmt (⟨r0.list, xs2_1.1⟩ : l3Reader)) fun r2_1 => Option.bind (appM xs2_1.2 ([r2_1.1] : List Stmt_)) fun ys2_1 => some (.inl (r2_1.2.at_, ys2_1)) else some (.inr (xs2_1.1, xs2_1.2)) : Option ((Int × (List Stmt_)) ⊕ (Int × (List Stmt_))))) ((m : Int), acc ++ [s]) := by
            refine loopM_inl ?_
            dsimp only
            rw [if_pos e0, sIs ha, ht]
            simp only [Option.bind_some, Bool.not_false, if_true]
            rw [h1, Option.bind_some, appM_ok (show acc.length + [s].length ≤ 2147483648 by simp; omega)]; rfl
          rw [he]
          exact h2
    ·
      rw [pB]
      have htk := tk_is hv (t := mkS [125]) rfl (by decide)
      by_cases ht : isT ws (mkS [125]) = true
      · rw [if_pos ht]
        refine loopM_inr ?_
        dsimp only
        rw [if_pos (show (!false) = true from rfl), take_ok, htk, ht]; rfl
      · have ht : isT ws (mkS [125]) = false := by simpa using ht
        rw [if_neg (by simp [ht])]
        have h1 := (ihS ws (by omega) hv (by omega)).2
        cases hs : pS k ws with
        | none =>
          rw [hs] at h1
          obtain ⟨s, ws', h1⟩ := h1
          refine ⟨acc ++ [s], ws', ?_⟩
          rw [loopM_inl (s' := (ws', true, acc ++ [s]))]
          · exact loopM_inr rfl
          dsimp only
          rw [if_pos (show (!false) = true from rfl), take_ok, htk, ht]
          simp only [Option.bind_some, Bool.not_false, if_true, Bool.false_eq_true, if_false]
          rw [h1, Option.bind_some, appM_ok (show acc.length + [s].length ≤ 2147483648 by simp; omega)]; rfl
        | some p =>
          obtain ⟨s, q⟩ := p
          rw [hs] at h1
          have su := (pSK_suf k).1 _ _ _ hs
          have h2 := (ihB (acc ++ [s]) q (by have := su.1; omega) (su.le.vW hv) (by have := su.1; simp; omega)).2
          replace h1 : pimpl_wordReader__stmt ⟨ws, false⟩ = some (s, ⟨q, false⟩) := h1
          rw [Option.bind_some]
          dsimp only
          have he : loopM (fun (xs2_1 : (List Word_) × Bool × (List Stmt_)) => (Option.bind (if !(xs2_1.2.1) then Option.bind (pimpl_wordReader__take (⟨xs2_1.1, xs2_1.2.1⟩ : wordReader) 3 (mkS [125])) fun r3_1 => some (r3_1.2.list, r3_1.2.bad, !(r3_1.1)) else some (xs2_1.1, xs2_1.2.1, false) : Option ((List Word_) × Bool × Bool)) fun s2_1 => if s2_1.2.2 then Option.bind (pimpl_wordReader__stmt (⟨s2_1.1, s2_1.2.1⟩ : wordReader)) fun r2_1 => Option.bind (appM xs2_1.2.2 ([r2_1.1] : List Stmt_)) fun ys2_1 => some (.inl (r2_1.2.list, r2_1.2.bad, ys2_1)) else some (.inr (xs2_1.2.2, s2_1.1, s2_1.2.1)) : Option (((List Word_) × Bool × (List Stmt_)) ⊕ ((List Stmt_) × (List Word_) × Bool)))) (ws, false, acc) = loopM (fun (xs2_1 : (List Word_) × Bool × (List Stmt_)) => (Option.bind (if !(xs2_1.2.1) then Option.bind (pimpl_wordReader__take (⟨xs2_1.1, xs2_1.2.1⟩ : wordReader) 3 (mkS [125])) fun r3_1 => some (r3_1.2.list, r3_1.2.bad, !(r3_1.1)) else some (xs2_1.1, xs2_1.2.1, false) : Option ((List Word_) × Bool × Bool)) fun s2_1 => if s2_1.2.2 then Option.bind (pimpl_wordReader__stmt (⟨s2_1.1, s2_1.2.1⟩ : wordReader)) fun r2_1 => Option.bind (appM xs2_1.2.2 ([r2_1.1] : List Stmt_)) fun ys2_1 => some (.inl (r2_1.2.list, r2_1.2.bad, ys2_1)) else some (.inr (xs2_1.2.2, s2_1.1, s2_1.2.1)) : Option (((List Word_) × Bool × (List Stmt_)) ⊕ ((List Stmt_) × (List Word_) × Bool)))) (q, false, acc ++ [s]) := by
            refine loopM_inl ?_
            dsimp only
            rw [if_pos (show (!false) = true from rfl), take_ok, htk, ht]
            simp only [Option.bind_some, Bool.not_false, if_true, Bool.false_eq_true, if_false]
            rw [h1, Option.bind_some, appM_ok (show acc.length + [s].length ≤ 2147483648 by simp; omega)]; rfl
          rw [he]
          exact h2
    · exact stmtS_ok hll hvl ha fun r hr list n g1 g2 g3 => (ihK r (by have := hr.1; omega) (hr.le.vW hv) (by have := hr.1; omega)).1 list n g1 g2 g3
    · exact stmtI_ok hv hl fun r hr => (ihK r (by have := hr.1; omega) (hr.le.vW hv) (by have := hr.1; omega)).2
end Prg
end Go.Wk
namespace Go.Wk
open Go
namespace Prg
set_option maxRecDepth 10000
theorem stmtsInd {P : List Stmt_ → Prop} (h : ∀ l : List Stmt_, (∀ s ∈ l, P s.body ∧ P s.else_) → P l) : ∀ l, P l := by
  have : ∀ (n : Nat) (l : List Stmt_), SizeOf.sizeOf l ≤ n → P l := by
    intro n
    induction n with
    | zero => intro l he; cases l <;> simp at he
    | succ n ih =>
      intro l he
      refine h l fun s hs => ?_
      have := List.sizeOf_lt_of_mem hs
      cases s
      simp at he this ⊢
      exact ⟨ih _ (by omega), ih _ (by omega)⟩
  exact fun l => this _ l (Nat.le_refl _)
mutual
def cntS : Stmt_ → Nat
  | ⟨_, _, _, b, e⟩ => 1 + cntL b + cntL e
def cntL : List Stmt_ → Nat
  | [] => 0
  | s :: l => cntS s + cntL l
end
theorem cntS_eq (s : Stmt_) : cntS s = 1 + cntL s.body + cntL s.else_ := by cases s; rw [cntS]
theorem cntL_cons (s : Stmt_) (l : List Stmt_) : cntL (s :: l) = cntS s + cntL l := by rw [cntL]
theorem cntL_nil : cntL [] = 0 := by rw [cntL]
theorem cntL_app : ∀ (l r : List Stmt_), cntL (l ++ r) = cntL l + cntL r
  | [], r => by rw [cntL_nil, List.nil_append, Nat.zero_add]
  | k :: l, r => by rw [List.cons_append, cntL_cons, cntL_cons, cntL_app l r]; omega
def cntF : List Fn_ → Nat
  | [] => 0
  | f :: l => cntL f.body + cntF l
theorem cntF_app : ∀ (l r : List Fn_), cntF (l ++ r) = cntF l + cntF r
  | [], r => by simp [cntF]
  | k :: l, r => by simp [cntF, cntF_app l r]; omega
def argN (op : Int) : Nat := if op = 4 then 2 else 1
def hdB (s : Stmt_) : Bool := inB s.op 1 8 && (decide (s.args.length = argN s.op) && ((if s.op = 1 ∨ s.op = 2 then nameB s.name else decide (s.name = mkS [])) && (s.args.all validB && (decide (s.op = 8 → (s.args[0]?).map (·.op) = some 13) && (decide (s.else_ = [] ∨ s.op = 5) && decide (s.body = [] ∨ s.op = 5 ∨ s.op = 6))))))
def formS : Nat → Stmt_ → Bool
  | 0, _ => false
  | d + 1, s => hdB s && (s.body.all (formS d) && s.else_.all (formS d))
def fnB (f : Fn_) : Bool := nameB f.name && (decide (f.params.length ≤ 3) && (f.params.all nameB && f.body.all (formS 4)))
def progB (p : Program_) : Bool := inB (p.fns.length : Int) 1 4 && (p.fns.all fnB && decide (w64 (cntF p.fns : Int) ≤ 40))
theorem w64_w (a : Int) : w64 (w64 a) = w64 a := by
  unfold w64; simp only [IntKind.wrap_i64]; omega
theorem w64_addl (a b : Int) : w64 (w64 a + b) = w64 (a + b) := by
  unfold w64; simp only [IntKind.wrap_i64]; omega
theorem w64_addr (a b : Int) : w64 (a + w64 b) = w64 (a + b) := by rw [Int.add_comm, w64_addl, Int.add_comm]
theorem count_ok : ∀ l : List Stmt_, spec_l3Count l = some (w64 (cntL l : Int)) := by
  intro l
  induction l using stmtsInd with
  | h l ih =>
    rw [spec_l3Count]
    rcases forN_list (xs := l) (body := (fun (i1_1 : Int) (xs1_1 : Int) => (Option.bind (getI l i1_1) fun x1_1 => Option.bind (spec_l3Count x1_1.body) fun r1_1 => Option.bind (spec_l3Count x1_1.else_) fun r1_2 => some (.inl (w64 ((w64 (xs1_1 + r1_1)) + r1_2))) : Option ((Int) ⊕ (Empty))))) (s := (l.length : Int)) (fun p s => w64 s = w64 ((l.length : Int) + ((cntL p : Int) - p.length)) ∧ (p = [] → s = l.length) ∧ (p ≠ [] → w64 s = s)) (fun _ => False)
      ⟨by rw [cntL_nil]; simp, fun _ => rfl, fun h => absurd rfl h⟩ (fun p x r s he ⟨h1, h2, h3⟩ => .inl (by
        obtain ⟨g1, g2⟩ := ih x (by rw [he]; simp)
        refine ⟨w64 (w64 (s + w64 (cntL x.body : Int)) + w64 (cntL x.else_ : Int)), ?_, ?_, fun h => absurd h (by simp), fun _ => w64_w _⟩
        · have hg : getI l (p.length : Int) = some x := by rw [he, getI_mid]
          rw [hg, Option.bind_some, g1, Option.bind_some, g2, Option.bind_some]
        · rw [w64_w, w64_addr, w64_addl, Int.add_right_comm, w64_addr, Int.add_assoc, ← w64_addl s, h1, w64_addl, cntL_app, cntL_cons, cntL_nil, cntS_eq]
          congr 1
          simp
          omega)) with ⟨s, h1, h2, h3, h4⟩ | ⟨_, _, h⟩
    · rw [h1]
      simp only [Option.bind_some, Sum.elim_inl, Option.some.injEq]
      by_cases h0 : l = []
      · rw [h3 h0, h0, cntL_nil]; rfl
      · rw [← h4 h0, h2]; congr 1; omega
    · exact h.elim
theorem all_ok3 (p : Program_) : spec_l3All p = some (w64 (cntF p.fns : Int)) := by
  unfold spec_l3All
  rcases forN_list (xs := p.fns) (body := (fun (i1_1 : Int) (xs1_1 : Int) => (Option.bind (getI p.fns i1_1) fun x1_1 => Option.bind (spec_l3Count x1_1.body) fun r1_1 => some (.inl (w64 (xs1_1 + r1_1))) : Option ((Int) ⊕ (Empty))))) (s := (0 : Int)) (fun l s => s = w64 (cntF l : Int)) (fun _ => False) rfl (fun l x r s he h => .inl (by
      refine ⟨w64 (s + w64 (cntL x.body : Int)), ?_, ?_⟩
      · have hg : getI p.fns (l.length : Int) = some x := by rw [he, getI_mid]
        rw [hg, Option.bind_some, count_ok, Option.bind_some]
      · rw [h, w64_addr, w64_addl, cntF_app]
        congr 1)) with ⟨s, h1, h2⟩ | ⟨_, _, h⟩
  · rw [h1, h2]; rfl
  · exact h.elim
theorem args_okS {l : List Expr_} {X : Type} {e : X} : forN (S := Unit) (X := X) (fun i _ => Option.bind (getI l i) fun x => Option.bind (spec_ExprValid x) fun b => if !b then some (.inr e) else some (.inl ())) ((l.length : Int) - 0).toNat 0 () = if l.all validB then some (.inl ()) else some (.inr e) := by
  rw [forN_any (xs := l) (fun k => !validB k) e (fun p x r he => by rw [he, getI_mid, Option.bind_some, validS_E, Option.bind_some])]
  have : l.any (fun k => !validB k) = !l.all validB := by rw [List.not_all_eq_any_not]
  rw [this]
  cases l.all validB <;> rfl
theorem args_okI {l : List Expr_} {X : Type} {e : X} : forN (S := Unit) (X := X) (fun i _ => Option.bind (getI l i) fun x => Option.bind (impl_ExprValid x) fun b => if !b then some (.inr e) else some (.inl ())) ((l.length : Int) - 0).toNat 0 () = if l.all validB then some (.inl ()) else some (.inr e) := by
  rw [forN_any (xs := l) (fun k => !validB k) e (fun p x r he => by rw [he, getI_mid, Option.bind_some, valid_E, Option.bind_some])]
  have : l.any (fun k => !validB k) = !l.all validB := by rw [List.not_all_eq_any_not]
  rw [this]
  cases l.all validB <;> rfl
theorem stmtsS_of {l : List Stmt_} {d : Int} {p : Stmt_ → Bool} (h : ∀ s ∈ l, spec_l3Stmt s d = some (p s)) : spec_l3Stmts l d = some (l.all p) := by
  rw [spec_l3Stmts, forN_any (xs := l) (body := (fun (i1_1 : Int) (xs1_1 : Unit) => (Option.bind (getI l i1_1) fun x1_1 => Option.bind (spec_l3Stmt x1_1 d) fun r1_1 => if !(r1_1) then some (.inr false) else some (.inl ()) : Option ((Unit) ⊕ (Bool))))) (fun k => !p k) false (fun q x r he => by rw [he, getI_mid, Option.bind_some, h x (by rw [he]; simp), Option.bind_some])]
  have : l.any (fun k => !p k) = !l.all p := by rw [List.not_all_eq_any_not]
  rw [this]
  cases l.all p <;> rfl
theorem idxF {α : Type} {xs : List α} {f : α → Option Bool} {p : α → Bool} (hf : ∀ x ∈ xs, f x = some (p x)) : ∃ i : Int, (Option.bind (forN (S := Unit) (X := Int) (fun i _ => Option.bind (getI xs i) fun x => Option.bind (f x) fun b => if b then some (.inr i) else some (.inl ())) ((xs.length : Int) - 0).toNat 0 ()) (Sum.elim (fun _ => some (-1)) (fun e => some e))) = some i ∧ decide (0 ≤ i) = xs.any p := by
  rcases forN_list (xs := xs) (body := fun i _ => Option.bind (getI xs i) fun x => Option.bind (f x) fun b => if b then some (.inr i) else some (.inl ())) (s := ()) (fun l _ => l.any p = false) (fun (i : Int) => 0 ≤ i ∧ xs.any p = true) rfl (fun l x r s he h => by
    have hfx := hf x (by rw [he]; simp)
    rw [he, getI_mid, Option.bind_some, hfx, Option.bind_some]
    cases hp : p x with
    | true => exact .inr ⟨_, rfl, by omega, by simp [hp]⟩
    | false => exact .inl ⟨(), rfl, by simp [h, hp]⟩) with ⟨s, h1, h2⟩ | ⟨i, h1, h2, h3⟩
  · exact ⟨-1, by rw [h1]; rfl, by rw [h2]; rfl⟩
  · exact ⟨i, by rw [h1]; rfl, by rw [h3]; simp [h2]⟩
theorem blockI_of {l : List Stmt_} {n : Int} {p : Stmt_ → Bool} (h : ∀ s ∈ l, impl_stmtOk s n = some (p s)) : impl_blockOk l n = some (l.all p) := by
  rw [impl_blockOk]
  unfold slices_ContainsFunc_S_impl_Stmt_impl_Stmt slices_IndexFunc_S_impl_Stmt_impl_Stmt
  obtain ⟨i, h1, h2⟩ := idxF (xs := l) (f := fun y0 => impl_blockOk_1 y0 n) (p := fun s => !p s) (fun s hs => by rw [impl_blockOk_1, h s hs]; rfl)
  rw [h1, Option.bind_some, Option.bind_some, h2]
  have : l.any (fun k => !p k) = !l.all p := by rw [List.not_all_eq_any_not]
  rw [this, Bool.not_not]
theorem stmts_ok : ∀ (l : List Stmt_) (d : Nat), d ≤ 4 → (∀ s ∈ l, spec_l3Stmt s (d : Int) = some (formS d s) ∧ impl_stmtOk s (5 - (d : Int)) = some (formS d s)) := by
  intro l
  induction l using stmtsInd with
  | h l ih =>
    intro d hd s hs
    cases d with
    | zero =>
      constructor
      · rw [spec_l3Stmt]; rfl
      · rw [impl_stmtOk, formS]
        unfold impl_argCount
        by_cases h1 : s.op = 1 <;> by_cases h2 : s.op = 2 <;> by_cases h3 : s.op = 3 <;> by_cases h7 : s.op = 7 <;> by_cases h8 : s.op = 8 <;> by_cases h4 : s.op = 4 <;> by_cases h5 : s.op = 5 <;> by_cases h6 : s.op = 6 <;> first | omega | simp [h1, h2, h3, h4, h5, h6, h7, h8]
    | succ d =>
      obtain ⟨ib, ie⟩ := ih s hs
      have sb : spec_l3Stmts s.body (w64 (((d + 1 : Nat) : Int) - 1)) = some (s.body.all (formS d)) := by
        rw [w64_id (by omega) (by omega), show ((d + 1 : Nat) : Int) - 1 = (d : Int) by omega]
        exact stmtsS_of fun x hx => (ib d (by omega) x hx).1
      have se : spec_l3Stmts s.else_ (w64 (((d + 1 : Nat) : Int) - 1)) = some (s.else_.all (formS d)) := by
        rw [w64_id (by omega) (by omega), show ((d + 1 : Nat) : Int) - 1 = (d : Int) by omega]
        exact stmtsS_of fun x hx => (ie d (by omega) x hx).1
      have hb : impl_blockOk s.body (w64 (5 - ((d + 1 : Nat) : Int) + 1)) = some (s.body.all (formS d)) := by
        rw [w64_id (by omega) (by omega), show 5 - ((d + 1 : Nat) : Int) + 1 = 5 - (d : Int) by omega]
        exact blockI_of fun x hx => (ib d (by omega) x hx).2
      have he : impl_blockOk s.else_ (w64 (5 - ((d + 1 : Nat) : Int) + 1)) = some (s.else_.all (formS d)) := by
        rw [w64_id (by omega) (by omega), show 5 - ((d + 1 : Nat) : Int) + 1 = 5 - (d : Int) by omega]
        exact blockI_of fun x hx => (ie d (by omega) x hx).2
      have c0 : decide (((d + 1 : Nat) : Int) < 1) = false := by simp; omega
      have c0' : decide ((4 : Int) < 5 - ((d + 1 : Nat) : Int)) = false := by simp; omega
      have c5 : ∀ b : Int, decide (0 < b) = decide (0 < b) := fun _ => rfl
      have eB : decide (0 < (s.body.length : Int)) = !decide (s.body = []) := by cases s.body <;> simp
      have eE : decide (0 < (s.else_.length : Int)) = !decide (s.else_ = []) := by cases s.else_ <;> simp
      have hN : s.name = mkS [] → nameB s.name = false := fun h => by rw [h]; rfl
      have c3 : (if decide (decide (s.op = 1 ∨ s.op = 2) ≠ nameB s.name) = true then some true else if (!decide (s.op = 1 ∨ s.op = 2)) = true then some (decide (s.name ≠ mkS [])) else some false : Option Bool) = some (!(if s.op = 1 ∨ s.op = 2 then nameB s.name else decide (s.name = mkS []))) := by
        by_cases h : s.op = 1 ∨ s.op = 2 <;> by_cases h2 : s.name = mkS []
        · rw [hN h2]; simp [h]
        · cases nameB s.name <;> simp [h]
        · rw [hN h2]; simp [h, h2]
        · cases nameB s.name <;> simp [h, h2]
      have c4 : s.args.length = argN s.op → (if decide (s.op = 8) = true then Option.bind (getI s.args 0) fun x => some (decide (x.op ≠ 13)) else some false : Option Bool) = some (!decide (s.op = 8 → (s.args[0]?).map (·.op) = some 13)) := by
        intro hl
        by_cases h : s.op = 8
        · have h1 : s.args.length = 1 := by rw [hl, h]; rfl
          obtain ⟨a, ha⟩ : ∃ a, s.args = [a] := List.length_eq_one_iff.1 h1
          rw [ha]
          simp [h, getI]
        · simp [h]
      constructor
      · have c6 : (if decide (0 < (s.else_.length : Int)) = true then if decide (s.op ≠ 5) = true then some true else if decide (0 < (s.body.length : Int)) = true then some false else some false else if decide (0 < (s.body.length : Int)) = true then if decide (s.op ≠ 5) = true then some (decide (s.op ≠ 6)) else some false else some false : Option Bool) = some (!(decide (s.else_ = [] ∨ s.op = 5) && decide (s.body = [] ∨ s.op = 5 ∨ s.op = 6))) := by
          rw [eB, eE]
          by_cases h1 : s.else_ = [] <;> by_cases h2 : s.body = [] <;> by_cases h3 : s.op = 5 <;> by_cases h4 : s.op = 6 <;> simp [h1, h2, h3, h4]
        rw [spec_l3Stmt, formS, c0]
        simp only [l1In_ok, nameS_ok, Option.bind_some, sb, se, args_okS, Bool.false_eq_true, if_false]
        unfold hdB
        cases inB s.op 1 8 with
        | false => rfl
        | true =>
        have ea : spec_l3Args s.op = some (argN s.op : Int) := by
          unfold spec_l3Args argN
          by_cases h : s.op = 4 <;> simp [h]
        rw [ea]
        simp only [Bool.not_true, Bool.false_eq_true, if_false, Option.bind_some, Bool.true_and]
        by_cases hl : s.args.length = argN s.op
        · have e1 : decide ((s.args.length : Int) ≠ (argN s.op : Int)) = false := by simp; omega
          have e2 : (if decide (s.op = 1) = true then some true else some (decide (s.op = 2)) : Option Bool) = some (decide (s.op = 1 ∨ s.op = 2)) := by by_cases h : s.op = 1 <;> simp [h]
          rw [e1, e2, c4 hl, c6]
          simp only [Bool.false_eq_true, if_false, Option.bind_some, c3, hl, decide_true, Bool.true_and]
          cases (if s.op = 1 ∨ s.op = 2 then nameB s.name else decide (s.name = mkS [])) with
          | false => rfl
          | true =>
          cases s.args.all validB with
          | false => rfl
          | true =>
          cases decide (s.op = 8 → (s.args[0]?).map (·.op) = some 13) with
          | false => rfl
          | true =>
          cases decide (s.else_ = [] ∨ s.op = 5) with
          | false => rfl
          | true =>
          cases decide (s.body = [] ∨ s.op = 5 ∨ s.op = 6) with
          | false => rfl
          | true =>
          cases s.body.all (formS d) <;> cases s.else_.all (formS d) <;> rfl
        · have e1 : decide ((s.args.length : Int) ≠ (argN s.op : Int)) = true := by simp; omega
          rw [e1, decide_eq_false hl]; rfl
      · have ea : impl_argCount s.op = some (if inB s.op 1 8 then ((argN s.op : Int), decide (s.op = 1 ∨ s.op = 2), decide (s.op = 5 ∨ s.op = 6), decide (s.op = 5)) else (-1, false, false, false)) := by
          by_cases h : inB s.op 1 8 = true
          · have : s.op = 1 ∨ s.op = 2 ∨ s.op = 3 ∨ s.op = 4 ∨ s.op = 5 ∨ s.op = 6 ∨ s.op = 7 ∨ s.op = 8 := by
              unfold inB at h
              simp at h
              omega
            rcases this with h | h | h | h | h | h | h | h <;> rw [h] <;> rfl
          · have h : inB s.op 1 8 = false := by simpa using h
            rw [h]
            have h' : s.op ≠ 1 ∧ s.op ≠ 2 ∧ s.op ≠ 3 ∧ s.op ≠ 4 ∧ s.op ≠ 5 ∧ s.op ≠ 6 ∧ s.op ≠ 7 ∧ s.op ≠ 8 := by
              unfold inB at h
              simp at h
              omega
            unfold impl_argCount
            simp [h']
        rw [impl_stmtOk, formS, ea, Option.bind_some, c0']
        simp only [name_ok, Option.bind_some, hb, he, args_okI, Bool.false_eq_true, if_false]
        unfold hdB
        cases inB s.op 1 8 with
        | false =>
          have e1 : decide ((s.args.length : Int) ≠ -1) = true := by simp
          simp only [Bool.false_eq_true, if_false, e1, if_true, Option.bind_some, Bool.false_and]
        | true =>
        simp only [if_true, Bool.true_and]
        by_cases hl : s.args.length = argN s.op
        · have e1 : decide ((s.args.length : Int) ≠ (argN s.op : Int)) = false := by simp; omega
          have e3 : decide (s.op = 5 ∨ s.op = 6) = true → s.else_ = s.else_ := fun _ => rfl
          rw [e1, c4 hl, eB, eE]
          simp only [Bool.false_eq_true, if_false, hl, decide_true, Bool.true_and]
          by_cases hn : s.op = 1 ∨ s.op = 2
          · have h5 : ¬ s.op = 5 := by omega
            have h6 : ¬ s.op = 6 := by omega
            have h8 : ¬ s.op = 8 := by omega
            simp only [hn, h5, h6, h8, decide_true, decide_false, if_true, or_self, or_false, false_implies, Bool.not_true, Bool.not_false, Bool.false_eq_true, if_false, Option.bind_some, Bool.true_and]
            cases nameB s.name with
            | false => rfl
            | true =>
            by_cases p1 : s.body = []
            · by_cases p2 : s.else_ = []
              · simp only [p1, p2, decide_true, Bool.not_true, Bool.not_false, Bool.false_eq_true, if_false, Option.bind_some, if_true, Bool.and_true, Bool.true_and]
                cases s.args.all validB <;> rfl
              · simp only [p1, p2, decide_true, decide_false, Bool.not_true, Bool.not_false, Bool.false_eq_true, if_false, Option.bind_some, if_true, Bool.and_false, Bool.false_and, Bool.and_true, Bool.true_and]
            · simp only [p1, decide_false, Bool.not_true, Bool.not_false, Bool.false_eq_true, if_false, Option.bind_some, if_true, Bool.and_false, Bool.false_and, Bool.and_true, Bool.true_and]
          · simp only [hn, decide_false, Bool.not_false, Bool.false_eq_true, if_false, Option.bind_some, if_true]
            by_cases p0 : s.name = mkS []
            · simp only [p0, ne_eq, not_true_eq_false, decide_false, decide_true, Bool.false_eq_true, if_false, Option.bind_some, Bool.true_and]
              by_cases q5 : s.op = 5
              · have h8 : ¬ s.op = 8 := by omega
                simp only [q5, true_or, or_true, decide_true, Bool.not_true, Bool.false_eq_true, if_false, Option.bind_some, Bool.and_true, Bool.not_false, show ((5 : Int) = 8) = False from by simp, false_implies, show ((5 : Int) = 6) = False from by simp]
                cases s.args.all validB with
                | false => rfl
                | true => cases s.body.all (formS d) <;> cases s.else_.all (formS d) <;> rfl
              · by_cases q6 : s.op = 6
                · simp only [q6, or_true, decide_true, Bool.not_true, Bool.false_eq_true, if_false, Option.bind_some, show ((6 : Int) = 8) = False from by simp, show ((6 : Int) = 5) = False from by simp, false_implies, decide_false, Bool.not_false, if_true, or_false, false_or]
                  by_cases p2 : s.else_ = []
                  · simp only [p2, decide_true, Bool.not_true, Bool.false_eq_true, if_false, Option.bind_some, Bool.true_and]
                    cases s.args.all validB with
                    | false => rfl
                    | true => cases s.body.all (formS d) <;> rfl
                  · simp only [p2, decide_false, Bool.not_false, if_true, Option.bind_some, Bool.false_and, Bool.and_false, Bool.true_and]
                · simp only [q5, q6, or_false, decide_false, Bool.not_false, if_true, Option.bind_some]
                  by_cases p1 : s.body = []
                  · by_cases p2 : s.else_ = []
                    · simp only [p1, p2, decide_true, Bool.not_true, Bool.not_false, Bool.false_eq_true, if_false, Option.bind_some, Bool.and_true, Bool.true_and]
                      cases decide (s.op = 8 → (s.args[0]?).map (·.op) = some 13) with
                      | false => simp
                      | true => cases s.args.all validB <;> rfl
                    · simp only [p1, p2, decide_true, decide_false, Bool.not_true, Bool.not_false, Bool.false_eq_true, if_false, if_true, Option.bind_some, Bool.and_false, Bool.false_and]
                  · simp only [p1, decide_false, Bool.not_false, if_true, Option.bind_some, Bool.and_false, Bool.false_and]
            · simp only [p0, ne_eq, not_false_eq_true, decide_true, decide_false, if_true, Option.bind_some, Bool.false_and]
        · have e1 : decide ((s.args.length : Int) ≠ (argN s.op : Int)) = true := by simp; omega
          rw [e1, decide_eq_false hl]; rfl
end Prg
end Go.Wk
namespace Go.Wk
open Go
namespace Prg
set_option maxRecDepth 10000
theorem stmtsC : ∀ (l : List Stmt_) (nest c d : Int), ∃ r, impl_stmts l nest (c, d) = some r ∧ w64 r.1 = w64 (c + cntL l) ∧ (w64 c = c → w64 r.1 = r.1) := by
  intro l
  induction l using stmtsInd with
  | h l ih =>
    intro nest c d
    rw [impl_stmts]
    rcases forN_list (xs := l) (body := (fun (i1_1 : Int) (xs1_1 : Int × Int) => (Option.bind (getI l i1_1) fun x1_1 => Option.bind (impl_stmts x1_1.body (w64 (nest + 1)) (w64 (xs1_1.1 + 1), maxI xs1_1.2 nest)) fun r1_1 => Option.bind (impl_stmts x1_1.else_ (w64 (nest + 1)) r1_1) fun r1_2 => some (.inl r1_2) : Option ((Int × Int) ⊕ (Empty))))) (s := (c, d)) (fun p s => w64 s.1 = w64 (c + cntL p) ∧ (w64 c = c → w64 s.1 = s.1)) (fun _ => False)
      ⟨by rw [cntL_nil]; simp, fun h => h⟩ (fun p x r s he ⟨h1, h2⟩ => .inl (by
        obtain ⟨g1, g2⟩ := ih x (by rw [he]; simp)
        obtain ⟨r1, a1, a2, a3⟩ := g1 (w64 (nest + 1)) (w64 (s.1 + 1)) (maxI s.2 nest)
        obtain ⟨r2, b1, b2, b3⟩ := g2 (w64 (nest + 1)) r1.1 r1.2
        have hg : getI l (p.length : Int) = some x := by rw [he, getI_mid]
        refine ⟨r2, ?_, ?_, fun _ => b3 (a3 (w64_w _))⟩
        · rw [hg, Option.bind_some, a1, Option.bind_some, b1, Option.bind_some]
        · rw [b2, ← w64_addl, a2, w64_addl, Int.add_assoc, w64_addl, Int.add_assoc, ← w64_addl s.1, h1, w64_addl, cntL_app, cntL_cons, cntL_nil, cntS_eq]
          congr 1
          simp
          omega)) with ⟨s, h1, h2, h3⟩ | ⟨_, _, h⟩
    · exact ⟨s, by rw [h1]; rfl, h2, h3⟩
    · exact h.elim
theorem measure_ok (p : Program_) : ∃ d, impl_measure p = some (w64 (cntF p.fns : Int), d) := by
  unfold impl_measure
  rcases forN_list (xs := p.fns) (body := (fun (i1_1 : Int) (xs1_1 : Int × Int) => (Option.bind (getI p.fns i1_1) fun x1_1 => Option.bind (impl_stmts x1_1.body 1 (xs1_1.1, xs1_1.2)) fun r1_1 => some (.inl (r1_1.1, r1_1.2)) : Option ((Int × Int) ⊕ (Empty))))) (s := ((0 : Int), (0 : Int))) (fun l s => w64 s.1 = w64 (cntF l : Int) ∧ w64 s.1 = s.1) (fun _ => False)
    ⟨rfl, rfl⟩ (fun l x r s he ⟨h1, h2⟩ => .inl (by
      obtain ⟨r1, a1, a2, a3⟩ := stmtsC x.body 1 s.1 s.2
      have hg : getI p.fns (l.length : Int) = some x := by rw [he, getI_mid]
      refine ⟨(r1.1, r1.2), ?_, ?_, a3 h2⟩
      · rw [hg, Option.bind_some, a1, Option.bind_some]
      · show w64 r1.1 = _
        rw [a2, ← w64_addl, h1, w64_addl, cntF_app]
        congr 1)) with ⟨s, h1, h2, h3⟩ | ⟨_, _, h⟩
  · exact ⟨s.2, by rw [h1, ← h2, h3]; rfl⟩
  · exact h.elim
theorem names_ok {l : List Str} {X : Type} {e : X} : forN (S := Unit) (X := X) (fun i _ => Option.bind (getI l i) fun x => Option.bind (spec_IsName x) fun b => if !b then some (.inr e) else some (.inl ())) ((l.length : Int) - 0).toNat 0 () = if l.all nameB then some (.inl ()) else some (.inr e) := by
  rw [forN_any (xs := l) (fun k => !nameB k) e (fun p x r he => by rw [he, getI_mid, Option.bind_some, nameS_ok, Option.bind_some])]
  have : l.any (fun k => !nameB k) = !l.all nameB := by rw [List.not_all_eq_any_not]
  rw [this]
  cases l.all nameB <;> rfl
theorem fnS_ok (f : Fn_) : spec_l3Fn f = some (fnB f) := by
  unfold spec_l3Fn fnB
  rw [names_ok]
  have h1 : spec_l3Stmts f.body 4 = some (f.body.all (formS 4)) := stmtsS_of fun s hs => (stmts_ok f.body 4 (by omega) s hs).1
  rw [nameS_ok, h1]
  have e1 : decide ((f.params.length : Int) ≤ 3) = decide (f.params.length ≤ 3) := by
    rw [decide_eq_decide]; omega
  rw [e1]
  cases f.params.all nameB with
  | false => cases nameB f.name <;> cases decide (f.params.length ≤ 3) <;> rfl
  | true => cases nameB f.name <;> cases decide (f.params.length ≤ 3) <;> cases f.body.all (formS 4) <;> rfl
theorem progS_ok (p : Program_) : spec_ProgramValid p = some (progB p) := by
  unfold spec_ProgramValid progB
  rw [l1In_ok, Option.bind_some, all_ok3]
  rw [forN_any (xs := p.fns) (body := (fun (i1_1 : Int) (xs1_1 : Unit) => (Option.bind (getI p.fns i1_1) fun x1_1 => Option.bind (spec_l3Fn x1_1) fun r1_1 => if !(r1_1) then some (.inr false) else some (.inl ()) : Option ((Unit) ⊕ (Bool))))) (fun f => !fnB f) false (fun l x r he => by
    have hg : getI p.fns (l.length : Int) = some x := by rw [he, getI_mid]
    rw [hg, Option.bind_some, fnS_ok, Option.bind_some])]
  have : p.fns.any (fun k => !fnB k) = !p.fns.all fnB := by rw [List.not_all_eq_any_not]
  rw [this]
  cases inB (p.fns.length : Int) 1 4 with
  | false => rfl
  | true => cases p.fns.all fnB <;> rfl
theorem fnI_ok (f : Fn_) : (Option.bind (impl_IsName f.name) fun r => if !r then some true else if decide (3 < (f.params.length : Int)) then some true else Option.bind (slices_ContainsFunc_S_string_string f.params (fun y0 => impl_ProgramValid_1 y0)) fun r2 => if r2 then some true else Option.bind (impl_blockOk f.body 1) fun r3 => some (!r3)) = some (!fnB f) := by
  have h1 : impl_blockOk f.body 1 = some (f.body.all (formS 4)) := blockI_of fun s hs => (stmts_ok f.body 4 (by omega) s hs).2
  have h2 : slices_ContainsFunc_S_string_string f.params (fun y0 => impl_ProgramValid_1 y0) = some (!f.params.all nameB) := by
    unfold slices_ContainsFunc_S_string_string slices_IndexFunc_S_string_string
    obtain ⟨i, g1, g2⟩ := idxF (xs := f.params) (f := fun y0 => impl_ProgramValid_1 y0) (p := fun s => !nameB s) (fun s _ => by unfold impl_ProgramValid_1; rw [name_ok]; rfl)
    rw [g1, Option.bind_some, g2]
    have : f.params.any (fun k => !nameB k) = !f.params.all nameB := by rw [List.not_all_eq_any_not]
    rw [this]
  have e1 : decide (3 < (f.params.length : Int)) = !decide (f.params.length ≤ 3) := by
    by_cases h : f.params.length ≤ 3
    · rw [decide_eq_true h]; simp; omega
    · rw [decide_eq_false h]; simp; omega
  rw [name_ok, Option.bind_some, h1, h2, e1]
  unfold fnB
  cases nameB f.name <;> cases decide (f.params.length ≤ 3) <;> cases f.params.all nameB <;> cases f.body.all (formS 4) <;> rfl
theorem progI_ok (p : Program_) : impl_ProgramValid p = some (progB p) := by
  unfold impl_ProgramValid progB
  obtain ⟨d, hm⟩ := measure_ok p
  rw [within_ok, Option.bind_some, hm]
  rw [forN_any (xs := p.fns) (body := (fun (i1_1 : Int) (xs1_1 : Unit) => (Option.bind (getI p.fns i1_1) fun x1_1 => Option.bind (Option.bind (impl_IsName x1_1.name) fun r2_1 => if !(r2_1) then some true else if decide (3 < ((x1_1.params.length : Int))) then some true else Option.bind (slices_ContainsFunc_S_string_string x1_1.params (fun y0 => impl_ProgramValid_1 y0)) fun r2_2 => if r2_2 then some true else Option.bind (impl_blockOk x1_1.body 1) fun r2_3 => some (!(r2_3)) : Option (Bool)) fun s1_1 => if s1_1 then some (.inr false) else some (.inl ()) : Option ((Unit) ⊕ (Bool))))) (fun f => !fnB f) false (fun l x r he => by
    have hg : getI p.fns (l.length : Int) = some x := by rw [he, getI_mid]
    rw [hg, Option.bind_some, fnI_ok, Option.bind_some])]
  have : p.fns.any (fun k => !fnB k) = !p.fns.all fnB := by rw [List.not_all_eq_any_not]
  rw [this]
  cases inB (p.fns.length : Int) 1 4 with
  | false => rfl
  | true => cases p.fns.all fnB <;> rfl
end Prg
end Go.Wk
