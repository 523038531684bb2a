/- A part of the proof of FnOpsBindCardSaid. -/
import Derived.Test.YtjccffpccjdmgaaGreatDoorObModels
import Derived.Test.YtjccffpccjdmgaaGreatDoorWkN
import Derived.Test.YtjccffpccjdmgaaGreatDoorWkY
import Derived.Laws.RangeString
import Derived.Laws.RangeAny
import Derived.Test.YtjccffpccjdmgaaGreatDoorWkAd
namespace Go.Wk
open Go
namespace Prg
set_option maxRecDepth 10000
def letB (b : UInt8) : Bool := decide ((97 : UInt8) ≤ b) && decide (b ≤ (122 : UInt8))
def digB (b : UInt8) : Bool := decide ((48 : UInt8) ≤ b) && decide (b ≤ (57 : UInt8))
def sgnL : List UInt8 := [40, 41, 123, 125, 59, 44, 43, 45, 42, 47, 37, 60, 61, 38, 33, 64]
def clsB (b : UInt8) : Int := if letB b then 1 else if digB b then 2 else if b ∈ sgnL then 3 else if b = 32 ∨ b = 10 then 4 else 0
theorem letter_ok (b : UInt8) : impl_isLetter b = some (letB b) := by
  unfold impl_isLetter letB
  by_cases h : (97 : UInt8) ≤ b <;> simp [h]
theorem digit_ok (b : UInt8) : impl_isDigit b = some (digB b) := by
  unfold impl_isDigit digB
  by_cases h : (48 : UInt8) ≤ b <;> simp [h]
theorem find_ok (s : Str) (c : UInt8) : ∃ n : Int, spec_l30Find s c = some n ∧ (0 ≤ n ↔ c ∈ s.b) := by
  unfold spec_l30Find
  rcases forN_find (xs := s.b) (body := (fun (i1_1 : Int) (xs1_1 : Unit) => (Option.bind (getI (s).b i1_1) fun x1_1 => if decide (x1_1 = c) then some (.inr i1_1) else some (.inl ()) : Option ((Unit) ⊕ (Int))))) (fun x => decide (x = c)) (fun i => i) (fun l x r he => by
    rw [he, getI_mid, Option.bind_some]) with ⟨h1, h2⟩ | ⟨l, x, r, h1, h2, h3, h4⟩
  · refine ⟨-1, bindt h2 rfl, ⟨fun h => by omega, fun h => ?_⟩⟩
    have := List.any_eq_false.1 h1 c h
    simp at this
  · refine ⟨_, bindt h4 rfl, ⟨fun _ => ?_, fun _ => by omega⟩⟩
    simp at h3; subst h3
    rw [h1]; simp
theorem class_ok (b : UInt8) : spec_l1Class b = some (clsB b) := by
  obtain ⟨n, h1, h2⟩ := find_ok (mkS [40, 41, 123, 125, 59, 44, 43, 45, 42, 47, 37, 60, 61, 38, 33, 64]) b
  have e1 : (if decide ((97 : UInt8) ≤ b) then some (decide (b ≤ (122 : UInt8))) else some false : Option Bool) = some (letB b) := by unfold letB; by_cases h : (97 : UInt8) ≤ b <;> simp [h]
  have e2 : (if decide ((48 : UInt8) ≤ b) then some (decide (b ≤ (57 : UInt8))) else some false : Option Bool) = some (digB b) := by unfold digB; by_cases h : (48 : UInt8) ≤ b <;> simp [h]
  have e3 : (if decide (b = (32 : UInt8)) then some true else some (decide (b = (10 : UInt8))) : Option Bool) = some (decide (b = 32 ∨ b = 10)) := by by_cases h : b = 32 <;> simp [h]
  have h3 : (0 ≤ n) ↔ b ∈ sgnL := h2
  unfold spec_l1Class clsB
  rw [e1, e2, e3, h1]
  simp only [Option.bind_some]
  cases letB b with
  | true => rfl
  | false =>
    cases digB b with
    | true => rfl
    | false =>
      by_cases h : b ∈ sgnL
      · simp [h, h3.2 h]
      · have : ¬ 0 ≤ n := fun h' => h (h3.1 h')
        simp only [Bool.false_eq_true, if_false, h, this, decide_false]
        by_cases h5 : b = 32 ∨ b = 10 <;> simp [h5]
def keyB (s : Str) : Bool := decide (s ∈ glob_impl_keys)
theorem has_ok (xs : List Str) (v : Str) : slices_Contains_S_string_string xs v = some (decide (v ∈ xs)) := by
  unfold slices_Contains_S_string_string slices_Index_S_string_string
  rcases forN_find (xs := xs) (body := (fun (i1_1 : Int) (xs1_1 : Unit) => (Option.bind (getI xs i1_1) fun x1_1 => if decide (v = x1_1) then some (.inr i1_1) else some (.inl ()) : Option ((Unit) ⊕ (Int))))) (fun x => decide (v = x)) (fun i => i) (fun l x r he => by
    rw [he, getI_mid, Option.bind_some]) with ⟨h1, h2⟩ | ⟨l, x, r, h1, h2, h3, h4⟩
  · rw [bindt (b := some (-1)) h2 rfl, Option.bind_some]
    have : v ∉ xs := fun h => by have := List.any_eq_false.1 h1 v h; simp at this
    simp [this]
  · rw [bindt (b := some (l.length : Int)) h4 rfl, Option.bind_some]
    simp at h3; subst h3
    have : v ∈ xs := by rw [h1]; simp
    simp [this]
theorem key_ok (s : Str) : spec_l1Key s = some (keyB s) := by
  unfold spec_l1Key spec_KeyWords keyB
  rw [Option.bind_some]
  show Option.bind (forN (fun (i1_1 : Int) (xs1_1 : Unit) => (Option.bind (getI glob_impl_keys i1_1) fun x1_1 => if decide (x1_1 = s) then some (.inr true) else some (.inl ()) : Option ((Unit) ⊕ (Bool)))) (((glob_impl_keys.length : Int) : Int) - 0).toNat 0 ()) _ = _
  rw [bindc (forN_any (xs := glob_impl_keys) (body := (fun (i1_1 : Int) (xs1_1 : Unit) => (Option.bind (getI glob_impl_keys i1_1) fun x1_1 => if decide (x1_1 = s) then some (.inr true) else some (.inl ()) : Option ((Unit) ⊕ (Bool))))) (fun x => decide (x = s)) true (fun l x r he => by rw [he, getI_mid, Option.bind_some]))]
  cases h : glob_impl_keys.any (fun x => decide (x = s)) with
  | true =>
    obtain ⟨x, h1, h2⟩ := List.any_eq_true.1 h
    simp at h2; subst h2
    simp [h1]
  | false =>
    have : s ∉ glob_impl_keys := fun h' => by have := List.any_eq_false.1 h s h'; simp at this
    simp [this]
def nameB (s : Str) : Bool := decide (s.b ≠ []) && s.b.all letB && decide (s.b.length ≤ 4) && !keyB s
theorem all_ok (s : Str) (c : Int) : spec_l1All s c = some (s.b.all (fun b => decide (clsB b = c)) && decide (s.b ≠ [])) := by
  unfold spec_l1All
  rw [bindc (forN_any (xs := s.b) (body := (fun (i1_1 : Int) (xs1_1 : Unit) => (Option.bind (getI (s).b i1_1) fun x1_1 => Option.bind (spec_l1Class x1_1) fun r1_1 => if decide (r1_1 ≠ c) then some (.inr false) else some (.inl ()) : Option ((Unit) ⊕ (Bool))))) (fun b => decide (clsB b ≠ c)) false (fun l x r he => by
    rw [he, getI_mid, Option.bind_some, class_ok, Option.bind_some]))]
  have e : s.b.any (fun b => decide (clsB b ≠ c)) = !s.b.all (fun b => decide (clsB b = c)) := by
    rw [List.not_all_eq_any_not]; congr 1; funext b; simp
  rw [e]
  have h0 : decide (0 < (s.b.length : Int)) = decide (s.b ≠ []) := by
    cases s.b <;> simp
  cases s.b.all (fun b => decide (clsB b = c)) with
  | true =>
    show some (decide (0 < (s.b.length : Int))) = _
    rw [h0, Bool.true_and]
  | false => rfl
theorem cls1 (b : UInt8) : decide (clsB b = 1) = letB b := by
  cases h1 : letB b <;> cases h2 : digB b <;> by_cases h3 : b ∈ sgnL <;> by_cases h4 : b = 32 ∨ b = 10 <;> simp [clsB, h1, h2, h3, h4]
theorem nameS_ok (s : Str) : spec_IsName s = some (nameB s) := by
  unfold spec_IsName
  rw [all_ok, key_ok]
  have e : s.b.all (fun b => decide (clsB b = 1)) = s.b.all letB := by congr 1; funext b; exact cls1 b
  have e2 : decide ((s.b.length : Int) ≤ 4) = decide (s.b.length ≤ 4) := by rw [decide_eq_decide]; omega
  rw [e, e2]
  unfold nameB
  cases s.b.all letB <;> cases decide (s.b ≠ []) <;> cases decide (s.b.length ≤ 4) <;> rfl
theorem let_iff {b : UInt8} : letB b = true ↔ 97 ≤ b.toNat ∧ b.toNat ≤ 122 := by
  unfold letB
  rw [Bool.and_eq_true, decide_eq_true_iff, decide_eq_true_iff, UInt8.le_iff_toNat_le, UInt8.le_iff_toNat_le]
  rfl
theorem rune_ok (x : Int) : impl_IsName_1 x = some (decide (x < 97 ∨ 122 < x)) := by
  unfold impl_IsName_1
  by_cases h : x < 97 <;> simp [h]
theorem idx_names (s : ByteArray) (p : Nat → Bool) (hp : ∀ x : Nat, p x = decide (x < 97 ∨ 122 < x)) : ∀ (f pos : Nat), s.size - pos ≤ f → pos ≤ s.size → (Lib.idxFuncFrom p true s f pos < 0 ↔ (s.data.toList.drop pos).all letB = true) := by
  have hsz : s.data.toList.length = s.size := by rw [Array.length_toList]; rfl
  intro f
  induction f with
  | zero =>
    intro pos h h2
    have : pos = s.size := by omega
    subst this
    have : s.data.toList.drop s.size = [] := List.drop_eq_nil_of_le (by omega)
    rw [this]
    simp [Lib.idxFuncFrom]
  | succ f ih =>
    intro pos h h2
    unfold Lib.idxFuncFrom
    by_cases hlt : pos < s.size
    · rw [if_pos hlt]
      have hl : pos < s.data.toList.length := by omega
      have hd : s.data.toList.drop pos = s[pos]'hlt :: s.data.toList.drop (pos + 1) := by
        rw [List.drop_eq_getElem_cons hl]; rfl
      rw [hd, List.all_cons]
      by_cases ha : (s[pos]'hlt).toNat < 128
      · rw [decode_ascii s pos hlt ha, hp]
        cases hb : letB (s[pos]'hlt) with
        | true =>
          have := let_iff.1 hb
          rw [if_neg (by simp; omega), ih (pos + 1) (by omega) (by omega)]
          simp
        | false =>
          have : ¬ (97 ≤ (s[pos]'hlt).toNat ∧ (s[pos]'hlt).toNat ≤ 122) := fun h => by rw [let_iff.2 h] at hb; cases hb
          rw [if_pos (by simp; omega)]
          simp
      · obtain ⟨h3, _⟩ := decode_high s pos hlt (by omega)
        rw [hp, if_pos (by simp; omega)]
        have : letB (s[pos]'hlt) = false := by
          cases hb : letB (s[pos]'hlt) with
          | true => have := let_iff.1 hb; omega
          | false => rfl
        rw [this]
        simp
    · have : pos = s.size := by omega
      subst this
      have : s.data.toList.drop s.size = [] := List.drop_eq_nil_of_le (by omega)
      rw [this, if_neg hlt]
      simp
theorem within_ok (n lo hi : Int) : impl_within n lo hi = some (inB n lo hi) := by
  unfold impl_within inB
  by_cases h : lo ≤ n <;> simp [h]
theorem l1In_ok (n lo hi : Int) : spec_l1In n lo hi = some (inB n lo hi) := by
  unfold spec_l1In inB
  by_cases h : lo ≤ n <;> simp [h]
theorem name_ok (s : Str) : impl_IsName s = some (nameB s) := by
  have hi : ∃ n : Int, strings_IndexFunc s (fun y0 => impl_IsName_1 y0) = some n ∧ (n < 0 ↔ s.b.all letB = true) := by
    unfold strings_IndexFunc idxFuncM
    rw [if_pos fun x _ => by show (impl_IsName_1 (x : Int)).isSome = true; rw [rune_ok]; rfl]
    refine ⟨_, rfl, ?_⟩
    have := idx_names ⟨s.b.toArray⟩ (fun x => (impl_IsName_1 (x : Int)).getD false) (fun x => by show (impl_IsName_1 (x : Int)).getD false = _; rw [rune_ok]; show decide _ = decide _; rw [decide_eq_decide]; omega) (⟨s.b.toArray⟩ : ByteArray).size 0 (by omega) (by omega)
    simpa [Lib.idxFunc] using this
  obtain ⟨n, h1, h2⟩ := hi
  unfold impl_IsName
  rw [within_ok, h1, has_ok, Option.bind_some]
  simp only [Option.bind_some]
  have h3 : inB (s.b.length : Int) 1 4 = (decide (s.b ≠ []) && decide (s.b.length ≤ 4)) := by
    have e1 : decide ((1 : Int) ≤ (s.b.length : Int)) = decide (s.b ≠ []) := by
      rw [decide_eq_decide]
      constructor
      · intro h h'; rw [h'] at h; simp at h
      · intro h
        have := List.length_pos_iff.2 h
        omega
    have e2 : decide ((s.b.length : Int) ≤ 4) = decide (s.b.length ≤ 4) := by rw [decide_eq_decide]; omega
    show (decide ((1 : Int) ≤ (s.b.length : Int)) && decide ((s.b.length : Int) ≤ 4)) = _
    rw [e1, e2]
  have h4 : decide (n < 0) = s.b.all letB := by
    cases hb : s.b.all letB with
    | true => simp [h2.2 hb]
    | false =>
      have : ¬ n < 0 := fun h => by rw [h2.1 h] at hb; cases hb
      simp [this]
  rw [h3, h4]
  unfold nameB keyB
  cases s.b.all letB <;> cases decide (s.b ≠ []) <;> cases decide (s.b.length ≤ 4) <;> rfl
end Prg
end Go.Wk
namespace Go.Wk
open Go
namespace Prg
set_option maxRecDepth 10000
def vD (acc : Nat) (l : List UInt8) : Nat := l.foldl (fun n c => n * 10 + (c.toNat - 48)) acc
theorem dig_iff {b : UInt8} : digB b = true ↔ 48 ≤ b.toNat ∧ b.toNat ≤ 57 := by
  unfold digB
  rw [Bool.and_eq_true, decide_eq_true_iff, decide_eq_true_iff, UInt8.le_iff_toNat_le, UInt8.le_iff_toNat_le]
  rfl
theorem vD_ge : ∀ (l : List UInt8) (acc : Nat), acc * 10 ^ l.length ≤ vD acc l
  | [], acc => by simp [vD]
  | c :: l, acc => by
    have h := vD_ge l (acc * 10 + (c.toNat - 48))
    have e : vD acc (c :: l) = vD (acc * 10 + (c.toNat - 48)) l := rfl
    rw [e]
    refine Nat.le_trans ?_ h
    rw [List.length_cons, Nat.pow_succ, show acc * (10 ^ l.length * 10) = (acc * 10) * 10 ^ l.length by rw [Nat.mul_comm (10 ^ l.length), Nat.mul_assoc]]
    exact Nat.mul_le_mul_right _ (Nat.le_add_right _ _)
theorem vD_lt : ∀ (l : List UInt8) (acc : Nat), l.all digB = true → vD acc l < (acc + 1) * 10 ^ l.length
  | [], acc, _ => by simp [vD]
  | c :: l, acc, h => by
    rw [List.all_cons, Bool.and_eq_true, dig_iff] at h
    have h1 := vD_lt l (acc * 10 + (c.toNat - 48)) h.2
    have e : vD acc (c :: l) = vD (acc * 10 + (c.toNat - 48)) l := rfl
    rw [e]
    refine Nat.lt_of_lt_of_le h1 ?_
    rw [List.length_cons, Nat.pow_succ, show (acc + 1) * (10 ^ l.length * 10) = ((acc + 1) * 10) * 10 ^ l.length by rw [Nat.mul_comm (10 ^ l.length), Nat.mul_assoc]]
    exact Nat.mul_le_mul_right _ (by omega)
theorem vD_snoc (acc : Nat) (l : List UInt8) (c : UInt8) : vD acc (l ++ [c]) = vD acc l * 10 + (c.toNat - 48) := by simp [vD]
theorem decFrom_ok : ∀ (l : List UInt8) (acc : Nat), l.all digB = true → Lib.decFrom acc l = some (vD acc l)
  | [], _, _ => rfl
  | c :: l, acc, h => by
    rw [List.all_cons, Bool.and_eq_true, dig_iff] at h
    have hd : Lib.digitVal c = some (c.toNat - 48) := by unfold Lib.digitVal; rw [if_pos h.1]
    show (match Lib.digitVal c with | some d => Lib.decFrom (acc * 10 + d) l | none => none) = _
    rw [hd]
    exact decFrom_ok l _ h.2
theorem atoi_digits {s : Str} (h0 : s.b ≠ []) (hl : s.b.length ≤ 18) (h : s.b.all digB = true) : strconv_Atoi s = some (((vD 0 s.b : Nat) : Int), ()) := by
  unfold strconv_Atoi atoiM
  rw [if_pos hl]
  obtain ⟨c, l, hc⟩ : ∃ c l, s.b = c :: l := by cases hs : s.b with | nil => exact absurd hs h0 | cons c l => exact ⟨c, l, rfl⟩
  have hd : Lib.decNat s.b = some (vD 0 s.b) := by
    unfold Lib.decNat
    rw [if_neg (by rw [hc]; simp), decFrom_ok s.b 0 h]
  rw [hc] at hd h ⊢
  rw [List.all_cons, Bool.and_eq_true, dig_iff] at h
  have e1 : (c == 45) = false := by
    rw [beq_eq_false_iff_ne]; rintro rfl; have := h.1; simp at this
  have e2 : (c == 43) = false := by
    rw [beq_eq_false_iff_ne]; rintro rfl; have := h.1; simp at this
  show Option.map (fun n => (n, ())) (if (c == 45) = true then (Lib.decNat l).map (fun (m : Nat) => -(m : Int)) else if (c == 43) = true then (Lib.decNat l).map (fun (m : Nat) => (m : Int)) else (Lib.decNat (c :: l)).map (fun (m : Nat) => (m : Int))) = _
  rw [e1, e2, hd]
  rfl
def zeroB (l : List UInt8) : Bool := decide (1 < l.length) && decide (l[0]? = some 48)
def numI (s : Str) : Int := if s.b ≠ [] ∧ s.b.all digB = true ∧ zeroB s.b = false ∧ vD 0 s.b ≤ 255 then (vD 0 s.b : Nat) else -1
theorem num_long {l : List UInt8} (hz : zeroB l = false) (hd : l.all digB = true) (hl : 4 ≤ l.length) : 255 < vD 0 l := by
  cases l with
  | nil => simp at hl
  | cons c l =>
    rw [List.all_cons, Bool.and_eq_true, dig_iff] at hd
    have h1 : c ≠ 48 := by
      rintro rfl
      unfold zeroB at hz
      simp at hz
      simp at hl
      rw [hz] at hl
      simp at hl
    have h2 : c.toNat ≠ 48 := fun e => h1 (UInt8.toNat_inj.1 e)
    have h3 := vD_ge l (c.toNat - 48)
    have e : vD 0 (c :: l) = vD (c.toNat - 48) l := by show vD (0 * 10 + (c.toNat - 48)) l = _; rw [Nat.zero_mul, Nat.zero_add]
    rw [e]
    simp at hl
    have h4 : 10 ^ 3 ≤ 10 ^ l.length := Nat.pow_le_pow_right (by decide) hl
    have h5 : 1 * 10 ^ l.length ≤ (c.toNat - 48) * 10 ^ l.length := Nat.mul_le_mul_right _ (by omega)
    omega
theorem decimal_ok (s : Str) : impl_decimal s 255 = some (numI s) := by
  unfold impl_decimal
  by_cases h0 : s.b = []
  · have : s = mkS [] := Str.ext' h0
    subst this
    simp [numI, mkS]
  have h0' : s ≠ mkS [] := fun e => h0 (by rw [e]; rfl)
  obtain ⟨c, l, hc⟩ : ∃ c l, s.b = c :: l := by cases hs : s.b with | nil => exact absurd hs h0 | cons c l => exact ⟨c, l, rfl⟩
  have hg : getI s.b 0 = some c := by rw [hc]; rfl
  have hz : (if decide (1 < (s.b.length : Int)) then Option.bind (getI s.b 0) fun x1_1 => some (decide (x1_1 = (48 : UInt8))) else some false : Option Bool) = some (zeroB s.b) := by
    unfold zeroB
    rw [hg, Option.bind_some]
    have : decide (s.b[0]? = some 48) = decide (c = 48) := by rw [hc]; simp
    rw [this]
    have e : decide (1 < (s.b.length : Int)) = decide (1 < s.b.length) := by rw [decide_eq_decide]; omega
    rw [e]
    cases decide (1 < s.b.length) <;> rfl
  rw [hz]
  simp only [h0', decide_false, Bool.false_eq_true, if_false]
  by_cases h5 : 5 < (s.b.length : Int)
  · simp only [h5, decide_true, if_true, Option.bind_some]
    unfold numI
    rw [if_neg]
    rintro ⟨_, h2, h3, h4⟩
    have := num_long h3 h2 (by omega)
    omega
  · simp only [h5, decide_false, Bool.false_eq_true, if_false, Option.bind_some]
    cases hzb : zeroB s.b with
    | true =>
      simp only [if_true]
      unfold numI
      rw [if_neg]
      rintro ⟨_, _, h3, _⟩
      rw [hzb] at h3; cases h3
    | false =>
      simp only [Bool.false_eq_true, if_false]
      rw [bindc (forN_any (xs := s.b) (body := (fun (i1_1 : Int) (xs1_1 : Unit) => (Option.bind (getI (s).b i1_1) fun x1_2 => Option.bind (impl_isDigit x1_2) fun r1_1 => if !(r1_1) then some (.inr (-1)) else some (.inl ()) : Option ((Unit) ⊕ (Int))))) (fun b => !digB b) (-1) (fun l x r he => by
        rw [he, getI_mid, Option.bind_some, digit_ok, Option.bind_some]))]
      have e : s.b.any (fun b => !digB b) = !s.b.all digB := by rw [List.not_all_eq_any_not]
      rw [e]
      cases hd : s.b.all digB with
      | false =>
        show some (-1 : Int) = _
        unfold numI
        rw [if_neg]
        rintro ⟨_, h2, _⟩
        rw [hd] at h2; cases h2
      | true =>
        show Option.bind (strconv_Atoi s) _ = _
        rw [atoi_digits h0 (by omega) hd, Option.bind_some]
        unfold numI
        by_cases h : vD 0 s.b ≤ 255
        · have e3 : ¬ (255 : Int) < ((vD 0 s.b : Nat) : Int) := by omega
          simp only [e3, decide_false, Bool.false_eq_true, if_false]
          rw [if_pos ⟨h0, hd, hzb, h⟩]
        · have e3 : (255 : Int) < ((vD 0 s.b : Nat) : Int) := by omega
          simp only [e3, decide_true, if_true]
          rw [if_neg (fun h' => h h'.2.2.2)]
theorem u8sub {b : UInt8} (h : digB b = true) : (b - (48 : UInt8)).toNat = b.toNat - 48 := by
  have := dig_iff.1 h
  rw [UInt8.toNat_sub]
  have h48 : (48 : UInt8).toNat = 48 := rfl
  omega
theorem num_loop {s : Str} (hl : s.b.length ≤ 17) : forN (fun (i1_1 : Int) (xs1_1 : Int) => (Option.bind (Option.bind (getI (s).b i1_1) fun x2_1 => if decide (x2_1 < (48 : UInt8)) then some true else Option.bind (getI (s).b i1_1) fun x2_2 => some (decide ((57 : UInt8) < x2_2)) : Option (Bool)) fun s1_1 => if s1_1 then some (.inr (0, false)) else Option.bind (getI (s).b i1_1) fun x1_4 => some (.inl (w64 ((w64 (xs1_1 * 10)) + ((((x1_4 - (48 : UInt8))).toNat : Int))))) : Option ((Int) ⊕ (Int × Bool)))) (((s.b.length : Int) : Int) - 0).toNat 0 0 = if s.b.all digB then some (.inl ((vD 0 s.b : Nat) : Int)) else some (.inr ((0 : Int), false)) := by
  rcases forN_list (xs := s.b) (body := (fun (i1_1 : Int) (xs1_1 : Int) => (Option.bind (Option.bind (getI (s).b i1_1) fun x2_1 => if decide (x2_1 < (48 : UInt8)) then some true else Option.bind (getI (s).b i1_1) fun x2_2 => some (decide ((57 : UInt8) < x2_2)) : Option (Bool)) fun s1_1 => if s1_1 then some (.inr (0, false)) else Option.bind (getI (s).b i1_1) fun x1_4 => some (.inl (w64 ((w64 (xs1_1 * 10)) + ((((x1_4 - (48 : UInt8))).toNat : Int))))) : Option ((Int) ⊕ (Int × Bool))))) (s := (0 : Int)) (fun l x => l.all digB = true ∧ x = ((vD 0 l : Nat) : Int)) (fun y => y = ((0 : Int), false) ∧ s.b.all digB = false) ⟨rfl, rfl⟩ (fun l c r x he hI => by
    obtain ⟨h1, rfl⟩ := hI
    have hlen := congrArg List.length he
    simp at hlen
    rw [he, getI_mid, Option.bind_some, Option.bind_some, Option.bind_some]
    have hc1 : (if decide (c < (48 : UInt8)) then some true else some (decide ((57 : UInt8) < c)) : Option Bool) = some (!digB c) := by
      unfold digB
      have a1 : decide ((48 : UInt8) ≤ c) = !decide (c < (48 : UInt8)) := by
        rw [← decide_not, decide_eq_decide]; exact UInt8.not_lt.symm
      have a2 : decide (c ≤ (57 : UInt8)) = !decide ((57 : UInt8) < c) := by
        rw [← decide_not, decide_eq_decide]; exact UInt8.not_lt.symm
      rw [a1, a2]
      cases decide (c < (48 : UInt8)) <;> simp
    rw [hc1, Option.bind_some]
    cases hd : digB c with
    | false =>
      refine .inr ⟨_, rfl, rfl, ?_⟩
      rw [List.all_append, List.all_cons, hd]; simp
    | true =>
      refine .inl ⟨_, rfl, by rw [List.all_append, h1, List.all_cons, hd]; rfl, ?_⟩
      have hv := vD_lt l 0 h1
      have hp : (10 : Nat) ^ l.length ≤ 10 ^ 16 := Nat.pow_le_pow_right (by decide) (by omega)
      have hcd := dig_iff.1 hd
      rw [vD_snoc, u8sub hd, w64_id (n := ((vD 0 l : Nat) : Int) * 10) (by omega) (by omega), w64_id (by omega) (by omega)]
      omega) with ⟨x, h1, h2, rfl⟩ | ⟨y, h1, rfl, h2⟩
  · rw [h1, h2]; rfl
  · rw [h1, h2]; rfl
theorem l30Num_ok (s : Str) : ∃ n ok, spec_l30Num s = some (n, ok) ∧ (ok && inB n 0 255) = decide (0 ≤ numI s) ∧ (0 ≤ numI s → n = numI s) := by
  have hneg : ∀ {p : Prop}, numI s = -1 → (0 ≤ numI s → p) := fun h h' => by omega
  unfold spec_l30Num
  cases hs : s.b with
  | nil =>
    have : numI s = -1 := by unfold numI; rw [hs]; simp
    refine ⟨0, false, ?_, by rw [this]; rfl, hneg this⟩
    simp [hs]
  | cons c l =>
    have hg : getI (c :: l) 0 = some c := rfl
    have h1 : (if decide (0 < ((c :: l).length : Int)) then Option.bind (getI (c :: l) 0) fun x1_1 => some (decide (x1_1 = (45 : UInt8))) else some false : Option Bool) = some (decide (c = 45)) := by
      rw [if_pos (by simp), hg, Option.bind_some]
    rw [h1, Option.bind_some]
    have hz2 : ∀ (t : Str) (d : UInt8) (m : List UInt8) (ng : Bool), t.b = d :: m → (if decide (((t).b.length : Int) = 0) then some true else if decide (17 < ((t).b.length : Int)) then some true else Option.bind (getI (t).b 0) fun x1_3 => if decide (x1_3 = (48 : UInt8)) then (if decide (1 < ((t).b.length : Int)) then some true else some ng) else some false : Option Bool) = some (decide (17 < t.b.length) || (decide (d = 48) && (decide (1 < t.b.length) || ng))) := fun t d m ng ht => by
      have hg2 : getI t.b 0 = some d := by rw [ht]; rfl
      have a0 : ¬ ((t.b.length : Int) = 0) := by rw [ht]; simp; omega
      have a1 : decide (17 < (t.b.length : Int)) = decide (17 < t.b.length) := by rw [decide_eq_decide]; omega
      have a2 : decide (1 < (t.b.length : Int)) = decide (1 < t.b.length) := by rw [decide_eq_decide]; omega
      simp only [a0, decide_false, Bool.false_eq_true, if_false, a1, a2, hg2, Option.bind_some]
      cases decide (17 < t.b.length) <;> cases decide (d = 48) <;> cases decide (1 < t.b.length) <;> rfl
    by_cases hm : c = 45
    · subst hm
      have hI : numI s = -1 := by
        unfold numI
        rw [if_neg]
        rintro ⟨_, h2, _⟩
        rw [hs, List.all_cons] at h2
        simp [digB] at h2
      obtain ⟨t, ht, htb⟩ : ∃ t, subS s 1 (s.b.length : Int) = some t ∧ t.b = l := by
        refine ⟨_, subS_some.2 ⟨⟨by omega, by rw [hs]; simp; omega, by omega⟩, rfl⟩, ?_⟩
        show ((s.b.take _).drop _) = l
        rw [hs]; simp
      have hsub : (if decide ((45 : UInt8) = 45) then Option.bind (subS s 1 (((45 : UInt8) :: l).length : Int)) fun x1_2 => some x1_2 else some s : Option Str) = some t := by
        rw [hs] at ht
        rw [if_pos (by decide), ht]; rfl
      rw [hsub, Option.bind_some]
      cases hl : l with
      | nil =>
        rw [hl] at htb
        refine ⟨0, false, ?_, by rw [hI]; rfl, hneg hI⟩
        simp [htb]
      | cons d m =>
        rw [hl] at htb
        rw [hz2 t d m _ htb, Option.bind_some]
        cases hb : (decide (17 < t.b.length) || (decide (d = 48) && (decide (1 < t.b.length) || decide ((45 : UInt8) = 45)))) with
        | true => exact ⟨0, false, rfl, by rw [hI]; rfl, hneg hI⟩
        | false =>
          simp only [Bool.or_eq_false_iff, decide_eq_false_iff_not] at hb
          simp only [Bool.false_eq_true, if_false]
          rw [bindc (num_loop (s := t) (by omega))]
          cases hd : t.b.all digB with
          | false => exact ⟨0, false, rfl, by rw [hI]; rfl, hneg hI⟩
          | true =>
            have h48 : d ≠ 48 := by
              rintro rfl
              simp at hb
            rw [htb, List.all_cons, Bool.and_eq_true, dig_iff] at hd
            have hlen : t.b.length ≤ 17 := by omega
            have hv := vD_ge m (d.toNat - 48)
            have e : vD 0 t.b = vD (d.toNat - 48) m := by rw [htb]; show vD (0 * 10 + (d.toNat - 48)) m = _; rw [Nat.zero_mul, Nat.zero_add]
            have h2 : d.toNat ≠ 48 := fun e => h48 (UInt8.toNat_inj.1 e)
            have h5 : 1 * 10 ^ m.length ≤ (d.toNat - 48) * 10 ^ m.length := Nat.mul_le_mul_right _ (by omega)
            have h6 : 0 < 10 ^ m.length := Nat.pow_pos (by decide)
            have h7 := vD_lt t.b 0 (by rw [htb, List.all_cons, Bool.and_eq_true, dig_iff]; exact hd)
            have h8 : (10 : Nat) ^ t.b.length ≤ 10 ^ 17 := Nat.pow_le_pow_right (by decide) hlen
            refine ⟨-((vD 0 t.b : Nat) : Int), true, ?_, ?_, hneg hI⟩
            · have hw : w64 (0 - ((vD 0 t.b : Nat) : Int)) = -((vD 0 t.b : Nat) : Int) := by rw [w64_id (by omega) (by omega), Int.zero_sub]
              simp only [if_true, Option.bind_some, Sum.elim_inl, decide_true, hw]
            · rw [hI]
              have h9 : decide (0 ≤ -((vD 0 t.b : Nat) : Int)) = false := by rw [decide_eq_false_iff_not]; omega
              unfold inB
              rw [h9]; rfl
    · have hsub : (if decide (c = 45) then Option.bind (subS s 1 ((c :: l).length : Int)) fun x1_2 => some x1_2 else some s : Option Str) = some s := by rw [if_neg (by simpa using hm)]
      rw [hsub, Option.bind_some, hz2 s c l _ hs, Option.bind_some]
      have hcm : decide (c = 45) = false := by simpa using hm
      rw [hcm, Bool.or_false]
      have hzb : zeroB s.b = (decide (c = 48) && decide (1 < s.b.length)) := by
        unfold zeroB
        rw [Bool.and_comm, hs]; simp
      rw [← hzb]
      cases hb : (decide (17 < s.b.length) || zeroB s.b) with
      | true =>
        have hI : numI s = -1 := by
          unfold numI
          rw [if_neg]
          rintro ⟨_, h2, h3, h4⟩
          rw [h3, Bool.or_false, decide_eq_true_iff] at hb
          have := num_long h3 h2 (by omega)
          omega
        exact ⟨0, false, rfl, by rw [hI]; rfl, hneg hI⟩
      | false =>
        rw [Bool.or_eq_false_iff, decide_eq_false_iff_not] at hb
        simp only [Bool.false_eq_true, if_false]
        rw [bindc (num_loop (s := s) (by omega))]
        cases hd : s.b.all digB with
        | false =>
          have hI : numI s = -1 := by
            unfold numI
            rw [if_neg]
            rintro ⟨_, h2, _⟩
            rw [hd] at h2; cases h2
          exact ⟨0, false, rfl, by rw [hI]; rfl, hneg hI⟩
        | true =>
          refine ⟨((vD 0 s.b : Nat) : Int), true, rfl, ?_, fun h => ?_⟩
          · unfold numI
            by_cases h : vD 0 s.b ≤ 255
            · rw [if_pos ⟨by rw [hs]; simp, hd, hb.2, h⟩]
              have a : ((vD 0 s.b : Nat) : Int) ≤ 255 := by omega
              simp [inB, a]
            · rw [if_neg (fun h' => h h'.2.2.2)]
              have a : ¬ ((vD 0 s.b : Nat) : Int) ≤ 255 := by omega
              simp [inB, a]
          · unfold numI at h ⊢
            split
            · rfl
            · rename_i h'; rw [if_neg h'] at h; omega
end Prg
end Go.Wk
namespace Go.Wk
open Go
namespace Prg
set_option maxRecDepth 10000
def wordB (w : Word_) : Bool :=
  if w.kind = 1 then nameB w.text else if w.kind = 2 then decide (0 ≤ numI w.text) else if w.kind = 3 then (match w.text.b with | [c] => decide (c ∈ sgnL) | _ => false) else if w.kind = 4 then keyB w.text else false
def numW (w : Word_) : Int := if w.kind = 2 then numI w.text else -1
theorem indexByte_iff (c : UInt8) : ∀ l : List UInt8, 0 ≤ Lib.indexByte l c ↔ c ∈ l
  | [] => by simp [Lib.indexByte]
  | b :: l => by
    have ih := indexByte_iff c l
    have hg := Lib.indexByte_ge l c
    unfold Lib.indexByte
    by_cases h : b = c
    · subst h; simp
    · have h1 : (b == c) = false := beq_eq_false_iff_ne.2 h
      rw [h1]
      simp only [Bool.false_eq_true, if_false, List.mem_cons]
      by_cases h2 : Lib.indexByte l c = -1
      · have h3 : (Lib.indexByte l c == -1) = true := by rw [h2]; rfl
        rw [h3]
        simp only [if_true]
        rw [h2] at ih
        constructor
        · intro h'; omega
        · rintro (h' | h')
          · exact absurd h'.symm h
          · have := ih.2 h'; omega
      · have h3 : (Lib.indexByte l c == -1) = false := beq_eq_false_iff_ne.2 h2
        rw [h3]
        simp only [Bool.false_eq_true, if_false]
        constructor
        · intro h'; exact .inr (ih.1 (by omega))
        · rintro (h' | h')
          · exact absurd h'.symm h
          · have := ih.2 h'; omega
theorem valid_ok (w : Word_) : impl_WordValid w = some (wordB w) := by
  unfold impl_WordValid wordB
  rw [name_ok, decimal_ok, has_ok, Option.bind_some, Option.bind_some, Option.bind_some]
  by_cases h1 : w.kind = 1
  · simp [h1]
  by_cases h2 : w.kind = 2
  · simp [h2]
  by_cases h3 : w.kind = 3
  · simp only [h3, decide_true, if_true, show ((3 : Int) = 1) = False by simp, show ((3 : Int) = 2) = False by simp, decide_false, Bool.false_eq_true, if_false]
    cases hb : w.text.b with
    | nil => simp
    | cons c l =>
      cases l with
      | nil =>
        have : strings_Contains (mkS [40, 41, 123, 125, 59, 44, 43, 45, 42, 47, 37, 60, 61, 38, 33, 64]) w.text = some (decide (c ∈ sgnL)) := by
          unfold strings_Contains containsM
          rw [hb]
          show some (decide (0 ≤ Lib.indexByte sgnL c)) = _
          congr 1
          exact decide_eq_decide.2 (indexByte_iff c sgnL)
        simp [this]
      | cons d l => simp; omega
  by_cases h4 : w.kind = 4
  · simp [h4, keyB]
  · simp [h1, h2, h3, h4]
theorem cls3 (b : UInt8) : decide (clsB b = 3) = decide (b ∈ sgnL) := by
  cases h1 : letB b <;> cases h2 : digB b <;> by_cases h3 : b ∈ sgnL <;> by_cases h4 : b = 32 ∨ b = 10 <;> simp [clsB, h1, h2, h3, h4]
  all_goals
    have key : ∀ c ∈ sgnL, letB c = false ∧ digB c = false := by decide
    have := key b h3
    simp_all
theorem validS_ok (w : Word_) : spec_WordValid w = some (wordB w) := by
  unfold spec_WordValid wordB
  rw [nameS_ok, key_ok, Option.bind_some, Option.bind_some]
  by_cases h1 : w.kind = 1
  · simp [h1]
  by_cases h2 : w.kind = 2
  · simp only [h2, decide_true, if_true, show ((2 : Int) = 1) = False by simp, decide_false, Bool.false_eq_true, if_false]
    obtain ⟨n, ok, e1, e2, _⟩ := l30Num_ok w.text
    rw [e1, Option.bind_some, l1In_ok, Option.bind_some, ← e2]
    cases ok <;> rfl
  by_cases h3 : w.kind = 3
  · simp only [h3, decide_true, if_true, show ((3 : Int) = 1) = False by simp, show ((3 : Int) = 2) = False by simp, decide_false, Bool.false_eq_true, if_false]
    cases hb : w.text.b with
    | nil => simp
    | cons c l =>
      cases l with
      | nil =>
        have : getI [c] 0 = some c := rfl
        simp [this, class_ok, cls3]
      | cons d l => simp; omega
  by_cases h4 : w.kind = 4
  · simp [h4]
  · simp [h1, h2, h3, h4]
theorem number_ok (w : Word_) : impl_NumberOf w = some (numW w) := by
  unfold impl_NumberOf numW
  rw [decimal_ok]
  by_cases h : w.kind = 2 <;> simp [h]
theorem numberS_ok (w : Word_) : spec_NumberOf w = some (numW w) := by
  unfold spec_NumberOf numW
  by_cases h : w.kind = 2
  · obtain ⟨n, ok, e1, e2, e3⟩ := l30Num_ok w.text
    simp only [h, ne_eq, not_true_eq_false, decide_false, Bool.false_eq_true, if_false, if_true, validS_ok, e1, Option.bind_some]
    have : wordB w = decide (0 ≤ numI w.text) := by unfold wordB; rw [if_neg (by rw [h]; decide), if_pos h]
    rw [this]
    by_cases h0 : 0 ≤ numI w.text
    · simp [h0, e3 h0]
    · have : numI w.text = -1 := by
        unfold numI at h0 ⊢
        split
        · rename_i h'; rw [if_pos h'] at h0; omega
        · rfl
      simp [h0, this]
  · simp [h]
def toS (l : List UInt8) : Str := if h : l.length ≤ 140737488355328 then ⟨l, h⟩ else mkS []
theorem toS_b {l : List UInt8} (h : l.length ≤ 140737488355328) : (toS l).b = l := by unfold toS; rw [dif_pos h]
theorem toS_eq {s : Str} : toS s.b = s := by unfold toS; rw [dif_pos s.h]
def kindB (c : UInt8) (s : Str) : Int := if keyB s then 4 else if letB c then 1 else if digB c then 2 else 3
theorem key_let {s : Str} {c : UInt8} {l : List UInt8} (hs : s.b = c :: l) (h : keyB s = true) : letB c = true := by
  have hm : s ∈ glob_impl_keys := of_decide_eq_true h
  have key : ∀ k ∈ glob_impl_keys, ∃ c l, k.b = c :: l ∧ letB c = true := by
    intro k hk
    unfold glob_impl_keys at hk
    simp only [List.mem_cons, List.not_mem_nil, or_false] at hk
    rcases hk with rfl | rfl | rfl | rfl | rfl | rfl | rfl | rfl | rfl <;> exact ⟨_, _, rfl, by decide⟩
  obtain ⟨c', l', h1, h2⟩ := key s hm
  rw [hs] at h1
  cases h1; exact h2
theorem let_dig {c : UInt8} (h : letB c = true) : digB c = false := by
  cases hd : digB c with
  | false => rfl
  | true => have := let_iff.1 h; have := dig_iff.1 hd; omega
theorem word_ok {s : Str} {c : UInt8} {l : List UInt8} (hs : s.b = c :: l) : impl_wordOf s = some ⟨kindB c s, s⟩ := by
  unfold impl_wordOf kindB
  have hg : getI s.b 0 = some c := by rw [hs]; rfl
  rw [hg, Option.bind_some, digit_ok, has_ok, Option.bind_some, Option.bind_some, Option.bind_some, letter_ok, Option.bind_some]
  show (if digB c then some (⟨2, s⟩ : Word_) else if keyB s then some ⟨4, s⟩ else if letB c then some ⟨1, s⟩ else some ⟨3, s⟩) = _
  cases hk : keyB s with
  | true => rw [let_dig (key_let hs hk)]; rfl
  | false => cases hl : letB c <;> cases hd : digB c <;> first | rfl | (rw [let_dig hl] at hd; cases hd)
theorem wordS_ok {s : Str} {c : UInt8} {l : List UInt8} (hs : s.b = c :: l) (hc : clsB c ≠ 0) (hc4 : clsB c ≠ 4) : spec_l1Word s = some ⟨kindB c s, s⟩ := by
  unfold spec_l1Word kindB
  have hg : getI s.b 0 = some c := by rw [hs]; rfl
  rw [hg, Option.bind_some, class_ok, key_ok, Option.bind_some, Option.bind_some]
  cases hk : keyB s with
  | true => rfl
  | false =>
    show some (⟨clsB c, s⟩ : Word_) = _
    have : clsB c = if letB c then 1 else if digB c then 2 else 3 := by
      revert hc hc4
      unfold clsB
      cases letB c <;> cases digB c <;> (try by_cases h3 : c ∈ sgnL) <;> (try by_cases h4 : c = 32 ∨ c = 10) <;> simp [*]
    rw [this]; rfl
end Prg
end Go.Wk
namespace Go.Wk
open Go
namespace Prg
set_option maxRecDepth 10000
def runP (c : UInt8) (x : UInt8) : Bool := if letB c then letB x else if digB c then digB x else false
def mkWd (c : UInt8) (l : List UInt8) : Word_ := ⟨kindB c (toS (c :: l)), toS (c :: l)⟩
def blkB (c : UInt8) : Bool := decide (c = 32 ∨ c = 10)
theorem drop_le (p : UInt8 → Bool) : ∀ l : List UInt8, (l.dropWhile p).length ≤ l.length
  | [] => Nat.le_refl _
  | a :: l => by
    rw [List.dropWhile_cons]
    split
    · exact Nat.le_trans (drop_le p l) (Nat.le_succ _)
    · exact Nat.le_refl _
def tok (l : List UInt8) : Option (List Word_) := match l with
  | [] => some []
  | c :: r => if blkB c then tok r else
    if wordB (mkWd c (r.takeWhile (runP c))) then (tok (r.dropWhile (runP c))).map (mkWd c (r.takeWhile (runP c)) :: ·) else none
termination_by l.length
decreasing_by
  · simp
  · exact Nat.lt_succ_of_le (drop_le _ _)
theorem tok_nil : tok [] = some [] := by rw [tok]
theorem tok_cons (c : UInt8) (r : List UInt8) : tok (c :: r) = if blkB c then tok r else
    if wordB (mkWd c (r.takeWhile (runP c))) then (tok (r.dropWhile (runP c))).map (mkWd c (r.takeWhile (runP c)) :: ·) else none := by rw [tok]
def cutR (s : Str) : Option (List Word_) := if s.b.length ≤ 3000 then (tok s.b).filter (fun ws => decide (ws.length ≤ 600)) else none
def cutV (s : Str) : List Word_ × Bool := match cutR s with
  | some ws => (ws, true)
  | none => ([], false)
theorem run_loop {s : Str} (hs : s.b.length ≤ 3000) (p : UInt8 → Bool) {body : Int → Option (Int ⊕ Int)}
    (hb : ∀ k : Int, body k = Option.bind (if decide (k < (s.b.length : Int)) then Option.bind (getI s.b k) fun x => some (p x) else some false : Option Bool) fun t => if t then some (.inl (w64 (k + 1))) else some (.inr k)) :
    ∀ (l : List UInt8) (k : Nat), s.b.drop k = l → k ≤ s.b.length → loopM body (k : Int) = some ((k + (l.takeWhile p).length : Nat) : Int) := by
  intro l
  induction l with
  | nil =>
    intro k he hk
    have : s.b.length ≤ k := List.drop_eq_nil_iff.1 he
    refine loopM_inr ?_
    rw [hb, if_neg (by simp; omega)]
    simp
  | cons c l ih =>
    intro k he hk
    have hlt : k < s.b.length := by
      rcases Nat.lt_or_ge k s.b.length with h | h
      · exact h
      · rw [List.drop_eq_nil_of_le h] at he; cases he
    have hg : getI s.b (k : Int) = some c := by
      rw [getI_nat]
      have := congrArg (fun l => l[0]?) he
      simpa using this
    have hd : s.b.drop (k + 1) = l := by rw [← List.drop_drop, he]; rfl
    rw [List.takeWhile_cons]
    cases hp : p c with
    | true =>
      have := ih (k + 1) hd (by omega)
      rw [loopM_inl (s' := ((k + 1 : Nat) : Int))]
      · rw [this]; simp; omega
      · rw [hb, if_pos (by simp; omega), hg, Option.bind_some, hp, Option.bind_some, if_pos rfl, w64_id (by omega) (by omega)]
        rfl
    | false =>
      refine loopM_inr ?_
      rw [hb, if_pos (by simp; omega), hg, Option.bind_some, hp, Option.bind_some]
      simp
theorem take_drop (p : UInt8 → Bool) (l : List UInt8) : l.drop (l.takeWhile p).length = l.dropWhile p := by
  conv => lhs; arg 2; rw [← List.takeWhile_append_dropWhile (p := p) (l := l)]
  rw [List.drop_left]
theorem sub_run {s : Str} {k : Nat} {c : UInt8} {r : List UInt8} (p : UInt8 → Bool) (he : s.b.drop k = c :: r) (hk : k + 1 + (r.takeWhile p).length ≤ s.b.length) : subS s (k : Int) ((k + 1 + (r.takeWhile p).length : Nat) : Int) = some (toS (c :: r.takeWhile p)) := by
  refine subS_some.2 ⟨⟨by omega, by omega, by omega⟩, Str.ext' ?_⟩
  have hl : (c :: r.takeWhile p).length ≤ 140737488355328 := by
    have := s.h
    simp; omega
  rw [toS_b hl]
  show (s.b.take _).drop _ = _
  rw [List.drop_take, show ((k : Int)).toNat = k by omega, he, show (((k + 1 + (r.takeWhile p).length : Nat) : Int)).toNat - k = (r.takeWhile p).length + 1 by omega, List.take_succ_cons]
  congr 1
  conv => lhs; arg 2; rw [← List.takeWhile_append_dropWhile (p := p) (l := r)]
  rw [List.take_left]
theorem run_cls {c x : UInt8} (hc : blkB c = false) (h0 : clsB c ≠ 0) : (decide (clsB x = clsB c) && decide (clsB c < 3)) = runP c x := by
  unfold runP
  cases h1 : letB c with
  | true =>
    have : clsB c = 1 := by unfold clsB; rw [h1]; rfl
    rw [this, cls1]; simp
  | false =>
    cases h2 : digB c with
    | true =>
      have e : clsB c = 2 := by unfold clsB; rw [h1, h2]; rfl
      have e2 : decide (clsB x = 2) = digB x := by
        cases h3 : letB x <;> cases h4 : digB x <;> by_cases h5 : x ∈ sgnL <;> by_cases h6 : x = 32 ∨ x = 10 <;> simp [clsB, h3, h4, h5, h6]
        all_goals (have := let_dig h3; rw [h4] at this; cases this)
      rw [e, e2]; simp
    | false =>
      have : ¬ clsB c < 3 := by
        revert h0
        unfold clsB
        rw [h1, h2]
        by_cases h5 : c ∈ sgnL <;> by_cases h6 : c = 32 ∨ c = 10 <;> simp [h5, h6]
      simp [this]
theorem blk_cls (c : UInt8) : blkB c = decide (clsB c = 4) := by
  unfold blkB
  by_cases h : c = 32 ∨ c = 10
  · rcases h with rfl | rfl <;> decide
  · rw [decide_eq_false h]
    symm
    rw [decide_eq_false_iff_not]
    unfold clsB
    cases letB c <;> cases digB c <;> by_cases h5 : c ∈ sgnL <;> simp [h, h5]
def endI (acc : List Word_) (o : Option (List Word_)) : (List Word_ × Bool) ⊕ List Word_ := match o with
  | some ws => if acc.length + ws.length ≤ 600 then .inr (acc ++ ws) else .inl ([], false)
  | none => .inl ([], false)
theorem cut_impl {s : Str} (hs : s.b.length ≤ 3000) : ∀ (n : Nat) (l : List UInt8) (k : Nat) (acc : List Word_), l.length ≤ n → s.b.drop k = l → k ≤ s.b.length → acc.length ≤ 600 → loopM (fun (xs2_1 : (List Word_) × Int) => (if decide (xs2_1.2 < (((s).b.length : Int))) then Option.bind (Option.bind (Option.bind (getI (s).b xs2_1.2) fun x4_1 => if decide (x4_1 = (32 : UInt8)) then some true else Option.bind (getI (s).b xs2_1.2) fun x4_2 => some (decide (x4_2 = (10 : UInt8))) : Option (Bool)) fun s3_1 => if s3_1 then some (.inl (xs2_1.1, w64 (xs2_1.2 + 1))) else Option.bind (Option.bind (getI (s).b xs2_1.2) fun x4_3 => Option.bind (impl_isLetter x4_3) fun r4_1 => Option.bind (if r4_1 then some (fun y0 => impl_isLetter y0) else Option.bind (getI (s).b xs2_1.2) fun x5_1 => Option.bind (impl_isDigit x5_1) fun r5_1 => Option.bind (if r5_1 then some (fun y0 => impl_isDigit y0) else some (fun y0 => impl_CutWords_1 y0) : Option ((UInt8 → Option Bool))) fun s5_1 => some s5_1 : Option ((UInt8 → Option Bool))) fun s4_1 => some s4_1 : Option ((UInt8 → Option Bool))) fun s3_2 => Option.bind (Option.bind (loopM (S := Int) (X := Int) (fun xs5_1 => Option.bind (if decide (xs5_1 < (((s).b.length : Int))) then Option.bind (getI (s).b xs5_1) fun x6_1 => Option.bind (s3_2 x6_1) fun r6_1 => some r6_1 else some false : Option (Bool)) fun s5_2 => if s5_2 then some (.inl (w64 (xs5_1 + 1))) else some (.inr xs5_1)) (w64 (xs2_1.2 + 1))) (fun e0 => some e0) : Option (Int)) fun s3_3 => Option.bind (subS s xs2_1.2 s3_3) fun x3_1 => Option.bind (impl_wordOf x3_1) fun r3_1 => Option.bind (Option.bind (impl_WordValid r3_1) fun r4_3 => if !(r4_3) then some true else some (decide (((xs2_1.1.length : Int)) = 600)) : Option (Bool)) fun s3_4 => if s3_4 then some (.inr ([], false)) else Option.bind (appM xs2_1.1 ([r3_1] : List Word_)) fun ys3_1 => some (.inl (ys3_1, s3_3)) : Option (((List Word_) × Int) ⊕ ((List Word_) × Bool))) (Sum.elim (fun s2_1 => some (.inl (s2_1.1, s2_1.2))) (fun e0 => some (.inr (.inl e0)))) else some (.inr (.inr xs2_1.1)) : Option (((List Word_) × Int) ⊕ (((List Word_) × Bool) ⊕ (List Word_))))) (acc, (k : Int)) = some (endI acc (tok l)) := by
  intro n
  induction n with
  | zero =>
    intro l k acc hl he hk ha
    have : l = [] := List.eq_nil_of_length_eq_zero (by omega)
    subst this
    have h1 : s.b.length ≤ k := List.drop_eq_nil_iff.1 he
    refine loopM_inr ?_
    dsimp only
    rw [if_neg (by simp; omega), tok_nil]
    simp [endI, ha]
  | succ n ih =>
    intro l k acc hl he hk ha
    cases l with
    | nil =>
      have h1 : s.b.length ≤ k := List.drop_eq_nil_iff.1 he
      refine loopM_inr ?_
      dsimp only
      rw [if_neg (by simp; omega), tok_nil]
      simp [endI, ha]
    | cons c r =>
      have hlt : k < s.b.length := by
        rcases Nat.lt_or_ge k s.b.length with h | h
        · exact h
        · rw [List.drop_eq_nil_of_le h] at he; cases he
      have hg : getI s.b (k : Int) = some c := by
        rw [getI_nat]
        have := congrArg (fun l => l[0]?) he
        simpa using this
      have hd : s.b.drop (k + 1) = r := by rw [← List.drop_drop, he]; rfl
      have hrl : r.length + (k + 1) = s.b.length := by
        have := congrArg List.length hd
        simp at this; omega
      have hblk : (if decide (c = (32 : UInt8)) then some true else Option.bind (getI s.b (k : Int)) fun x4_2 => some (decide (x4_2 = (10 : UInt8))) : Option Bool) = some (blkB c) := by
        rw [hg, Option.bind_some]
        unfold blkB
        by_cases h : c = 32 <;> simp [h]
      rw [tok_cons]
      cases hb : blkB c with
      | true =>
        simp only [if_true]
        rw [loopM_inl (s' := (acc, ((k + 1 : Nat) : Int)))]
        · exact ih r (k + 1) acc (by simp at hl; omega) hd (by omega) ha
        · dsimp only
          rw [if_pos (by simp; omega), hg, Option.bind_some]
          rw [hg] at hblk
          rw [hblk, hb, Option.bind_some, if_pos rfl, w64_id (by omega) (by omega)]
          rfl
      | false =>
        simp only [Bool.false_eq_true, if_false]
        have hsel : ∃ f : UInt8 → Option Bool, (Option.bind (impl_isLetter c) fun r4_1 => Option.bind (if r4_1 then some (fun y0 => impl_isLetter y0) else Option.bind (getI s.b (k : Int)) fun x5_1 => Option.bind (impl_isDigit x5_1) fun r5_1 => Option.bind (if r5_1 then some (fun y0 => impl_isDigit y0) else some (fun y0 => impl_CutWords_1 y0) : Option ((UInt8 → Option Bool))) fun s5_1 => some s5_1 : Option ((UInt8 → Option Bool))) fun s4_1 => some s4_1 : Option (UInt8 → Option Bool)) = some f ∧ ∀ x, f x = some (runP c x) := by
          rw [letter_ok, Option.bind_some, hg, Option.bind_some, digit_ok, Option.bind_some]
          unfold runP
          cases letB c with
          | true => exact ⟨_, rfl, fun x => letter_ok x⟩
          | false =>
            cases digB c with
            | true => exact ⟨_, rfl, fun x => digit_ok x⟩
            | false => exact ⟨_, rfl, fun x => rfl⟩
        obtain ⟨f, hf1, hf2⟩ := hsel
        have hrun := run_loop hs (runP c) (body := (fun (xs5_1 : Int) => (Option.bind (if decide (xs5_1 < (((s).b.length : Int))) then Option.bind (getI (s).b xs5_1) fun x6_1 => Option.bind (f x6_1) fun r6_1 => some r6_1 else some false : Option (Bool)) fun s5_2 => if s5_2 then some (.inl (w64 (xs5_1 + 1))) else some (.inr xs5_1) : Option ((Int) ⊕ (Int))))) (fun k => by rw [show (fun x6_1 => Option.bind (f x6_1) fun r6_1 => some r6_1) = fun x => some (runP c x) from funext fun x => by rw [hf2, Option.bind_some]]) r (k + 1) hd (by omega)
        have htl : (r.takeWhile (runP c)).length ≤ r.length := by
          exact (List.takeWhile_sublist _).length_le
        have hsub := sub_run (s := s) (k := k) (runP c) he (by omega)
        have hwl : (c :: r.takeWhile (runP c)).length ≤ 140737488355328 := by have := s.h; simp; omega
        have hw := word_ok (s := toS (c :: r.takeWhile (runP c))) (toS_b hwl)
        have hk1 : w64 ((k : Int) + 1) = ((k + 1 : Nat) : Int) := by rw [w64_id (by omega) (by omega)]; rfl
        have hnext : s.b.drop (k + 1 + (r.takeWhile (runP c)).length) = r.dropWhile (runP c) := by rw [← List.drop_drop, hd, take_drop]
        have hw2 : (⟨kindB c (toS (c :: r.takeWhile (runP c))), toS (c :: r.takeWhile (runP c))⟩ : Word_) = mkWd c (r.takeWhile (runP c)) := rfl
        rw [hw2] at hw
        rw [hg] at hblk
        simp only [hg, Option.bind_some] at hf1
        have hdl := drop_le (runP c) r
        cases hv : wordB (mkWd c (r.takeWhile (runP c))) with
        | false =>
          refine loopM_inr ?_
          dsimp only
          rw [if_pos (by simp; omega), hg, Option.bind_some, hblk, hb, Option.bind_some]
          simp only [Bool.false_eq_true, if_false, Option.bind_some]
          rw [hf1, Option.bind_some, hk1, hrun, Option.bind_some, Option.bind_some, hsub, Option.bind_some, hw, Option.bind_some, valid_ok, hv]
          rfl
        | true =>
          by_cases h6 : acc.length = 600
          · rw [loopM_inr (x := .inl ([], false))]
            · simp only [if_true]
              cases tok (r.dropWhile (runP c)) with
              | none => rfl
              | some ws => simp [endI, h6]
            · dsimp only
              rw [if_pos (by simp; omega), hg, Option.bind_some, hblk, hb, Option.bind_some]
              simp only [Bool.false_eq_true, if_false, Option.bind_some]
              rw [hf1, Option.bind_some, hk1, hrun, Option.bind_some, Option.bind_some, hsub, Option.bind_some, hw, Option.bind_some, valid_ok, hv, h6]
              rfl
          · rw [loopM_inl (s' := (acc ++ [mkWd c (r.takeWhile (runP c))], ((k + 1 + (r.takeWhile (runP c)).length : Nat) : Int)))]
            · rw [ih (r.dropWhile (runP c)) (k + 1 + (r.takeWhile (runP c)).length) (acc ++ [mkWd c (r.takeWhile (runP c))]) (by simp at hl; omega) hnext (by omega) (by simp; omega)]
              simp only [if_true]
              cases tok (r.dropWhile (runP c)) with
              | none => rfl
              | some ws =>
                unfold endI
                simp only [Option.map_some, List.length_append, List.length_cons, List.length_nil, List.append_assoc, List.singleton_append]
                rw [show acc.length + (0 + 1) + ws.length = acc.length + (ws.length + 1) by omega]
            · have h6' : decide ((acc.length : Int) = 600) = false := by rw [decide_eq_false_iff_not]; omega
              dsimp only
              rw [if_pos (by simp; omega), hg, Option.bind_some, hblk, hb, Option.bind_some]
              simp only [Bool.false_eq_true, if_false, Option.bind_some]
              rw [hf1, Option.bind_some, hk1, hrun, Option.bind_some, Option.bind_some, hsub, Option.bind_some, hw, Option.bind_some, valid_ok, hv, Option.bind_some]
              simp only [Bool.not_true, Bool.false_eq_true, if_false, h6', Option.bind_some]
              rw [appM_ok (by simp; omega), Option.bind_some]
              rfl
theorem cutWords_ok (s : Str) : impl_CutWords s = some (cutV s) := by
  unfold impl_CutWords cutV cutR
  by_cases hs : s.b.length ≤ 3000
  · have h1 : ¬ (3000 : Int) < (s.b.length : Int) := by omega
    simp only [h1, decide_false, Bool.false_eq_true, if_false, hs, if_true]
    have := cut_impl hs s.b.length s.b 0 [] (Nat.le_refl _) rfl (Nat.zero_le _) (by simp)
    rw [show ((0 : Nat) : Int) = 0 from rfl] at this
    rw [bindc (bindc this)]
    cases tok s.b with
    | none => rfl
    | some ws =>
      unfold endI
      simp only [List.length_nil, Nat.zero_add, List.nil_append, Option.filter]
      by_cases h : ws.length ≤ 600 <;> simp [h]
  · have h1 : (3000 : Int) < (s.b.length : Int) := by omega
    simp [h1, hs]
end Prg
end Go.Wk
namespace Go.Wk
open Go
namespace Prg
set_option maxRecDepth 10000
def endS (acc : List Word_) (o : Option (List Word_)) : (List Word_ × Bool) ⊕ List Word_ := match o with
  | some ws => .inr (acc ++ ws)
  | none => .inl ([], false)
theorem cut_spec {s : Str} (hs : s.b.length ≤ 3000) : ∀ (n : Nat) (l : List UInt8) (k : Nat) (acc : List Word_), l.length ≤ n → s.b.drop k = l → k ≤ s.b.length → acc.length ≤ k → loopM (fun (xs2_1 : (List Word_) × Int) => (Option.bind (if decide (xs2_1.2 < (((s).b.length : Int))) then some (decide ((((s).b.length : Int)) ≤ 3000)) else some false : Option (Bool)) fun s2_1 => if s2_1 then Option.bind (getI (s).b xs2_1.2) fun x2_1 => Option.bind (spec_l1Class x2_1) fun r2_1 => Option.bind (Option.bind (loopM (S := Int) (X := Int) (fun xs4_1 => Option.bind (if decide (xs4_1 < (((s).b.length : Int))) then Option.bind (getI (s).b xs4_1) fun x5_1 => Option.bind (spec_l1Class x5_1) fun r5_1 => if decide (r5_1 = r2_1) then some (decide (r2_1 < 3)) else some false else some false : Option (Bool)) fun s4_1 => if s4_1 then some (.inl (w64 (xs4_1 + 1))) else some (.inr xs4_1)) (w64 (xs2_1.2 + 1))) (fun e0 => some e0) : Option (Int)) fun s2_2 => Option.bind (if decide (r2_1 ≠ 4) then Option.bind (if decide (r2_1 = 0) then some true else Option.bind (subS s xs2_1.2 s2_2) fun x4_1 => Option.bind (spec_l1Word x4_1) fun r4_1 => Option.bind (spec_WordValid r4_1) fun r4_2 => some (!(r4_2)) : Option (Bool)) fun s3_1 => if s3_1 then some (.inr (([] : List Word_), false)) else Option.bind (subS s xs2_1.2 s2_2) fun x3_1 => Option.bind (spec_l1Word x3_1) fun r3_2 => Option.bind (appM xs2_1.1 ([r3_2] : List Word_)) fun ys3_1 => some (.inl ys3_1) else some (.inl xs2_1.1) : Option (((List Word_)) ⊕ ((List Word_) × Bool))) (Sum.elim (fun s2_3 => some (.inl (s2_3, s2_2))) (fun e0 => some (.inr (.inl e0)))) else some (.inr (.inr xs2_1.1)) : Option (((List Word_) × Int) ⊕ (((List Word_) × Bool) ⊕ (List Word_))))) (acc, (k : Int)) = some (endS acc (tok l)) := by
  intro n
  have hend : ∀ (k : Nat) (acc : List Word_), s.b.drop k = [] → loopM (fun (xs2_1 : (List Word_) × Int) => (Option.bind (if decide (xs2_1.2 < (((s).b.length : Int))) then some (decide ((((s).b.length : Int)) ≤ 3000)) else some false : Option (Bool)) fun s2_1 => if s2_1 then Option.bind (getI (s).b xs2_1.2) fun x2_1 => Option.bind (spec_l1Class x2_1) fun r2_1 => Option.bind (Option.bind (loopM (S := Int) (X := Int) (fun xs4_1 => Option.bind (if decide (xs4_1 < (((s).b.length : Int))) then Option.bind (getI (s).b xs4_1) fun x5_1 => Option.bind (spec_l1Class x5_1) fun r5_1 => if decide (r5_1 = r2_1) then some (decide (r2_1 < 3)) else some false else some false : Option (Bool)) fun s4_1 => if s4_1 then some (.inl (w64 (xs4_1 + 1))) else some (.inr xs4_1)) (w64 (xs2_1.2 + 1))) (fun e0 => some e0) : Option (Int)) fun s2_2 => Option.bind (if decide (r2_1 ≠ 4) then Option.bind (if decide (r2_1 = 0) then some true else Option.bind (subS s xs2_1.2 s2_2) fun x4_1 => Option.bind (spec_l1Word x4_1) fun r4_1 => Option.bind (spec_WordValid r4_1) fun r4_2 => some (!(r4_2)) : Option (Bool)) fun s3_1 => if s3_1 then some (.inr (([] : List Word_), false)) else Option.bind (subS s xs2_1.2 s2_2) fun x3_1 => Option.bind (spec_l1Word x3_1) fun r3_2 => Option.bind (appM xs2_1.1 ([r3_2] : List Word_)) fun ys3_1 => some (.inl ys3_1) else some (.inl xs2_1.1) : Option (((List Word_)) ⊕ ((List Word_) × Bool))) (Sum.elim (fun s2_3 => some (.inl (s2_3, s2_2))) (fun e0 => some (.inr (.inl e0)))) else some (.inr (.inr xs2_1.1)) : Option (((List Word_) × Int) ⊕ (((List Word_) × Bool) ⊕ (List Word_))))) (acc, (k : Int)) = some (endS acc (tok [])) := fun k acc he => by
    have h1 : s.b.length ≤ k := List.drop_eq_nil_iff.1 he
    refine loopM_inr ?_
    dsimp only
    rw [if_neg (by simp; omega), tok_nil]
    simp [endS]
  induction n with
  | zero =>
    intro l k acc hl he hk ha
    have : l = [] := List.eq_nil_of_length_eq_zero (by omega)
    subst this
    exact hend k acc he
  | succ n ih =>
    intro l k acc hl he hk ha
    cases l with
    | nil => exact hend k acc he
    | cons c r =>
      have hlt : k < s.b.length := by
        rcases Nat.lt_or_ge k s.b.length with h | h
        · exact h
        · rw [List.drop_eq_nil_of_le h] at he; cases he
      have hg : getI s.b (k : Int) = some c := by
        rw [getI_nat]
        have := congrArg (fun l => l[0]?) he
        simpa using this
      have hd : s.b.drop (k + 1) = r := by rw [← List.drop_drop, he]; rfl
      have hrl : r.length + (k + 1) = s.b.length := by
        have := congrArg List.length hd
        simp at this; omega
      have hcond : (if decide ((k : Int) < (s.b.length : Int)) then some (decide ((s.b.length : Int) ≤ 3000)) else some false : Option Bool) = some true := by
        rw [if_pos (by simp; omega)]; congr 1; rw [decide_eq_true_iff]; omega
      have hk1 : w64 ((k : Int) + 1) = ((k + 1 : Nat) : Int) := by rw [w64_id (by omega) (by omega)]; rfl
      obtain ⟨q, hq⟩ : ∃ q, q = clsB c := ⟨_, rfl⟩
      have hrun := run_loop hs (fun x => decide (clsB x = q) && decide (q < 3)) (body := (fun (xs4_1 : Int) => (Option.bind (if decide (xs4_1 < (((s).b.length : Int))) then Option.bind (getI (s).b xs4_1) fun x5_1 => Option.bind (spec_l1Class x5_1) fun r5_1 => if decide (r5_1 = q) then some (decide (q < 3)) else some false else some false : Option (Bool)) fun s4_1 => if s4_1 then some (.inl (w64 (xs4_1 + 1))) else some (.inr xs4_1) : Option ((Int) ⊕ (Int))))) (fun k => by
        rw [show (fun x5_1 => Option.bind (spec_l1Class x5_1) fun r5_1 => if decide (r5_1 = q) then some (decide (q < 3)) else some false) = fun x => some (decide (clsB x = q) && decide (q < 3)) from funext fun x => by
          rw [class_ok, Option.bind_some]; cases decide (clsB x = q) <;> rfl]) r (k + 1) hd (by omega)
      subst hq
      rw [tok_cons]
      cases hb : blkB c with
      | true =>
        have h4 : clsB c = 4 := of_decide_eq_true (by rw [← blk_cls]; exact hb)
        have hp : (fun x => decide (clsB x = clsB c) && decide (clsB c < 3)) = fun _ => false := funext fun x => by rw [h4]; simp
        have ht : r.takeWhile (fun _ : UInt8 => false) = [] := by cases r <;> rfl
        rw [hp, ht] at hrun
        simp only [if_true]
        rw [loopM_inl (s' := (acc, ((k + 1 : Nat) : Int)))]
        · exact ih r (k + 1) acc (by simp at hl; omega) hd (by omega) (by omega)
        · dsimp only
          rw [hcond, Option.bind_some, if_pos rfl, hg, Option.bind_some, class_ok, Option.bind_some, hk1, hrun, Option.bind_some, Option.bind_some, h4]
          rfl
      | false =>
        have h4 : clsB c ≠ 4 := fun h => by rw [blk_cls, h] at hb; simp at hb
        simp only [Bool.false_eq_true, if_false]
        by_cases h0 : clsB c = 0
        · have hv : wordB (mkWd c (r.takeWhile (runP c))) = false := by
            have hl : letB c = false := by cases h : letB c with | false => rfl | true => unfold clsB at h0; rw [h] at h0; simp at h0
            have hdg : digB c = false := by cases h : digB c with | false => rfl | true => unfold clsB at h0; rw [hl, h] at h0; simp at h0
            have hsg : c ∉ sgnL := fun h => by unfold clsB at h0; rw [hl, hdg] at h0; simp [h] at h0
            have ht : r.takeWhile (runP c) = [] := by
              have : runP c = fun _ => false := funext fun x => by unfold runP; rw [hl, hdg]; rfl
              rw [this]; cases r <;> rfl
            rw [ht]
            have hk : keyB (toS [c]) = false := by
              cases h : keyB (toS [c]) with
              | false => rfl
              | true => have := key_let (toS_b (l := [c]) (by simp)) h; rw [hl] at this; cases this
            have : mkWd c [] = ⟨3, toS [c]⟩ := by unfold mkWd kindB; rw [hk, hl, hdg]; rfl
            rw [this]
            unfold wordB
            simp [toS_b (l := [c]) (by simp), hsg]
          rw [hv]
          refine loopM_inr ?_
          dsimp only
          rw [hcond, Option.bind_some, if_pos rfl, hg, Option.bind_some, class_ok, Option.bind_some, hk1, hrun, Option.bind_some, Option.bind_some, h0]
          rfl
        · have hp : (fun x => decide (clsB x = clsB c) && decide (clsB c < 3)) = runP c := funext fun x => run_cls hb h0
          rw [hp] at hrun
          have htl : (r.takeWhile (runP c)).length ≤ r.length := (List.takeWhile_sublist _).length_le
          have hsub := sub_run (s := s) (k := k) (runP c) he (by omega)
          have hwl : (c :: r.takeWhile (runP c)).length ≤ 140737488355328 := by have := s.h; simp; omega
          have hw := wordS_ok (s := toS (c :: r.takeWhile (runP c))) (toS_b hwl) h0 h4
          have hw2 : (⟨kindB c (toS (c :: r.takeWhile (runP c))), toS (c :: r.takeWhile (runP c))⟩ : Word_) = mkWd c (r.takeWhile (runP c)) := rfl
          rw [hw2] at hw
          have hdl := drop_le (runP c) r
          have hnext : s.b.drop (k + 1 + (r.takeWhile (runP c)).length) = r.dropWhile (runP c) := by rw [← List.drop_drop, hd, take_drop]
          have h4' : decide (clsB c ≠ 4) = true := decide_eq_true h4
          have h0' : decide (clsB c = 0) = false := decide_eq_false h0
          cases hv : wordB (mkWd c (r.takeWhile (runP c))) with
          | false =>
            refine loopM_inr ?_
            dsimp only
            rw [hcond, Option.bind_some, if_pos rfl, hg, Option.bind_some, class_ok, Option.bind_some, hk1, hrun, Option.bind_some, Option.bind_some, h4', h0']
            simp only [if_true, Bool.false_eq_true, if_false]
            rw [hsub, Option.bind_some, hw, Option.bind_some, validS_ok, hv]
            rfl
          | true =>
            simp only [if_true]
            rw [loopM_inl (s' := (acc ++ [mkWd c (r.takeWhile (runP c))], ((k + 1 + (r.takeWhile (runP c)).length : Nat) : Int)))]
            · rw [ih (r.dropWhile (runP c)) (k + 1 + (r.takeWhile (runP c)).length) (acc ++ [mkWd c (r.takeWhile (runP c))]) (by simp at hl; omega) hnext (by omega) (by simp; omega)]
              cases tok (r.dropWhile (runP c)) with
              | none => rfl
              | some ws => simp [endS]
            · dsimp only
              rw [hcond, Option.bind_some, if_pos rfl, hg, Option.bind_some, class_ok, Option.bind_some, hk1, hrun, Option.bind_some, Option.bind_some, h4', h0']
              simp only [if_true, Bool.false_eq_true, if_false]
              rw [hsub, Option.bind_some, hw, Option.bind_some, validS_ok, hv, Option.bind_some, Option.bind_some]
              simp only [Bool.not_true, Bool.false_eq_true, if_false]
              rw [Option.bind_some, hw, Option.bind_some, appM_ok (by simp; omega), Option.bind_some]
              rfl
theorem cutWordsS_ok (s : Str) : spec_CutWords s = some (cutV s) := by
  unfold spec_CutWords cutV cutR
  by_cases hs : s.b.length ≤ 3000
  · have := cut_spec hs s.b.length s.b 0 [] (Nat.le_refl _) rfl (Nat.zero_le _) (by simp)
    rw [show ((0 : Nat) : Int) = 0 from rfl] at this
    rw [bindc (bindc this), if_pos hs]
    have h1 : decide ((3000 : Int) < (s.b.length : Int)) = false := by rw [decide_eq_false_iff_not]; omega
    cases tok s.b with
    | none => rfl
    | some ws =>
      show Option.bind (if decide ((3000 : Int) < (s.b.length : Int)) then some true else some (decide (600 < (([] ++ ws : List Word_).length : Int)))) _ = _
      rw [h1]
      simp only [List.nil_append, Option.filter, Bool.false_eq_true, if_false, Option.bind_some]
      by_cases h : ws.length ≤ 600
      · have : ¬ (600 : Int) < (ws.length : Int) := by omega
        simp [h, this]
      · have : (600 : Int) < (ws.length : Int) := by omega
        simp [h, this]
  · rw [if_neg hs]
    have h1 : decide ((3000 : Int) < (s.b.length : Int)) = true := by rw [decide_eq_true_iff]; omega
    have h2 : decide ((s.b.length : Int) ≤ 3000) = false := by rw [decide_eq_false_iff_not]; omega
    rw [bindc (bindc (loopM_inr (x := .inr []) (by
      dsimp only
      rw [h2]
      cases decide ((0 : Int) < (s.b.length : Int)) <;> rfl)))]
    show Option.bind (if decide ((3000 : Int) < (s.b.length : Int)) then some true else some (decide (600 < (([] : List Word_).length : Int)))) _ = _
    rw [h1]
    rfl
end Prg
end Go.Wk
namespace Go.Wk
open Go
namespace Prg
set_option maxRecDepth 10000
theorem exprInd {P : Expr_ → Prop} (h : ∀ e : Expr_, (∀ k ∈ e.kids, P k) → P e) : ∀ e, P e := by
  have : ∀ (n : Nat) (e : Expr_), SizeOf.sizeOf e ≤ n → P e := by
    intro n
    induction n with
    | zero => intro e he; cases e; simp at he
    | succ n ih =>
      intro e he
      refine h e fun k hk => ih k ?_
      have := List.sizeOf_lt_of_mem hk
      cases e
      simp at he this ⊢
      omega
  exact fun e => this _ e (Nat.le_refl _)
mutual
def partsE : Expr_ → Nat
  | ⟨_, _, _, ks⟩ => 1 + partsL ks
def partsL : List Expr_ → Nat
  | [] => 0
  | k :: ks => partsE k + partsL ks
end
theorem partsE_eq (e : Expr_) : partsE e = 1 + partsL e.kids := by cases e; rw [partsE]
theorem partsL_cons (k : Expr_) (ks : List Expr_) : partsL (k :: ks) = partsE k + partsL ks := by rw [partsL]
theorem partsL_nil : partsL [] = 0 := by rw [partsL]
theorem partsL_app : ∀ (l r : List Expr_), partsL (l ++ r) = partsL l + partsL r
  | [], r => by rw [partsL_nil, List.nil_append, Nat.zero_add]
  | k :: l, r => by rw [List.cons_append, partsL_cons, partsL_cons, partsL_app l r]; omega
theorem parts_mem {k : Expr_} : ∀ {l : List Expr_}, k ∈ l → partsE k ≤ partsL l
  | a :: l, h => by
    rw [partsL_cons]
    rcases List.mem_cons.1 h with rfl | h
    · omega
    · have := parts_mem h; omega
def lvI (op : Int) : Int := if op = 10 then 1 else if op = 8 ∨ op = 9 then 2 else if op = 3 ∨ op = 4 then 3 else if op = 5 ∨ op = 6 ∨ op = 7 then 4 else if op = 11 ∨ op = 12 then 5 else 6
def kidsI (op : Int) : Int × Int := if op = 1 ∨ op = 2 then (0, 0) else if op = 11 ∨ op = 12 then (1, 1) else if op = 13 then (0, 3) else (2, 2)
def headB (e : Expr_) : Bool := inB e.op 1 13 && (inB (e.kids.length : Int) (kidsI e.op).1 (kidsI e.op).2 && ((if e.op = 2 ∨ e.op = 13 then nameB e.name else decide (e.name = mkS [])) && (inB e.n_ 0 255 && decide (e.op = 1 ∨ e.n_ = 0))))
def formE : Nat → Expr_ → Bool
  | 0, _ => false
  | d + 1, e => headB e && e.kids.all (formE d)
def validB (e : Expr_) : Bool := formE 6 e && decide (partsE e ≤ 30)
theorem op_cases {op : Int} (h : inB op 1 13 = true) : op = 1 ∨ op = 2 ∨ op = 3 ∨ op = 4 ∨ op = 5 ∨ op = 6 ∨ op = 7 ∨ op = 8 ∨ op = 9 ∨ op = 10 ∨ op = 11 ∨ op = 12 ∨ op = 13 := by
  rw [inB_iff] at h; omega
theorem level_ok (op : Int) : spec_l2Level op = some (lvI op) := by
  unfold spec_l2Level lvI
  by_cases h1 : op = 10
  · simp [h1]
  by_cases h2 : op = 8
  · simp [h2]
  by_cases h3 : op = 9
  · simp [h3]
  by_cases h4 : op = 3
  · simp [h4]
  by_cases h5 : op = 4
  · simp [h5]
  by_cases h6 : op = 5
  · simp [h6]
  by_cases h7 : op = 6
  · simp [h7]
  by_cases h8 : op = 7
  · simp [h8]
  by_cases h9 : op = 11
  · simp [h9]
  by_cases h10 : op = 12
  · simp [h10]
  simp [h1, h2, h3, h4, h5, h6, h7, h8, h9, h10]
theorem kids_ok (op : Int) : spec_l2Kids op = some (kidsI op) := by
  unfold spec_l2Kids kidsI
  by_cases h1 : op = 1
  · simp [h1]
  by_cases h2 : op = 2
  · simp [h2]
  by_cases h3 : op = 11
  · simp [h3]
  by_cases h4 : op = 12
  · simp [h4]
  by_cases h5 : op = 13
  · simp [h5]
  simp [h1, h2, h3, h4, h5]
def sgO (op : Int) : St_sign_level := (MapS.get glob_impl_opSign op).getD ⟨mkS [], 0⟩
theorem sg_none {op : Int} (h : ¬ (3 ≤ op ∧ op ≤ 10)) : sgO op = ⟨mkS [], 0⟩ := by
  unfold sgO
  cases hg : MapS.get glob_impl_opSign op with
  | none => rfl
  | some v =>
    exfalso
    have hm := (lookM_some glob_impl_opSign.nodup).1 hg
    unfold glob_impl_opSign at hm
    simp only [List.mem_cons, Prod.mk.injEq, List.not_mem_nil, or_false] at hm
    omega
theorem sg_level (op : Int) : (sgO op).level = if 3 ≤ op ∧ op ≤ 10 then lvI op else 0 := by
  by_cases h : 3 ≤ op ∧ op ≤ 10
  · rw [if_pos h]
    have : op = 3 ∨ op = 4 ∨ op = 5 ∨ op = 6 ∨ op = 7 ∨ op = 8 ∨ op = 9 ∨ op = 10 := by omega
    rcases this with rfl | rfl | rfl | rfl | rfl | rfl | rfl | rfl <;> rfl
  · rw [if_neg h, sg_none h]
theorem levelOf_ok (op : Int) : impl_levelOf op = some (lvI op) := by
  unfold impl_levelOf
  show (if decide (0 < (sgO op).level) then some (sgO op).level else _) = _
  rw [sg_level]
  by_cases h : 3 ≤ op ∧ op ≤ 10
  · rw [if_pos h]
    have : 0 < lvI op := by unfold lvI; repeat' split
                            all_goals omega
    simp [this]
  · rw [if_neg h]
    unfold lvI
    by_cases h1 : op = 11
    · simp [h1]
    by_cases h2 : op = 12
    · simp [h2]
    have : ¬ op = 10 ∧ ¬ (op = 8 ∨ op = 9) ∧ ¬ (op = 3 ∨ op = 4) ∧ ¬ (op = 5 ∨ op = 6 ∨ op = 7) := by omega
    simp [h1, h2, this]
end Prg
end Go.Wk
namespace Go.Wk
open Go
namespace Prg
set_option maxRecDepth 10000
theorem byte_ok (n : Int) : impl_isByte n = some (inB n 0 255) := by
  unfold impl_isByte; rw [within_ok]; rfl
theorem sg_lv (op : Int) : ((MapS.get glob_impl_opSign op).getD (⟨mkS [], 0⟩ : St_sign_level)).level = if 3 ≤ op ∧ op ≤ 10 then lvI op else 0 := sg_level op
theorem size_head (e : Expr_) (most : Int) : impl_exprSize e most = if headB e && decide (1 ≤ most) then
    Option.bind (forN (fun (i1_1 : Int) (xs1_1 : Int × Int) => (Option.bind (getI e.kids i1_1) fun x1_1 => Option.bind (impl_exprSize x1_1 (w64 (most - 1))) fun r1_4 => if !(r1_4.2.2) then some (.inr (0, 0, false)) else some (.inl (w64 (xs1_1.1 + r1_4.1), (maxI xs1_1.2 (w64 (r1_4.2.1 + 1))))) : Option ((Int × Int) ⊕ (Int × Int × Bool)))) (((e.kids.length : Int) : Int) - 0).toNat 0 (1, 1)) (Sum.elim (fun xs0_1 => some (xs0_1.1, xs0_1.2, decide (xs0_1.1 ≤ 30))) (fun e0 => some e0)) else some (0, 0, false) := by
  rw [impl_exprSize]
  generalize Option.bind (forN (fun (i1_1 : Int) (xs1_1 : Int × Int) => (Option.bind (getI e.kids i1_1) fun x1_1 => Option.bind (impl_exprSize x1_1 (w64 (most - 1))) fun r1_4 => if !(r1_4.2.2) then some (.inr (0, 0, false)) else some (.inl (w64 (xs1_1.1 + r1_4.1), (maxI xs1_1.2 (w64 (r1_4.2.1 + 1))))) : Option ((Int × Int) ⊕ (Int × Int × Bool)))) (((e.kids.length : Int) : Int) - 0).toNat 0 (1, 1)) (Sum.elim (fun xs0_1 => some (xs0_1.1, xs0_1.2, decide (xs0_1.1 ≤ 30))) (fun e0 => some e0)) = L
  simp only [byte_ok, name_ok, within_ok, levelOf_ok, sg_lv, Option.bind_some]
  have em : decide (most < 1) = !decide (1 ≤ most) := by
    by_cases h : 1 ≤ most
    · have : ¬ most < 1 := by omega
      simp [h, this]
    · have : most < 1 := by omega
      simp [h, this]
  rw [em]
  generalize decide (1 ≤ most) = b
  obtain ⟨op, n, nm, ks⟩ := e
  unfold headB
  dsimp only
  have hn : n = 0 → inB n 0 255 = true := fun h => by rw [h]; rfl
  cases hop : inB op 1 13 with
  | true =>
    cases hc : inB (ks.length : Int) (kidsI op).1 (kidsI op).2
    all_goals rcases op_cases hop with rfl | rfl | rfl | rfl | rfl | rfl | rfl | rfl | rfl | rfl | rfl | rfl | rfl
    all_goals
      simp only [lvI, kidsI] at hc ⊢
      simp at hc ⊢
      cases nameB nm <;> cases h3 : inB n 0 255 <;> cases b <;> by_cases h1 : nm = mkS [] <;> by_cases h2 : n = 0 <;> first | (simp [h1, h2, hc]; done) | (exfalso; rw [hn h2] at h3; cases h3)
  | false =>
    have : ¬ (1 ≤ op ∧ op ≤ 13) := fun h => by rw [inB_iff.2 h] at hop; cases hop
    have a1 : op ≠ 1 := by omega
    have a2 : op ≠ 2 := by omega
    have a3 : op ≠ 13 := by omega
    have a4 : op ≠ 11 := by omega
    have a5 : op ≠ 12 := by omega
    have a6 : ¬ (3 ≤ op ∧ op ≤ 10) := by omega
    simp [a1, a2, a3, a4, a5, a6]
def pbd : Nat → Nat
  | 0 => 0
  | d + 1 => 1 + 3 * pbd d
theorem form_kids {d : Nat} {e : Expr_} (h : formE (d + 1) e = true) : headB e = true ∧ ∀ k ∈ e.kids, formE d k = true := by
  rw [formE, Bool.and_eq_true, List.all_eq_true] at h; exact h
theorem head_kids {e : Expr_} (h : headB e = true) : e.kids.length ≤ 3 := by
  unfold headB at h
  simp only [Bool.and_eq_true] at h
  have h2 := inB_iff.1 h.2.1
  have : (kidsI e.op).2 ≤ 3 := by unfold kidsI; repeat' split
                                  all_goals simp
  omega
theorem partsL_le {n : Nat} : ∀ {l : List Expr_}, (∀ k ∈ l, partsE k ≤ n) → partsL l ≤ l.length * n
  | [], _ => by rw [partsL_nil]; omega
  | k :: l, h => by
    have h1 := h k (by simp)
    have h2 := partsL_le (l := l) fun x hx => h x (by simp [hx])
    rw [partsL_cons, List.length_cons, Nat.succ_mul]; omega
theorem form_parts : ∀ {d : Nat} {e : Expr_}, formE d e = true → partsE e ≤ pbd d
  | 0, e, h => by rw [formE] at h; cases h
  | d + 1, e, h => by
    obtain ⟨h1, h2⟩ := form_kids h
    have h3 := partsL_le (n := pbd d) (l := e.kids) fun k hk => form_parts (h2 k hk)
    have h4 : e.kids.length * pbd d ≤ 3 * pbd d := Nat.mul_le_mul_right _ (head_kids h1)
    rw [partsE_eq, pbd]; omega
theorem form_ok : ∀ (e : Expr_) (d : Int), d ≤ 1000 → -1000 ≤ d → spec_l2Form e d = some (formE d.toNat e) := by
  intro e
  induction e using exprInd with
  | h e ih =>
    intro d hd hd2
    rw [spec_l2Form, kids_ok, Option.bind_some]
    simp only [l1In_ok, nameS_ok, Option.bind_some]
    by_cases h1 : d < 1
    · have : d.toNat = 0 := by omega
      rw [this, formE]
      simp [h1]
    obtain ⟨m, hdm⟩ : ∃ m : Nat, d = (m : Int) + 1 := ⟨d.toNat - 1, by omega⟩
    have hm : d.toNat = m + 1 := by omega
    rw [hm, formE]
    have hk : ∀ k ∈ e.kids, spec_l2Form k (w64 (d - 1)) = some (formE m k) := by
      intro k hk
      rw [w64_id (by omega) (by omega), ih k hk _ (by omega) (by omega)]
      congr 2; omega
    have hl : forN (fun (i1_1 : Int) (xs1_1 : Unit) => (Option.bind (getI e.kids i1_1) fun x1_1 => Option.bind (spec_l2Form x1_1 (w64 (d - 1))) fun r1_6 => if !(r1_6) then some (.inr false) else some (.inl ()) : Option ((Unit) ⊕ (Bool)))) (((e.kids.length : Int) : Int) - 0).toNat 0 () = if e.kids.all (formE m) then some (.inl ()) else some (.inr false) := by
      rw [forN_any (xs := e.kids) (body := (fun (i1_1 : Int) (xs1_1 : Unit) => (Option.bind (getI e.kids i1_1) fun x1_1 => Option.bind (spec_l2Form x1_1 (w64 (d - 1))) fun r1_6 => if !(r1_6) then some (.inr false) else some (.inl ()) : Option ((Unit) ⊕ (Bool))))) (fun k => !formE m k) false (fun l x r he => by
        rw [he, getI_mid, Option.bind_some, hk x (by rw [he]; simp), Option.bind_some])]
      have : e.kids.any (fun k => !formE m k) = !e.kids.all (formE m) := by rw [List.not_all_eq_any_not]
      rw [this]
      cases e.kids.all (formE m) <;> rfl
    rw [hl]
    have e1 : decide (d < 1) = false := by simp; omega
    rw [e1]
    unfold headB
    cases inB e.op 1 13 with
    | false => rfl
    | true =>
    cases inB (e.kids.length : Int) (kidsI e.op).1 (kidsI e.op).2 with
    | false => rfl
    | true =>
    have e2 : (if decide (e.op = 2) then some true else some (decide (e.op = 13)) : Option Bool) = some (decide (e.op = 2 ∨ e.op = 13)) := by by_cases h : e.op = 2 <;> simp [h]
    simp only [Bool.false_eq_true, if_false, Bool.not_true, e2, Option.bind_some, Bool.true_and]
    have hn : nameB (mkS []) = false := rfl
    have h0 : e.n_ = 0 → inB e.n_ 0 255 = true := fun h => by rw [h]; rfl
    by_cases h : e.op = 2 ∨ e.op = 13
    · have h5 : ¬ e.op = 1 := by omega
      cases nameB e.name <;> cases h3 : inB e.n_ 0 255 <;> cases e.kids.all (formE m) <;> by_cases h6 : e.n_ = 0 <;> first | (simp [h, h5, h6]; done) | (exfalso; rw [h0 h6] at h3; cases h3)
    · by_cases h7 : e.name = mkS []
      · rw [h7, hn]
        cases h3 : inB e.n_ 0 255 <;> cases e.kids.all (formE m) <;> by_cases h6 : e.n_ = 0 <;> by_cases h5 : e.op = 1 <;> first | (simp [h, h5, h6]; done) | (exfalso; rw [h0 h6] at h3; cases h3)
      · cases nameB e.name <;> cases h3 : inB e.n_ 0 255 <;> cases e.kids.all (formE m) <;> by_cases h6 : e.n_ = 0 <;> by_cases h5 : e.op = 1 <;> first | (simp [h, h5, h6, h7]; done) | (exfalso; rw [h0 h6] at h3; cases h3)
theorem parts_ok : ∀ (e : Expr_), partsE e ≤ 1000000 → spec_l2Parts e = some (partsE e : Int) := by
  intro e
  induction e using exprInd with
  | h e ih =>
    intro he
    rw [spec_l2Parts]
    rw [partsE_eq] at he ⊢
    rcases forN_list (xs := e.kids) (body := (fun (i1_1 : Int) (xs1_1 : Int) => (Option.bind (getI e.kids i1_1) fun x1_1 => Option.bind (spec_l2Parts x1_1) fun r1_1 => some (.inl (w64 (xs1_1 + r1_1))) : Option ((Int) ⊕ (Empty))))) (s := 1) (fun l s => s = ((1 + partsL l : Nat) : Int)) (fun _ => False) (by rw [partsL_nil]; rfl) (fun l x r s hx hI => .inl (by
      have hp := parts_mem (k := x) (l := e.kids) (by rw [hx]; simp)
      have hp2 : partsL e.kids = partsL l + (partsE x + partsL r) := by rw [hx, partsL_app, partsL_cons]
      refine ⟨_, ?_, rfl⟩
      subst hI
      have hw : w64 (((1 + partsL l : Nat) : Int) + (partsE x : Int)) = ((1 + partsL (l ++ [x]) : Nat) : Int) := by
        rw [w64_id (by omega) (by omega), partsL_app, partsL_cons, partsL_nil]; omega
      rw [show getI e.kids (l.length : Int) = some x by rw [hx, getI_mid], Option.bind_some, ih x (by rw [hx]; simp) (by omega), Option.bind_some, hw])) with ⟨s, h1, h2⟩ | ⟨y, h1, h2⟩
    · rw [h1, h2]; rfl
    · exact h2.elim
theorem validS_E (e : Expr_) : spec_ExprValid e = some (validB e) := by
  unfold spec_ExprValid validB
  rw [form_ok e 6 (by omega) (by omega), Option.bind_some]
  rw [show (6 : Int).toNat = 6 from rfl]
  cases h : formE 6 e with
  | false => rfl
  | true =>
    have := form_parts h
    rw [parts_ok e (Nat.le_trans this (by decide))]
    have : decide ((partsE e : Int) ≤ 30) = decide (partsE e ≤ 30) := by rw [decide_eq_decide]; omega
    simp [this]
theorem size_ok : ∀ (e : Expr_) (d : Nat), d ≤ 6 → ∃ p h ok, impl_exprSize e (d : Int) = some (p, h, ok) ∧ ok = (formE d e && decide (partsE e ≤ 30)) ∧ (ok = true → p = (partsE e : Int) ∧ 0 ≤ h ∧ h ≤ (d : Int)) := by
  intro e
  induction e using exprInd with
  | h e ih =>
    intro d hd
    rw [size_head]
    cases d with
    | zero => exact ⟨0, 0, false, by simp, by rw [formE]; rfl, fun h => by cases h⟩
    | succ d =>
    generalize hD : ((d + 1 : Nat) : Int) = D
    have e1 : decide ((1 : Int) ≤ D) = true := by simp; omega
    rw [e1, Bool.and_true, formE]
    cases hh : headB e with
    | false => exact ⟨0, 0, false, rfl, rfl, fun h => by cases h⟩
    | true =>
    rw [if_pos rfl]
    have hk3 := head_kids hh
    rcases forN_list (xs := e.kids) (body := (fun (i1_1 : Int) (xs1_1 : Int × Int) => (Option.bind (getI e.kids i1_1) fun x1_1 => Option.bind (impl_exprSize x1_1 (w64 (D - 1))) fun r1_4 => if !(r1_4.2.2) then some (.inr (0, 0, false)) else some (.inl (w64 (xs1_1.1 + r1_4.1), (maxI xs1_1.2 (w64 (r1_4.2.1 + 1))))) : Option ((Int × Int) ⊕ (Int × Int × Bool))))) (s := (1, 1)) (fun l s => s.1 = ((1 + partsL l : Nat) : Int) ∧ 0 ≤ s.2 ∧ s.2 ≤ D ∧ l.all (formE d) = true ∧ partsL l ≤ l.length * 30) (fun y => y = (0, 0, false) ∧ (e.kids.all (formE d) && decide (1 + partsL e.kids ≤ 30)) = false) ⟨by rw [partsL_nil]; rfl, by simp, by simp only []; omega, rfl, by rw [partsL_nil]; simp⟩ (fun l x r s hx hI => by
      have hp2 : partsL e.kids = partsL l + (partsE x + partsL r) := by rw [hx, partsL_app, partsL_cons]
      obtain ⟨p, h, ok, g1, g2, g3⟩ := ih x (by rw [hx]; simp) d (by omega)
      have hll : l.length ≤ 3 := by
        have := congrArg List.length hx
        simp at this
        omega
      have g0 : w64 (D - 1) = (d : Int) := by rw [w64_id (by omega) (by omega)]; omega
      have gg : getI e.kids (l.length : Int) = some x := by rw [hx, getI_mid]
      cases hok : ok with
      | false =>
        refine .inr ⟨_, ?_, rfl, ?_⟩
        · rw [gg, Option.bind_some, g0, g1, hok]; rfl
        · rw [hok] at g2
          rw [hx, List.all_append, List.all_cons]
          cases h1 : formE d x with
          | false => simp
          | true =>
            rw [h1] at g2
            simp at g2
            have : ¬ 1 + partsL e.kids ≤ 30 := by omega
            rw [hx] at this
            simp [this]
      | true =>
        obtain ⟨g4, g5, g6⟩ := g3 hok
        rw [hok] at g2
        have g7 := g2.symm
        rw [Bool.and_eq_true, decide_eq_true_iff] at g7
        obtain ⟨i1, i2, i3, i4, i5⟩ := hI
        have hle : partsL l ≤ 3 * 30 := Nat.le_trans i5 (Nat.mul_le_mul_right _ hll)
        refine .inl ⟨(w64 (s.1 + p), maxI s.2 (w64 (h + 1))), ?_, ?_, ?_, ?_, ?_, ?_⟩
        · rw [gg, Option.bind_some, g0, g1, hok]; rfl
        · rw [i1, g4, w64_id (by omega) (by omega), partsL_app, partsL_cons, partsL_nil]; omega
        · show 0 ≤ maxI s.2 (w64 (h + 1))
          rw [w64_id (by omega) (by omega)]; unfold maxI; split <;> omega
        · show maxI s.2 (w64 (h + 1)) ≤ _
          rw [w64_id (by omega) (by omega)]; unfold maxI; split <;> omega
        · rw [List.all_append, i4, List.all_cons, g7.1]; rfl
        · rw [partsL_app, partsL_cons, partsL_nil, List.length_append, List.length_cons, List.length_nil, Nat.add_mul]; omega) with ⟨s, h1, h2⟩ | ⟨y, h1, h2, h3⟩
    · obtain ⟨i1, i2, i3, i4, i5⟩ := h2
      refine ⟨s.1, s.2, decide (s.1 ≤ 30), by rw [h1]; rfl, ?_, fun _ => ⟨by rw [i1, partsE_eq], i2, i3⟩⟩
      rw [i4, Bool.true_and, Bool.true_and, i1, partsE_eq, decide_eq_decide]; omega
    · refine ⟨0, 0, false, by rw [h1, h2]; rfl, ?_, fun h => by cases h⟩
      rw [Bool.true_and, partsE_eq, h3]
theorem valid_E (e : Expr_) : impl_ExprValid e = some (validB e) := by
  unfold impl_ExprValid validB
  obtain ⟨p, h, ok, h1, h2, h3⟩ := size_ok e 6 (by omega)
  rw [show (6 : Int) = ((6 : Nat) : Int) from rfl, h1, Option.bind_some, h2]
end Prg
end Go.Wk
namespace Go.Wk
open Go
namespace Prg
set_option maxRecDepth 10000
def isT (ws : List Word_) (t : Str) : Bool := match ws with
  | [] => false
  | w :: _ => decide (w.text = t)
def pkW (ws : List Word_) : Word_ := match ws with
  | [] => ⟨0, mkS []⟩
  | w :: _ => w
theorem peek_ok (ws : List Word_) (b : Bool) : pimpl_wordReader__peek ⟨ws, b⟩ = some (pkW ws) := by
  unfold pimpl_wordReader__peek
  cases ws with
  | nil => rfl
  | cons w ws =>
    have : decide (((w :: ws).length : Int) = 0) = false := by simp; omega
    rw [this]; rfl
theorem sub_tail (w : Word_) (ws : List Word_) : subM (w :: ws) 1 ((w :: ws).length : Int) = some ws := by
  unfold subM
  rw [if_pos ⟨by omega, by simp; omega, by omega⟩]
  simp
theorem next_cons (w : Word_) (ws : List Word_) (b : Bool) : pimpl_wordReader__next ⟨w :: ws, b⟩ = some (w, ⟨ws, b⟩) := by
  unfold pimpl_wordReader__next
  have : decide (((w :: ws).length : Int) = 0) = false := by simp; omega
  rw [peek_ok, Option.bind_some]
  dsimp only
  rw [this, sub_tail]; rfl
def tkW (ws : List Word_) (k : Int) (t : Str) : Bool := match ws with
  | [] => false
  | w :: _ => decide (w.kind = k) && decide (w.text = t)
theorem take_ok (ws : List Word_) (b : Bool) (k : Int) (t : Str) : pimpl_wordReader__take ⟨ws, b⟩ k t = some (tkW ws k t, ⟨if tkW ws k t then ws.tail else ws, b⟩) := by
  unfold pimpl_wordReader__take
  rw [peek_ok, Option.bind_some]
  cases ws with
  | nil => rfl
  | cons w ws =>
    have : decide (((w :: ws).length : Int) = 0) = false := by simp; omega
    show Option.bind (if decide (((w :: ws).length : Int) = 0) then _ else if decide (w.kind ≠ k) then some true else some (decide (w.text ≠ t))) (fun s => if s then _ else Option.bind (subM (w :: ws) 1 ((w :: ws).length : Int)) _) = _
    rw [this, sub_tail]
    unfold tkW
    by_cases h1 : w.kind = k <;> by_cases h2 : w.text = t <;> simp [h1, h2]
theorem want_ok (ws : List Word_) (b : Bool) (k : Int) (t : Str) : pimpl_wordReader__want ⟨ws, b⟩ k t = some ⟨if tkW ws k t then ws.tail else ws, if tkW ws k t then b else true⟩ := by
  unfold pimpl_wordReader__want
  rw [take_ok, Option.bind_some]
  cases tkW ws k t <;> rfl
theorem sign_kind {w : Word_} {c : UInt8} (hw : wordB w = true) (hb : w.text.b = [c]) (hc : c ∈ sgnL) : w.kind = 3 := by
  have hcl : letB c = false ∧ digB c = false := by
    have key : ∀ c ∈ sgnL, letB c = false ∧ digB c = false := by decide
    exact key c hc
  unfold wordB at hw
  by_cases h1 : w.kind = 1
  · rw [if_pos h1] at hw
    unfold nameB at hw
    rw [hb] at hw
    simp [hcl.1] at hw
  rw [if_neg h1] at hw
  by_cases h2 : w.kind = 2
  · rw [if_pos h2] at hw
    unfold numI at hw
    rw [hb] at hw
    simp [hcl.2] at hw
  rw [if_neg h2] at hw
  by_cases h3 : w.kind = 3
  · exact h3
  rw [if_neg h3] at hw
  by_cases h4 : w.kind = 4
  · rw [if_pos h4] at hw
    have := key_let hb hw
    rw [hcl.1] at this; cases this
  · rw [if_neg h4] at hw; cases hw
theorem tk_is {ws : List Word_} (hw : ∀ w ∈ ws, wordB w = true) {t : Str} {c : UInt8} (ht : t.b = [c]) (hc : c ∈ sgnL) : tkW ws 3 t = isT ws t := by
  cases ws with
  | nil => rfl
  | cons w ws =>
    unfold tkW isT
    by_cases h : w.text = t
    · have := sign_kind (hw w (by simp)) (by rw [h]; exact ht) hc
      simp [h, this]
    · simp [h]
theorem is_ok (list : List Word_) (n : Nat) (t : Str) : spec_l2Is list (n : Int) t = some (isT (list.drop n) t) := by
  unfold spec_l2Is isT
  by_cases h : n < list.length
  · have h1 : decide ((n : Int) < (list.length : Int)) = true := by simp; omega
    rw [h1, if_pos rfl, getI_nat, List.getElem?_eq_getElem h, List.drop_eq_getElem_cons h]; rfl
  · have h1 : decide ((n : Int) < (list.length : Int)) = false := by simp; omega
    rw [h1, List.drop_eq_nil_of_le (by omega)]; rfl
def opW (lv : Int) (w : Word_) : Int :=
  if lv = 1 then (if w.text = mkS [38] then 10 else 0)
  else if lv = 2 then (if w.text = mkS [60] then 8 else if w.text = mkS [61] then 9 else 0)
  else if lv = 3 then (if w.text = mkS [43] then 3 else if w.text = mkS [45] then 4 else 0)
  else (if w.text = mkS [42] then 5 else if w.text = mkS [47] then 6 else if w.text = mkS [37] then 7 else 0)
def opT (lv : Int) (ws : List Word_) : Int := match ws with
  | [] => 0
  | w :: _ => opW lv w
theorem sign_3 : spec_l2Sign 3 = some (mkS [43]) := rfl
theorem sign_4 : spec_l2Sign 4 = some (mkS [45]) := rfl
theorem sign_5 : spec_l2Sign 5 = some (mkS [42]) := rfl
theorem sign_6 : spec_l2Sign 6 = some (mkS [47]) := rfl
theorem sign_7 : spec_l2Sign 7 = some (mkS [37]) := rfl
theorem sign_8 : spec_l2Sign 8 = some (mkS [60]) := rfl
theorem sign_9 : spec_l2Sign 9 = some (mkS [61]) := rfl
theorem sign_10 : spec_l2Sign 10 = some (mkS [38]) := rfl
theorem sign_11 : spec_l2Sign 11 = some (mkS [33]) := rfl
theorem sign_12 : spec_l2Sign 12 = some (mkS [64]) := rfl
theorem op_ok (list : List Word_) (n : Nat) (lv : Int) (hl : lv = 1 ∨ lv = 2 ∨ lv = 3 ∨ lv = 4) : spec_l2Op list (n : Int) lv = some (opT lv (list.drop n)) := by
  unfold spec_l2Op
  have e : (((10) + 1 : Int) - 3).toNat = 8 := rfl
  rw [e]
  rcases hl with rfl | rfl | rfl | rfl
  all_goals
    simp only [forN, level_ok, lvI, Option.bind_some, is_ok]
    simp [sign_3, sign_4, sign_5, sign_6, sign_7, sign_8, sign_9, sign_10, is_ok]
    unfold opT isT
    cases list.drop n with
    | nil => rfl
    | cons w r =>
      unfold opW
      dsimp only
      repeat' split
      all_goals simp_all
theorem rangeM_pick {α S : Type} (q : α → Bool) (f : α → S) (K : S) {body : α → S → Option S} (hb : ∀ p s, body p s = some (if q p then f p else s)) : ∀ (fs : List α) (s : S), (∀ p ∈ fs, q p = true → f p = K) → rangeM body fs s = some (if fs.any q then K else s)
  | [], s, _ => rfl
  | p :: fs, s, h => by
    rw [rangeM, hb, Option.bind_some, rangeM_pick q f K hb fs _ fun p hp => h p (by simp [hp])]
    rw [List.any_cons]
    cases hq : q p with
    | true =>
      rw [h p (by simp) hq]
      cases fs.any q <;> rfl
    | false => rfl
theorem any_perm {α : Type} {q : α → Bool} {fs es : List α} (hp : fs.Perm es) : fs.any q = es.any q := by
  cases h : es.any q with
  | true =>
    obtain ⟨x, h1, h2⟩ := List.any_eq_true.1 h
    exact List.any_eq_true.2 ⟨x, hp.mem_iff.2 h1, h2⟩
  | false =>
    rw [List.any_eq_false] at h ⊢
    exact fun x hx => h x (hp.mem_iff.1 hx)
theorem rangeP_pick {α S : Type} (q : α → Bool) (f : α → S) (K : S) {body : α → S → Option S} (hb : ∀ p s, body p s = some (if q p then f p else s)) {es : List α} {s : S} (h : ∀ p ∈ es, q p = true → f p = K) : rangeP body es s = some (if es.any q then K else s) :=
  rangeP_ok fun fs hp => by
    rw [rangeM_pick q f K hb fs s fun p hx => h p (hp.mem_iff.1 hx), any_perm hp]
def qE (lv : Int) (ws : List Word_) (p : Int × St_sign_level) : Bool := decide (p.2.level = lv) && (decide ((pkW ws).kind = 3) && decide ((pkW ws).text = p.2.sign))
theorem opI_ok (ws : List Word_) (hw : ∀ w ∈ ws, wordB w = true) (lv : Int) (hl : lv = 1 ∨ lv = 2 ∨ lv = 3 ∨ lv = 4) {body : Int × St_sign_level → Int → Option Int} (hb : ∀ p s, body p s = some (if qE lv ws p then p.1 else s)) :
    rangeP body (glob_impl_opSign : MapS St_sign_level).es 0 = some (opT lv ws) := by
  have hes : ∀ p ∈ glob_impl_opSign.es, p = (3, ⟨mkS [43], 3⟩) ∨ p = (4, ⟨mkS [45], 3⟩) ∨ p = (5, ⟨mkS [42], 4⟩) ∨ p = (6, ⟨mkS [47], 4⟩) ∨ p = (7, ⟨mkS [37], 4⟩) ∨ p = (8, ⟨mkS [60], 2⟩) ∨ p = (9, ⟨mkS [61], 2⟩) ∨ p = (10, ⟨mkS [38], 1⟩) := by
    intro p hp
    unfold glob_impl_opSign at hp
    simpa only [List.mem_cons, List.not_mem_nil, or_false] using hp
  have hq : ∀ p ∈ glob_impl_opSign.es, qE lv ws p = true → p.1 = opT lv ws := by
    intro p hp hq
    cases ws with
    | nil => simp [qE, pkW] at hq
    | cons w r =>
      unfold qE at hq
      simp only [Bool.and_eq_true, decide_eq_true_iff, pkW] at hq
      obtain ⟨h1, _, h2⟩ := hq
      replace h2 := of_decide_eq_true h2
      show p.1 = opW lv w
      unfold opW
      rw [h2, ← h1]
      rcases hes p hp with rfl | rfl | rfl | rfl | rfl | rfl | rfl | rfl <;> rfl
  rw [rangeP_pick (qE lv ws) (fun p => p.1) (opT lv ws) hb hq]
  cases h : glob_impl_opSign.es.any (qE lv ws) with
  | true => rfl
  | false =>
    cases ws with
    | nil => rfl
    | cons w r =>
      have key : ∀ p ∈ glob_impl_opSign.es, p.2.level = lv → w.text = p.2.sign → False := by
        intro p hp h1 h2
        have hn := List.any_eq_false.1 h p hp
        apply hn
        obtain ⟨c, h3, h4⟩ : ∃ c, p.2.sign.b = [c] ∧ c ∈ sgnL := by
          rcases hes p hp with rfl | rfl | rfl | rfl | rfl | rfl | rfl | rfl <;> exact ⟨_, rfl, by decide⟩
        have h5 := sign_kind (hw w (by simp)) (by rw [h2]; exact h3) h4
        unfold qE
        simp [pkW, h1, h2, h5]
      have n3 : lv = 3 → w.text ≠ mkS [43] := fun h h2 => key (3, ⟨mkS [43], 3⟩) (by simp [glob_impl_opSign]) h.symm h2
      have n4 : lv = 3 → w.text ≠ mkS [45] := fun h h2 => key (4, ⟨mkS [45], 3⟩) (by simp [glob_impl_opSign]) h.symm h2
      have n5 : lv = 4 → w.text ≠ mkS [42] := fun h h2 => key (5, ⟨mkS [42], 4⟩) (by simp [glob_impl_opSign]) h.symm h2
      have n6 : lv = 4 → w.text ≠ mkS [47] := fun h h2 => key (6, ⟨mkS [47], 4⟩) (by simp [glob_impl_opSign]) h.symm h2
      have n7 : lv = 4 → w.text ≠ mkS [37] := fun h h2 => key (7, ⟨mkS [37], 4⟩) (by simp [glob_impl_opSign]) h.symm h2
      have n8 : lv = 2 → w.text ≠ mkS [60] := fun h h2 => key (8, ⟨mkS [60], 2⟩) (by simp [glob_impl_opSign]) h.symm h2
      have n9 : lv = 2 → w.text ≠ mkS [61] := fun h h2 => key (9, ⟨mkS [61], 2⟩) (by simp [glob_impl_opSign]) h.symm h2
      have n10 : lv = 1 → w.text ≠ mkS [38] := fun h h2 => key (10, ⟨mkS [38], 1⟩) (by simp [glob_impl_opSign]) h.symm h2
      show some 0 = some (opW lv w)
      unfold opW
      rcases hl with rfl | rfl | rfl | rfl
      · simp [n10 rfl]
      · simp [n8 rfl, n9 rfl]
      · simp [n3 rfl, n4 rfl]
      · simp [n5 rfl, n6 rfl, n7 rfl]
end Prg
end Go.Wk
namespace Go.Wk
open Go
namespace Prg
set_option maxRecDepth 10000
inductive Job where
  | E (lv : Int) (ws : List Word_) (e : Expr_) (r : List Word_)
  | L (lv : Int) (x : Expr_) (ws : List Word_) (e : Expr_) (r : List Word_)
  | A (ws : List Word_) (ks : List Expr_) (r : List Word_)
  | M (acc : List Expr_) (ws : List Word_) (ks : List Expr_) (r : List Word_)
inductive Rd : Job → Prop
  | neg {w ws e r} : w.text = mkS [33] → Rd (.E 5 ws e r) → Rd (.E 5 (w :: ws) ⟨11, 0, mkS [], [e]⟩ r)
  | at_ {w ws e r} : w.text = mkS [64] → Rd (.E 5 ws e r) → Rd (.E 5 (w :: ws) ⟨12, 0, mkS [], [e]⟩ r)
  | par {w ws e v r} : w.text = mkS [40] → Rd (.E 1 ws e (v :: r)) → v.text = mkS [41] → Rd (.E 5 (w :: ws) e r)
  | num {w r} : w.kind = 2 → Rd (.E 5 (w :: r) ⟨1, numW w, mkS [], []⟩ r)
  | var {w r} : w.kind = 1 → isT r (mkS [40]) = false → Rd (.E 5 (w :: r) ⟨2, 0, w.text, []⟩ r)
  | call {w v ws ks r} : w.kind = 1 → v.text = mkS [40] → Rd (.A ws ks r) → Rd (.E 5 (w :: v :: ws) ⟨13, 0, w.text, ks⟩ r)
  | up {lv ws e ws' e' r} : (lv = 1 ∨ lv = 2 ∨ lv = 3 ∨ lv = 4) → Rd (.E (lv + 1) ws e ws') → Rd (.L lv e ws' e' r) → Rd (.E lv ws e' r)
  | stop {lv e ws} : opT lv ws = 0 → Rd (.L lv e ws e ws)
  | step {lv e w ws f ws' e' r} : opW lv w ≠ 0 → Rd (.E (lv + 1) ws f ws') → Rd (.L lv ⟨opW lv w, 0, mkS [], [e, f]⟩ ws' e' r) → Rd (.L lv e (w :: ws) e' r)
  | done {v r} : v.text = mkS [41] → Rd (.A (v :: r) [] r)
  | first {ws e ws' ks r} : isT ws (mkS [41]) = false → Rd (.E 1 ws e ws') → Rd (.M [e] ws' ks r) → Rd (.A ws ks r)
  | last {acc v r} : v.text = mkS [41] → Rd (.M acc (v :: r) acc r)
  | more {acc v ws e ws' ks r} : v.text = mkS [44] → Rd (.E 1 ws e ws') → Rd (.M (acc ++ [e]) ws' ks r) → Rd (.M acc (v :: ws) ks r)
def sufJ : Job → Prop
  | .E _ ws _ r => r.length < ws.length ∧ ∀ x ∈ r, x ∈ ws
  | .L _ _ ws _ r => r.length ≤ ws.length ∧ ∀ x ∈ r, x ∈ ws
  | .A ws _ r => r.length < ws.length ∧ ∀ x ∈ r, x ∈ ws
  | .M _ ws _ r => r.length < ws.length ∧ ∀ x ∈ r, x ∈ ws
theorem rd_suf {j : Job} (h : Rd j) : sufJ j := by
  induction h <;> simp only [sufJ, List.length_cons, List.mem_cons] at *
  case neg ih => exact ⟨by omega, fun x hx => .inr (ih.2 x hx)⟩
  case at_ ih => exact ⟨by omega, fun x hx => .inr (ih.2 x hx)⟩
  case par ih => exact ⟨by omega, fun x hx => .inr (ih.2 x (.inr hx))⟩
  case num => exact ⟨by omega, fun x hx => .inr hx⟩
  case var => exact ⟨by omega, fun x hx => .inr hx⟩
  case call ih => exact ⟨by omega, fun x hx => .inr (.inr (ih.2 x hx))⟩
  case up ih1 ih2 => exact ⟨by omega, fun x hx => ih1.2 x (ih2.2 x hx)⟩
  case stop => exact ⟨by omega, fun x hx => hx⟩
  case step ih1 ih2 => exact ⟨by omega, fun x hx => .inr (ih1.2 x (ih2.2 x hx))⟩
  case done => exact ⟨by omega, fun x hx => .inr hx⟩
  case first ih1 ih2 => exact ⟨by omega, fun x hx => ih1.2 x (ih2.2 x hx)⟩
  case last => exact ⟨by omega, fun x hx => .inr hx⟩
  case more ih1 ih2 => exact ⟨by omega, fun x hx => .inr (ih1.2 x (ih2.2 x hx))⟩
def AtW (list : List Word_) (n : Nat) (ws : List Word_) : Prop := list.drop n = ws ∧ n ≤ list.length
theorem at_cons {list : List Word_} {n : Nat} {w : Word_} {ws : List Word_} (h : AtW list n (w :: ws)) : n < list.length ∧ getI list (n : Int) = some w ∧ AtW list (n + 1) ws := by
  obtain ⟨h1, h2⟩ := h
  have hlt : n < list.length := by
    rcases Nat.lt_or_ge n list.length with h | h
    · exact h
    · rw [List.drop_eq_nil_of_le h] at h1; cases h1
  rw [List.drop_eq_getElem_cons hlt] at h1
  cases h1
  exact ⟨hlt, by rw [getI_nat, List.getElem?_eq_getElem hlt], rfl, hlt⟩
theorem at_nil {list : List Word_} {n : Nat} (h : AtW list n []) : n = list.length := by
  have := List.drop_eq_nil_iff.1 h.1
  have := h.2
  omega
theorem at_is {list : List Word_} {n : Nat} {ws : List Word_} (h : AtW list n ws) (t : Str) : spec_l2Is list (n : Int) t = some (isT ws t) := by rw [is_ok, h.1]
theorem at_op {list : List Word_} {n : Nat} {ws : List Word_} (h : AtW list n ws) {lv : Int} (hl : lv = 1 ∨ lv = 2 ∨ lv = 3 ∨ lv = 4) : spec_l2Op list (n : Int) lv = some (opT lv ws) := by rw [op_ok _ _ _ hl, h.1]
theorem w64_1 {n : Nat} (h : n ≤ 2000) : w64 ((n : Int) + 1) = ((n + 1 : Nat) : Int) := by rw [w64_id (by omega) (by omega)]; omega
theorem w64_2 {n : Nat} (h : n ≤ 2000) : w64 ((n : Int) + 2) = ((n + 2 : Nat) : Int) := by rw [w64_id (by omega) (by omega)]; omega
theorem tight_cons {list : List Word_} (hl : list.length ≤ 1000) {n : Nat} {w : Word_} {ws : List Word_} (h : AtW list n (w :: ws)) : spec_l2Tight list (n : Int) =
    if w.text = mkS [33] then Option.bind (spec_l2Tight list ((n + 1 : Nat) : Int)) fun r => some (⟨11, 0, mkS [], [r.1]⟩, r.2)
    else if w.text = mkS [64] then Option.bind (spec_l2Tight list ((n + 1 : Nat) : Int)) fun r => some (⟨12, 0, mkS [], [r.1]⟩, r.2)
    else if w.text = mkS [40] then Option.bind (spec_l2Read list ((n + 1 : Nat) : Int) 1) fun r => Option.bind (if decide (r.2 < 0) then some true else Option.bind (spec_l2Is list r.2 (mkS [41])) fun b => some (!b) : Option Bool) fun s => if s then some (r.1, -1) else some (r.1, w64 (r.2 + 1))
    else if w.kind = 2 then some (⟨1, numW w, mkS [], []⟩, ((n + 1 : Nat) : Int))
    else if w.kind ≠ 1 then some (⟨0, 0, mkS [], []⟩, -1)
    else if isT ws (mkS [40]) = false then some (⟨2, 0, w.text, []⟩, ((n + 1 : Nat) : Int))
    else Option.bind (spec_l2List list ((n + 2 : Nat) : Int)) fun r => some (⟨13, 0, w.text, r.1⟩, r.2) := by
  obtain ⟨h1, h2, h3⟩ := at_cons h
  rw [spec_l2Tight, show (((12) + 1 : Int) - 11).toNat = 2 from rfl]
  simp only [forN, sign_11, show ((11 : Int) + 1) = 12 from rfl, sign_12, Option.bind_some, w64_1 (show n ≤ 2000 by omega), w64_2 (show n ≤ 2000 by omega), at_is h, at_is h3, h2, numberS_ok]
  have e1 : decide ((n : Int) < (list.length : Int)) = true := by simp; omega
  have e2 : decide ((list.length : Int) ≤ (n : Int)) = false := by simp; omega
  rw [e1, e2]
  unfold isT
  by_cases c1 : w.text = mkS [33]
  · simp only [c1, decide_true, if_true]
    cases spec_l2Tight list ((n + 1 : Nat) : Int) <;> rfl
  by_cases c2 : w.text = mkS [64]
  · simp only [c1, c2, decide_true, decide_false, if_true, if_false, Bool.false_eq_true]
    cases spec_l2Tight list ((n + 1 : Nat) : Int) <;> rfl
  by_cases c3 : w.text = mkS [40]
  · have a1 : (mkS [40] : Str) ≠ mkS [33] := by decide
    have a2 : (mkS [40] : Str) ≠ mkS [64] := by decide
    simp [c3, a1, a2]
  by_cases c4 : w.kind = 2
  · simp [c1, c2, c3, c4]
  by_cases c5 : w.kind = 1
  · cases ws with
    | nil => simp [c1, c2, c3, c5]
    | cons v ws => by_cases c6 : v.text = mkS [40] <;> simp [c1, c2, c3, c5, c6]
  · simp [c1, c2, c3, c4, c5]
theorem read5 (list : List Word_) (n : Int) : spec_l2Read list n 5 = spec_l2Tight list n := by
  rw [spec_l2Read]
  rw [if_pos (by decide)]
  cases spec_l2Tight list n <;> rfl
theorem bindS {α : Type} {o : Option α} : (Option.bind o fun e => some e) = o := by cases o <;> rfl
theorem read_lv {list : List Word_} {n lv : Int} (hl : lv = 1 ∨ lv = 2 ∨ lv = 3 ∨ lv = 4) : spec_l2Read list n lv = Option.bind (spec_l2Read list n (lv + 1)) fun r => Option.bind (loopM (fun (xs2_1 : Int × Int × Str × (List Expr_) × Int) => (Option.bind (if decide (0 ≤ xs2_1.2.2.2.2) then Option.bind (spec_l2Op list xs2_1.2.2.2.2 lv) fun r3_1 => some (decide (0 < r3_1)) else some false : Option (Bool)) fun s2_1 => if s2_1 then Option.bind (spec_l2Op list xs2_1.2.2.2.2 lv) fun r2_1 => Option.bind (spec_l2Read list (w64 (xs2_1.2.2.2.2 + 1)) (w64 (lv + 1))) fun r2_2 => some (.inl (r2_1, 0, (mkS []), ([(⟨xs2_1.1, xs2_1.2.1, xs2_1.2.2.1, xs2_1.2.2.2.1⟩ : Expr_), r2_2.1] : List Expr_), r2_2.2)) else some (.inr (xs2_1.1, xs2_1.2.1, xs2_1.2.2.1, xs2_1.2.2.2.1, xs2_1.2.2.2.2)) : Option ((Int × Int × Str × (List Expr_) × Int) ⊕ (Int × Int × Str × (List Expr_) × Int)))) (r.1.op, r.1.n_, r.1.name, r.1.kids, r.2)) fun s => some (⟨s.1, s.2.1, s.2.2.1, s.2.2.2.1⟩, s.2.2.2.2) := by
  have e : w64 (lv + 1) = lv + 1 := w64_id (by omega) (by omega)
  have e2 : decide (4 < lv) = false := by simp; omega
  rw [spec_l2Read, e2]
  simp only [Bool.false_eq_true, if_false, e, bindS]
end Prg
end Go.Wk
namespace Go.Wk
open Go
namespace Prg
set_option maxRecDepth 10000
theorem mk_eta (e : Expr_) : (⟨e.op, e.n_, e.name, e.kids⟩ : Expr_) = e := by cases e; rfl
theorem opW_ge (lv : Int) (w : Word_) : 0 ≤ opW lv w := by
  unfold opW; repeat' split
  all_goals decide
theorem spL_stop {list : List Word_} {n : Nat} {ws : List Word_} (h : AtW list n ws) {lv : Int} (hl : lv = 1 ∨ lv = 2 ∨ lv = 3 ∨ lv = 4) (ho : opT lv ws = 0) {op n_ : Int} {nm : Str} {ks : List Expr_} :
    loopM (fun (xs2_1 : Int × Int × Str × (List Expr_) × Int) => (Option.bind (if decide (0 ≤ xs2_1.2.2.2.2) then Option.bind (spec_l2Op list xs2_1.2.2.2.2 lv) fun r3_1 => some (decide (0 < r3_1)) else some false : Option (Bool)) fun s2_1 => if s2_1 then Option.bind (spec_l2Op list xs2_1.2.2.2.2 lv) fun r2_1 => Option.bind (spec_l2Read list (w64 (xs2_1.2.2.2.2 + 1)) (w64 (lv + 1))) fun r2_2 => some (.inl (r2_1, 0, (mkS []), ([(⟨xs2_1.1, xs2_1.2.1, xs2_1.2.2.1, xs2_1.2.2.2.1⟩ : Expr_), r2_2.1] : List Expr_), r2_2.2)) else some (.inr (xs2_1.1, xs2_1.2.1, xs2_1.2.2.1, xs2_1.2.2.2.1, xs2_1.2.2.2.2)) : Option ((Int × Int × Str × (List Expr_) × Int) ⊕ (Int × Int × Str × (List Expr_) × Int)))) (op, n_, nm, ks, (n : Int)) = some (op, n_, nm, ks, (n : Int)) := by
  refine loopM_inr ?_
  have e1 : decide (0 ≤ (n : Int)) = true := by simp
  simp only [e1, at_op h hl, ho, Option.bind_some]
  rfl
theorem spL_step {list : List Word_} (hlen : list.length ≤ 1000) {n : Nat} {w : Word_} {ws : List Word_} (h : AtW list n (w :: ws)) {lv : Int} (hl : lv = 1 ∨ lv = 2 ∨ lv = 3 ∨ lv = 4) (ho : opW lv w ≠ 0) {op n_ : Int} {nm : Str} {ks : List Expr_} {f : Expr_} {m : Int}
    (hr : spec_l2Read list ((n + 1 : Nat) : Int) (lv + 1) = some (f, m)) :
    loopM (fun (xs2_1 : Int × Int × Str × (List Expr_) × Int) => (Option.bind (if decide (0 ≤ xs2_1.2.2.2.2) then Option.bind (spec_l2Op list xs2_1.2.2.2.2 lv) fun r3_1 => some (decide (0 < r3_1)) else some false : Option (Bool)) fun s2_1 => if s2_1 then Option.bind (spec_l2Op list xs2_1.2.2.2.2 lv) fun r2_1 => Option.bind (spec_l2Read list (w64 (xs2_1.2.2.2.2 + 1)) (w64 (lv + 1))) fun r2_2 => some (.inl (r2_1, 0, (mkS []), ([(⟨xs2_1.1, xs2_1.2.1, xs2_1.2.2.1, xs2_1.2.2.2.1⟩ : Expr_), r2_2.1] : List Expr_), r2_2.2)) else some (.inr (xs2_1.1, xs2_1.2.1, xs2_1.2.2.1, xs2_1.2.2.2.1, xs2_1.2.2.2.2)) : Option ((Int × Int × Str × (List Expr_) × Int) ⊕ (Int × Int × Str × (List Expr_) × Int)))) (op, n_, nm, ks, (n : Int)) = loopM (fun (xs2_1 : Int × Int × Str × (List Expr_) × Int) => (Option.bind (if decide (0 ≤ xs2_1.2.2.2.2) then Option.bind (spec_l2Op list xs2_1.2.2.2.2 lv) fun r3_1 => some (decide (0 < r3_1)) else some false : Option (Bool)) fun s2_1 => if s2_1 then Option.bind (spec_l2Op list xs2_1.2.2.2.2 lv) fun r2_1 => Option.bind (spec_l2Read list (w64 (xs2_1.2.2.2.2 + 1)) (w64 (lv + 1))) fun r2_2 => some (.inl (r2_1, 0, (mkS []), ([(⟨xs2_1.1, xs2_1.2.1, xs2_1.2.2.1, xs2_1.2.2.2.1⟩ : Expr_), r2_2.1] : List Expr_), r2_2.2)) else some (.inr (xs2_1.1, xs2_1.2.1, xs2_1.2.2.1, xs2_1.2.2.2.1, xs2_1.2.2.2.2)) : Option ((Int × Int × Str × (List Expr_) × Int) ⊕ (Int × Int × Str × (List Expr_) × Int)))) (opW lv w, 0, mkS [], [⟨op, n_, nm, ks⟩, f], m) := by
  obtain ⟨h1, h2, h3⟩ := at_cons h
  refine loopM_inl ?_
  have e1 : decide (0 ≤ (n : Int)) = true := by simp
  have e2 : decide (0 < opW lv w) = true := by have := opW_ge lv w; simp; omega
  have e3 : w64 (lv + 1) = lv + 1 := w64_id (by omega) (by omega)
  have e4 : spec_l2Op list (n : Int) lv = some (opW lv w) := at_op h hl
  simp only [e1, e4, e2, e3, w64_1 (show n ≤ 2000 by omega), hr, Option.bind_some, if_true]
theorem list_eq {list : List Word_} (hlen : list.length ≤ 1000) {n : Nat} {ws : List Word_} (h : AtW list n ws) : spec_l2List list (n : Int) = if isT ws (mkS [41]) then some ([], ((n + 1 : Nat) : Int)) else loopM (fun (xs1_1 : Int × (List Expr_)) => (Option.bind (spec_l2Read list xs1_1.1 1) fun r1_1 => Option.bind (appM xs1_1.2 ([r1_1.1] : List Expr_)) fun ys1_1 => Option.bind (if decide (r1_1.2 < 0) then some true else Option.bind (spec_l2Is list r1_1.2 (mkS [41])) fun r2_1 => some r2_1 : Option (Bool)) fun s1_1 => if s1_1 then Option.bind (spec_l1Step r1_1.2) fun r1_2 => some (.inr (ys1_1, w64 (r1_1.2 + r1_2))) else Option.bind (spec_l2Is list r1_1.2 (mkS [44])) fun r1_3 => if !(r1_3) then some (.inr (ys1_1, -1)) else some (.inl (w64 (r1_1.2 + 1), ys1_1)) : Option ((Int × (List Expr_)) ⊕ ((List Expr_) × Int)))) ((n : Int), []) := by
  have := h.2
  rw [spec_l2List, at_is h, Option.bind_some, w64_1 (show n ≤ 2000 by omega), bindS]
theorem spA_at {list : List Word_} (hlen : list.length ≤ 1000) {q : Int} {acc : List Expr_} (ha : acc.length ≤ 1000) {e : Expr_} {n : Nat} {ws : List Word_} (h : AtW list n ws) (hr : spec_l2Read list q 1 = some (e, (n : Int))) :
    loopM (fun (xs1_1 : Int × (List Expr_)) => (Option.bind (spec_l2Read list xs1_1.1 1) fun r1_1 => Option.bind (appM xs1_1.2 ([r1_1.1] : List Expr_)) fun ys1_1 => Option.bind (if decide (r1_1.2 < 0) then some true else Option.bind (spec_l2Is list r1_1.2 (mkS [41])) fun r2_1 => some r2_1 : Option (Bool)) fun s1_1 => if s1_1 then Option.bind (spec_l1Step r1_1.2) fun r1_2 => some (.inr (ys1_1, w64 (r1_1.2 + r1_2))) else Option.bind (spec_l2Is list r1_1.2 (mkS [44])) fun r1_3 => if !(r1_3) then some (.inr (ys1_1, -1)) else some (.inl (w64 (r1_1.2 + 1), ys1_1)) : Option ((Int × (List Expr_)) ⊕ ((List Expr_) × Int)))) (q, acc) = if isT ws (mkS [41]) then some (acc ++ [e], ((n + 1 : Nat) : Int)) else if isT ws (mkS [44]) then loopM (fun (xs1_1 : Int × (List Expr_)) => (Option.bind (spec_l2Read list xs1_1.1 1) fun r1_1 => Option.bind (appM xs1_1.2 ([r1_1.1] : List Expr_)) fun ys1_1 => Option.bind (if decide (r1_1.2 < 0) then some true else Option.bind (spec_l2Is list r1_1.2 (mkS [41])) fun r2_1 => some r2_1 : Option (Bool)) fun s1_1 => if s1_1 then Option.bind (spec_l1Step r1_1.2) fun r1_2 => some (.inr (ys1_1, w64 (r1_1.2 + r1_2))) else Option.bind (spec_l2Is list r1_1.2 (mkS [44])) fun r1_3 => if !(r1_3) then some (.inr (ys1_1, -1)) else some (.inl (w64 (r1_1.2 + 1), ys1_1)) : Option ((Int × (List Expr_)) ⊕ ((List Expr_) × Int)))) (((n + 1 : Nat) : Int), acc ++ [e]) else some (acc ++ [e], -1) := by
  have := h.2
  have e1 : decide ((n : Int) < 0) = false := by simp
  have hb : ((fun (xs1_1 : Int × (List Expr_)) => (Option.bind (spec_l2Read list xs1_1.1 1) fun r1_1 => Option.bind (appM xs1_1.2 ([r1_1.1] : List Expr_)) fun ys1_1 => Option.bind (if decide (r1_1.2 < 0) then some true else Option.bind (spec_l2Is list r1_1.2 (mkS [41])) fun r2_1 => some r2_1 : Option (Bool)) fun s1_1 => if s1_1 then Option.bind (spec_l1Step r1_1.2) fun r1_2 => some (.inr (ys1_1, w64 (r1_1.2 + r1_2))) else Option.bind (spec_l2Is list r1_1.2 (mkS [44])) fun r1_3 => if !(r1_3) then some (.inr (ys1_1, -1)) else some (.inl (w64 (r1_1.2 + 1), ys1_1)) : Option ((Int × (List Expr_)) ⊕ ((List Expr_) × Int)))) : _ → _) (q, acc) = if isT ws (mkS [41]) then some (.inr (acc ++ [e], ((n + 1 : Nat) : Int))) else if isT ws (mkS [44]) then some (.inl (((n + 1 : Nat) : Int), acc ++ [e])) else some (.inr (acc ++ [e], -1)) := by
    have hs : spec_l1Step (n : Int) = some 1 := by unfold spec_l1Step; rw [e1]; rfl
    simp only [hr, Option.bind_some, appM_ok (show acc.length + [e].length ≤ 2147483648 by simp; omega), e1, at_is h, hs, w64_1 (show n ≤ 2000 by omega), Bool.false_eq_true, if_false]
    cases isT ws (mkS [41]) <;> cases isT ws (mkS [44]) <;> rfl
  cases h1 : isT ws (mkS [41]) with
  | true => rw [h1] at hb; exact loopM_inr hb
  | false =>
    rw [h1] at hb
    cases h2 : isT ws (mkS [44]) with
    | true => rw [h2] at hb; exact loopM_inl hb
    | false => rw [h2] at hb; exact loopM_inr hb
def SpecJ (list : List Word_) : Job → Prop
  | .E lv ws e r => ∀ n, AtW list n ws → ∃ m, AtW list m r ∧ n < m ∧ spec_l2Read list (n : Int) lv = some (e, ((m : Nat) : Int))
  | .L lv x ws e r => (lv = 1 ∨ lv = 2 ∨ lv = 3 ∨ lv = 4) → ∀ n, AtW list n ws → ∃ m, AtW list m r ∧ n ≤ m ∧ loopM (fun (xs2_1 : Int × Int × Str × (List Expr_) × Int) => (Option.bind (if decide (0 ≤ xs2_1.2.2.2.2) then Option.bind (spec_l2Op list xs2_1.2.2.2.2 lv) fun r3_1 => some (decide (0 < r3_1)) else some false : Option (Bool)) fun s2_1 => if s2_1 then Option.bind (spec_l2Op list xs2_1.2.2.2.2 lv) fun r2_1 => Option.bind (spec_l2Read list (w64 (xs2_1.2.2.2.2 + 1)) (w64 (lv + 1))) fun r2_2 => some (.inl (r2_1, 0, (mkS []), ([(⟨xs2_1.1, xs2_1.2.1, xs2_1.2.2.1, xs2_1.2.2.2.1⟩ : Expr_), r2_2.1] : List Expr_), r2_2.2)) else some (.inr (xs2_1.1, xs2_1.2.1, xs2_1.2.2.1, xs2_1.2.2.2.1, xs2_1.2.2.2.2)) : Option ((Int × Int × Str × (List Expr_) × Int) ⊕ (Int × Int × Str × (List Expr_) × Int)))) (x.op, x.n_, x.name, x.kids, (n : Int)) = some (e.op, e.n_, e.name, e.kids, ((m : Nat) : Int))
  | .A ws ks r => ∀ n, AtW list n ws → ∃ m, AtW list m r ∧ n < m ∧ spec_l2List list (n : Int) = some (ks, ((m : Nat) : Int))
  | .M acc ws ks r => ∀ n, AtW list n ws → ∀ q acc0 e, acc = acc0 ++ [e] → acc.length ≤ n → spec_l2Read list q 1 = some (e, (n : Int)) → ∃ m, AtW list m r ∧ n < m ∧ loopM (fun (xs1_1 : Int × (List Expr_)) => (Option.bind (spec_l2Read list xs1_1.1 1) fun r1_1 => Option.bind (appM xs1_1.2 ([r1_1.1] : List Expr_)) fun ys1_1 => Option.bind (if decide (r1_1.2 < 0) then some true else Option.bind (spec_l2Is list r1_1.2 (mkS [41])) fun r2_1 => some r2_1 : Option (Bool)) fun s1_1 => if s1_1 then Option.bind (spec_l1Step r1_1.2) fun r1_2 => some (.inr (ys1_1, w64 (r1_1.2 + r1_2))) else Option.bind (spec_l2Is list r1_1.2 (mkS [44])) fun r1_3 => if !(r1_3) then some (.inr (ys1_1, -1)) else some (.inl (w64 (r1_1.2 + 1), ys1_1)) : Option ((Int × (List Expr_)) ⊕ ((List Expr_) × Int)))) (q, acc0) = some (ks, ((m : Nat) : Int))
theorem rd_spec {list : List Word_} (hlen : list.length ≤ 1000) (hv : ∀ w ∈ list, wordB w = true) {j : Job} (h : Rd j) : SpecJ list j := by
  have hin : ∀ {n w ws}, AtW list n (w :: ws) → wordB w = true := fun {n w ws} ha => hv w (List.mem_of_mem_drop (by rw [ha.1]; simp))
  have hne : ∀ {w : Word_} {c : UInt8} {t : Str}, wordB w = true → w.kind ≠ 3 → t.b = [c] → c ∈ sgnL → w.text ≠ t := fun {w c t} h1 h2 h3 h4 e => h2 (sign_kind h1 (by rw [e]; exact h3) h4)
  induction h <;> simp only [SpecJ] at *
  case neg w ws e r hw h ih =>
    intro n ha
    obtain ⟨h1, h2, h3⟩ := at_cons ha
    obtain ⟨m, g1, g2, g3⟩ := ih (n + 1) h3
    rw [read5] at g3
    exact ⟨m, g1, by omega, by rw [read5, tight_cons hlen ha, if_pos hw, g3]; rfl⟩
  case at_ w ws e r hw h ih =>
    intro n ha
    obtain ⟨h1, h2, h3⟩ := at_cons ha
    obtain ⟨m, g1, g2, g3⟩ := ih (n + 1) h3
    rw [read5] at g3
    exact ⟨m, g1, by omega, by rw [read5, tight_cons hlen ha, if_neg (by rw [hw]; decide), if_pos hw, g3]; rfl⟩
  case par w ws e v r hw h hv2 ih =>
    intro n ha
    obtain ⟨h1, h2, h3⟩ := at_cons ha
    obtain ⟨m, g1, g2, g3⟩ := ih (n + 1) h3
    obtain ⟨k1, k2, k3⟩ := at_cons g1
    refine ⟨m + 1, k3, by omega, ?_⟩
    have e1 : decide ((m : Int) < 0) = false := by simp
    have e2 : isT (v :: r) (mkS [41]) = true := by simp [isT, hv2]
    rw [read5, tight_cons hlen ha, if_neg (by rw [hw]; decide), if_neg (by rw [hw]; decide), if_pos hw, g3, Option.bind_some]
    dsimp only
    rw [e1, at_is g1, e2, w64_1 (by omega)]
    rfl
  case num w r hw =>
    intro n ha
    obtain ⟨h1, h2, h3⟩ := at_cons ha
    have hk : w.kind ≠ 3 := by omega
    exact ⟨n + 1, h3, by omega, by rw [read5, tight_cons hlen ha, if_neg (hne (hin ha) hk rfl (by decide)), if_neg (hne (hin ha) hk rfl (by decide)), if_neg (hne (hin ha) hk rfl (by decide)), if_pos hw]⟩
  case var w r hw ht =>
    intro n ha
    obtain ⟨h1, h2, h3⟩ := at_cons ha
    have hk : w.kind ≠ 3 := by omega
    exact ⟨n + 1, h3, by omega, by rw [read5, tight_cons hlen ha, if_neg (hne (hin ha) hk rfl (by decide)), if_neg (hne (hin ha) hk rfl (by decide)), if_neg (hne (hin ha) hk rfl (by decide)), if_neg (by omega), if_neg (by omega), if_pos ht]⟩
  case call w v ws ks r hw ht h ih =>
    intro n ha
    obtain ⟨h1, h2, h3⟩ := at_cons ha
    obtain ⟨k1, k2, k3⟩ := at_cons h3
    obtain ⟨m, g1, g2, g3⟩ := ih (n + 2) k3
    have hk : w.kind ≠ 3 := by omega
    exact ⟨m, g1, by omega, by rw [read5, tight_cons hlen ha, if_neg (hne (hin ha) hk rfl (by decide)), if_neg (hne (hin ha) hk rfl (by decide)), if_neg (hne (hin ha) hk rfl (by decide)), if_neg (by omega), if_neg (by omega), if_neg (by simp [isT, ht]), g3]; rfl⟩
  case up lv ws e ws' e' r hl h1 h2 ih1 ih2 =>
    intro n ha
    obtain ⟨m, g1, g2, g3⟩ := ih1 n ha
    obtain ⟨k, k1, k2, k3⟩ := ih2 hl m g1
    exact ⟨k, k1, by omega, by rw [read_lv hl, g3, Option.bind_some, k3, Option.bind_some]; dsimp only; rw [mk_eta]⟩
  case stop lv e ws ho =>
    intro hl n ha
    exact ⟨n, ha, Nat.le_refl _, spL_stop ha hl ho⟩
  case step lv e w ws f ws' e' r ho h1 h2 ih1 ih2 =>
    intro hl n ha
    obtain ⟨_, _, h3⟩ := at_cons ha
    obtain ⟨m, g1, g2, g3⟩ := ih1 (n + 1) h3
    obtain ⟨k, k1, k2, k3⟩ := ih2 hl m g1
    exact ⟨k, k1, by omega, by rw [spL_step hlen ha hl ho g3, mk_eta]; exact k3⟩
  case done v r hv2 =>
    intro n ha
    obtain ⟨_, _, h3⟩ := at_cons ha
    exact ⟨n + 1, h3, by omega, by rw [list_eq hlen ha, if_pos (by simp [isT, hv2])]⟩
  case first ws e ws' ks r ht h1 h2 ih1 ih2 =>
    intro n ha
    obtain ⟨m, g1, g2, g3⟩ := ih1 n ha
    obtain ⟨k, k1, k2, k3⟩ := ih2 m g1 n [] e rfl (by simp; omega) g3
    exact ⟨k, k1, by omega, by rw [list_eq hlen ha, ht]; exact k3⟩
  case last acc v r hv2 =>
    intro n ha q acc0 e he hle hr
    obtain ⟨h1, _, h3⟩ := at_cons ha
    refine ⟨n + 1, h3, by omega, ?_⟩
    rw [he] at hle ⊢
    simp at hle
    rw [spA_at hlen (by omega) ha hr, if_pos (by simp [isT, hv2])]
  case more acc v ws e ws' ks r hv2 h1 h2 ih1 ih2 =>
    intro n ha q acc0 e0 he hle hr
    obtain ⟨h1, _, h3⟩ := at_cons ha
    obtain ⟨m, g1, g2, g3⟩ := ih1 (n + 1) h3
    obtain ⟨k, k1, k2, k3⟩ := ih2 m g1 ((n + 1 : Nat) : Int) acc e rfl (by simp; omega) g3
    refine ⟨k, k1, by omega, ?_⟩
    have hle2 := hle
    rw [he] at hle2
    simp at hle2
    rw [spA_at hlen (by omega) ha hr, if_neg (by simp [isT, hv2]; try decide), if_pos (by simp [isT, hv2]), ← he]
    exact k3
end Prg
end Go.Wk
namespace Go.Wk
open Go
namespace Prg
set_option maxRecDepth 10000
def vW (ws : List Word_) : Prop := ∀ w ∈ ws, wordB w = true
theorem vW_tail {w : Word_} {ws : List Word_} (h : vW (w :: ws)) : vW ws := fun x hx => h x (by simp [hx])
theorem vW_head {w : Word_} {ws : List Word_} (h : vW (w :: ws)) : wordB w = true := h w (by simp)
def isS (w : Word_) (t : Str) : Bool := decide (w.kind = 3) && decide (w.text = t)
theorem isS_eq {w : Word_} (h : wordB w = true) {t : Str} {c : UInt8} (ht : t.b = [c]) (hc : c ∈ sgnL) : (decide (w.kind = 3) && decide (w.text = t)) = decide (w.text = t) := by
  by_cases h2 : w.text = t
  · have := sign_kind h (by rw [h2]; exact ht) hc
    simp [h2, this]
  · simp [h2]
theorem expr5 (r : wordReader) : pimpl_wordReader__expr r 5 = pimpl_wordReader__single r := by
  rw [pimpl_wordReader__expr, if_pos (by decide)]
  cases pimpl_wordReader__single r <;> rfl
theorem expr_inl {r : wordReader} {lv : Int} (hl : lv = 1 ∨ lv = 2 ∨ lv = 3 ∨ lv = 4) {x : Expr_} {ws : List Word_} {b : Bool} {y : Expr_ × wordReader} (h1 : pimpl_wordReader__expr r (lv + 1) = some (x, ⟨ws, b⟩))
    (h2 : loopM (fun (xs2_1 : (List Word_) × Bool × Int × Int × Str × (List Expr_)) => (if !(xs2_1.2.1) then Option.bind (Option.bind (rangeP (fun (p4_1 : Int × St_sign_level) (xs4_1 : Int) => Option.bind (Option.bind (if decide (p4_1.2.level = lv) then Option.bind (pimpl_wordReader__peek (⟨xs2_1.1, xs2_1.2.1⟩ : wordReader)) fun r6_1 => Option.bind (impl_signWord p4_1.2.sign) fun r6_2 => some (decide (r6_1.kind = r6_2.kind) && decide (r6_1.text = r6_2.text)) else some false : Option (Bool)) fun s5_1 => Option.bind (if s5_1 then some p4_1.1 else some xs4_1 : Option (Int)) fun s5_2 => some s5_2 : Option (Int)) fun s4_2 => some s4_2) (glob_impl_opSign : MapS St_sign_level).es 0) (fun xs3_1 => some xs3_1) : Option (Int)) fun s2_1 => if decide (s2_1 = 0) then some (.inr (.inl ((⟨xs2_1.2.2.1, xs2_1.2.2.2.1, xs2_1.2.2.2.2.1, xs2_1.2.2.2.2.2⟩ : Expr_), (⟨xs2_1.1, xs2_1.2.1⟩ : wordReader)))) else Option.bind (pimpl_wordReader__next (⟨xs2_1.1, xs2_1.2.1⟩ : wordReader)) fun r2_1 => Option.bind (Option.bind (pimpl_wordReader__expr r2_1.2 (w64 (lv + 1))) fun pb3_1 => some (pb3_1.2.list, pb3_1.2.bad, ([(⟨xs2_1.2.2.1, xs2_1.2.2.2.1, xs2_1.2.2.2.2.1, xs2_1.2.2.2.2.2⟩ : Expr_), pb3_1.1] : List Expr_)) : Option ((List Word_) × Bool × (List Expr_))) fun s2_2 => some (.inl (s2_2.1, s2_2.2.1, s2_1, 0, (mkS []), s2_2.2.2)) else some (.inr (.inr (xs2_1.2.2.1, xs2_1.2.2.2.1, xs2_1.2.2.2.2.1, xs2_1.2.2.2.2.2, xs2_1.1, xs2_1.2.1))) : Option (((List Word_) × Bool × Int × Int × Str × (List Expr_)) ⊕ ((Expr_ × wordReader) ⊕ (Int × Int × Str × (List Expr_) × (List Word_) × Bool))))) (ws, b, x.op, x.n_, x.name, x.kids) = some (.inl y)) : pimpl_wordReader__expr r lv = some y := by
  have e : w64 (lv + 1) = lv + 1 := w64_id (by omega) (by omega)
  have e2 : decide (lv = 5) = false := by simp; omega
  rw [e] at h2
  rw [pimpl_wordReader__expr, e2]
  simp only [Bool.false_eq_true, if_false, e, h1, Option.bind_some, h2]
  rfl
theorem imL_stop {lv : Int} (hl : lv = 1 ∨ lv = 2 ∨ lv = 3 ∨ lv = 4) {ws : List Word_} (hw : vW ws) (ho : opT lv ws = 0) {op n_ : Int} {nm : Str} {ks : List Expr_} :
    loopM (fun (xs2_1 : (List Word_) × Bool × Int × Int × Str × (List Expr_)) => (if !(xs2_1.2.1) then Option.bind (Option.bind (rangeP (fun (p4_1 : Int × St_sign_level) (xs4_1 : Int) => Option.bind (Option.bind (if decide (p4_1.2.level = lv) then Option.bind (pimpl_wordReader__peek (⟨xs2_1.1, xs2_1.2.1⟩ : wordReader)) fun r6_1 => Option.bind (impl_signWord p4_1.2.sign) fun r6_2 => some (decide (r6_1.kind = r6_2.kind) && decide (r6_1.text = r6_2.text)) else some false : Option (Bool)) fun s5_1 => Option.bind (if s5_1 then some p4_1.1 else some xs4_1 : Option (Int)) fun s5_2 => some s5_2 : Option (Int)) fun s4_2 => some s4_2) (glob_impl_opSign : MapS St_sign_level).es 0) (fun xs3_1 => some xs3_1) : Option (Int)) fun s2_1 => if decide (s2_1 = 0) then some (.inr (.inl ((⟨xs2_1.2.2.1, xs2_1.2.2.2.1, xs2_1.2.2.2.2.1, xs2_1.2.2.2.2.2⟩ : Expr_), (⟨xs2_1.1, xs2_1.2.1⟩ : wordReader)))) else Option.bind (pimpl_wordReader__next (⟨xs2_1.1, xs2_1.2.1⟩ : wordReader)) fun r2_1 => Option.bind (Option.bind (pimpl_wordReader__expr r2_1.2 (w64 (lv + 1))) fun pb3_1 => some (pb3_1.2.list, pb3_1.2.bad, ([(⟨xs2_1.2.2.1, xs2_1.2.2.2.1, xs2_1.2.2.2.2.1, xs2_1.2.2.2.2.2⟩ : Expr_), pb3_1.1] : List Expr_)) : Option ((List Word_) × Bool × (List Expr_))) fun s2_2 => some (.inl (s2_2.1, s2_2.2.1, s2_1, 0, (mkS []), s2_2.2.2)) else some (.inr (.inr (xs2_1.2.2.1, xs2_1.2.2.2.1, xs2_1.2.2.2.2.1, xs2_1.2.2.2.2.2, xs2_1.1, xs2_1.2.1))) : Option (((List Word_) × Bool × Int × Int × Str × (List Expr_)) ⊕ ((Expr_ × wordReader) ⊕ (Int × Int × Str × (List Expr_) × (List Word_) × Bool))))) (ws, false, op, n_, nm, ks) = some (.inl (⟨op, n_, nm, ks⟩, ⟨ws, false⟩)) := by
  refine loopM_inr ?_
  dsimp only
  rw [if_pos (show (!false) = true from rfl)]
  refine bindt (bindt (opI_ok ws hw lv hl fun p s => ?_) rfl) ?_
  · simp only [peek_ok, impl_signWord, Option.bind_some]
    unfold qE
    by_cases c1 : p.2.level = lv <;> by_cases c2 : (pkW ws).kind = 3 <;> by_cases c3 : (pkW ws).text = p.2.sign <;> simp [c1, c2, c3]
  · rw [ho]; rfl
theorem imL_step {lv : Int} (hl : lv = 1 ∨ lv = 2 ∨ lv = 3 ∨ lv = 4) {w : Word_} {ws : List Word_} (hw : vW (w :: ws)) (ho : opW lv w ≠ 0) {op n_ : Int} {nm : Str} {ks : List Expr_} {f : Expr_} {ws' : List Word_} {b : Bool}
    (hr : pimpl_wordReader__expr ⟨ws, false⟩ (lv + 1) = some (f, ⟨ws', b⟩)) :
    loopM (fun (xs2_1 : (List Word_) × Bool × Int × Int × Str × (List Expr_)) => (if !(xs2_1.2.1) then Option.bind (Option.bind (rangeP (fun (p4_1 : Int × St_sign_level) (xs4_1 : Int) => Option.bind (Option.bind (if decide (p4_1.2.level = lv) then Option.bind (pimpl_wordReader__peek (⟨xs2_1.1, xs2_1.2.1⟩ : wordReader)) fun r6_1 => Option.bind (impl_signWord p4_1.2.sign) fun r6_2 => some (decide (r6_1.kind = r6_2.kind) && decide (r6_1.text = r6_2.text)) else some false : Option (Bool)) fun s5_1 => Option.bind (if s5_1 then some p4_1.1 else some xs4_1 : Option (Int)) fun s5_2 => some s5_2 : Option (Int)) fun s4_2 => some s4_2) (glob_impl_opSign : MapS St_sign_level).es 0) (fun xs3_1 => some xs3_1) : Option (Int)) fun s2_1 => if decide (s2_1 = 0) then some (.inr (.inl ((⟨xs2_1.2.2.1, xs2_1.2.2.2.1, xs2_1.2.2.2.2.1, xs2_1.2.2.2.2.2⟩ : Expr_), (⟨xs2_1.1, xs2_1.2.1⟩ : wordReader)))) else Option.bind (pimpl_wordReader__next (⟨xs2_1.1, xs2_1.2.1⟩ : wordReader)) fun r2_1 => Option.bind (Option.bind (pimpl_wordReader__expr r2_1.2 (w64 (lv + 1))) fun pb3_1 => some (pb3_1.2.list, pb3_1.2.bad, ([(⟨xs2_1.2.2.1, xs2_1.2.2.2.1, xs2_1.2.2.2.2.1, xs2_1.2.2.2.2.2⟩ : Expr_), pb3_1.1] : List Expr_)) : Option ((List Word_) × Bool × (List Expr_))) fun s2_2 => some (.inl (s2_2.1, s2_2.2.1, s2_1, 0, (mkS []), s2_2.2.2)) else some (.inr (.inr (xs2_1.2.2.1, xs2_1.2.2.2.1, xs2_1.2.2.2.2.1, xs2_1.2.2.2.2.2, xs2_1.1, xs2_1.2.1))) : Option (((List Word_) × Bool × Int × Int × Str × (List Expr_)) ⊕ ((Expr_ × wordReader) ⊕ (Int × Int × Str × (List Expr_) × (List Word_) × Bool))))) (w :: ws, false, op, n_, nm, ks) = loopM (fun (xs2_1 : (List Word_) × Bool × Int × Int × Str × (List Expr_)) => (if !(xs2_1.2.1) then Option.bind (Option.bind (rangeP (fun (p4_1 : Int × St_sign_level) (xs4_1 : Int) => Option.bind (Option.bind (if decide (p4_1.2.level = lv) then Option.bind (pimpl_wordReader__peek (⟨xs2_1.1, xs2_1.2.1⟩ : wordReader)) fun r6_1 => Option.bind (impl_signWord p4_1.2.sign) fun r6_2 => some (decide (r6_1.kind = r6_2.kind) && decide (r6_1.text = r6_2.text)) else some false : Option (Bool)) fun s5_1 => Option.bind (if s5_1 then some p4_1.1 else some xs4_1 : Option (Int)) fun s5_2 => some s5_2 : Option (Int)) fun s4_2 => some s4_2) (glob_impl_opSign : MapS St_sign_level).es 0) (fun xs3_1 => some xs3_1) : Option (Int)) fun s2_1 => if decide (s2_1 = 0) then some (.inr (.inl ((⟨xs2_1.2.2.1, xs2_1.2.2.2.1, xs2_1.2.2.2.2.1, xs2_1.2.2.2.2.2⟩ : Expr_), (⟨xs2_1.1, xs2_1.2.1⟩ : wordReader)))) else Option.bind (pimpl_wordReader__next (⟨xs2_1.1, xs2_1.2.1⟩ : wordReader)) fun r2_1 => Option.bind (Option.bind (pimpl_wordReader__expr r2_1.2 (w64 (lv + 1))) fun pb3_1 => some (pb3_1.2.list, pb3_1.2.bad, ([(⟨xs2_1.2.2.1, xs2_1.2.2.2.1, xs2_1.2.2.2.2.1, xs2_1.2.2.2.2.2⟩ : Expr_), pb3_1.1] : List Expr_)) : Option ((List Word_) × Bool × (List Expr_))) fun s2_2 => some (.inl (s2_2.1, s2_2.2.1, s2_1, 0, (mkS []), s2_2.2.2)) else some (.inr (.inr (xs2_1.2.2.1, xs2_1.2.2.2.1, xs2_1.2.2.2.2.1, xs2_1.2.2.2.2.2, xs2_1.1, xs2_1.2.1))) : Option (((List Word_) × Bool × Int × Int × Str × (List Expr_)) ⊕ ((Expr_ × wordReader) ⊕ (Int × Int × Str × (List Expr_) × (List Word_) × Bool))))) (ws', b, opW lv w, 0, mkS [], [⟨op, n_, nm, ks⟩, f]) := by
  refine loopM_inl ?_
  dsimp only
  rw [if_pos (show (!false) = true from rfl)]
  refine bindt (bindt (opI_ok (w :: ws) hw lv hl fun p s => ?_) rfl) ?_
  · simp only [peek_ok, impl_signWord, Option.bind_some]
    unfold qE
    by_cases c1 : p.2.level = lv <;> by_cases c2 : (pkW (w :: ws)).kind = 3 <;> by_cases c3 : (pkW (w :: ws)).text = p.2.sign <;> simp [c1, c2, c3]
  · have e2 : decide (opT lv (w :: ws) = 0) = false := decide_eq_false ho
    have e : w64 (lv + 1) = lv + 1 := w64_id (by omega) (by omega)
    rw [e2, next_cons, e, Option.bind_some, hr]
    rfl
theorem single_cons {w : Word_} {ws : List Word_} (hw : vW (w :: ws)) : pimpl_wordReader__single ⟨w :: ws, false⟩ =
    if w.text = mkS [33] then Option.bind (pimpl_wordReader__single ⟨ws, false⟩) fun r => some (⟨11, 0, mkS [], [r.1]⟩, r.2)
    else if w.text = mkS [64] then Option.bind (pimpl_wordReader__single ⟨ws, false⟩) fun r => some (⟨12, 0, mkS [], [r.1]⟩, r.2)
    else if w.text = mkS [40] then Option.bind (pimpl_wordReader__expr ⟨ws, false⟩ 1) fun r => Option.bind (pimpl_wordReader__want r.2 3 (mkS [41])) fun q => some (r.1, q)
    else if w.kind = 2 then some (⟨1, numW w, mkS [], []⟩, ⟨ws, false⟩)
    else if w.kind ≠ 1 then some (⟨0, 0, mkS [], []⟩, ⟨ws, true⟩)
    else if isT ws (mkS [40]) = false then some (⟨2, 0, w.text, []⟩, ⟨ws, false⟩)
    else Option.bind (loopM (fun (xs2_1 : (List Word_) × Bool × (List Expr_)) => (Option.bind (if !(xs2_1.2.1) then Option.bind (pimpl_wordReader__take (⟨xs2_1.1, xs2_1.2.1⟩ : wordReader) 3 (mkS [41])) fun r3_1 => some (r3_1.2.list, r3_1.2.bad, !(r3_1.1)) else some (xs2_1.1, xs2_1.2.1, false) : Option ((List Word_) × Bool × Bool)) fun s2_1 => if s2_1.2.2 then Option.bind (if decide (0 < ((xs2_1.2.2.length : Int))) then Option.bind (pimpl_wordReader__want (⟨s2_1.1, s2_1.2.1⟩ : wordReader) 3 (mkS [44])) fun r3_2 => some (r3_2.list, r3_2.bad) else some (s2_1.1, s2_1.2.1) : Option ((List Word_) × Bool)) fun s2_2 => Option.bind (pimpl_wordReader__expr (⟨s2_2.1, s2_2.2⟩ : wordReader) 1) fun r2_1 => Option.bind (appM xs2_1.2.2 ([r2_1.1] : List Expr_)) fun ys2_1 => some (.inl (r2_1.2.list, r2_1.2.bad, ys2_1)) else some (.inr (xs2_1.2.2, s2_1.1, s2_1.2.1)) : Option (((List Word_) × Bool × (List Expr_)) ⊕ ((List Expr_) × (List Word_) × Bool)))) (ws.tail, false, [])) fun s => some (⟨13, 0, w.text, s.1⟩, ⟨s.2.1, s.2.2⟩) := by
  have h0 := vW_head hw
  have a1 := isS_eq h0 (t := mkS [33]) rfl (by decide)
  have a2 := isS_eq h0 (t := mkS [64]) rfl (by decide)
  have a3 := isS_eq h0 (t := mkS [40]) rfl (by decide)
  rw [pimpl_wordReader__single, next_cons]
  simp only [Option.bind_some, Bool.false_eq_true, if_false, impl_signWord, a1, a2, a3, number_ok, take_ok, tk_is (vW_tail hw) (t := mkS [40]) rfl (by decide), bindS, decide_eq_true_eq]
  by_cases c1 : w.text = mkS [33]
  · simp only [c1, if_true]
  by_cases c2 : w.text = mkS [64]
  · simp only [c1, c2, if_true, if_false]
  by_cases c3 : w.text = mkS [40]
  · simp only [c1, c2, c3, if_true, if_false]
  by_cases c4 : w.kind = 2
  · simp only [c1, c2, c3, c4, if_true, if_false]
  by_cases c5 : w.kind = 1
  · cases c6 : isT ws (mkS [40]) <;> simp [c1, c2, c3, c5]
  · simp [c1, c2, c3, c4, c5]
theorem imA_end {v : Word_} {ws : List Word_} (hw : vW (v :: ws)) (hv : v.text = mkS [41]) {ks : List Expr_} : loopM (fun (xs2_1 : (List Word_) × Bool × (List Expr_)) => (Option.bind (if !(xs2_1.2.1) then Option.bind (pimpl_wordReader__take (⟨xs2_1.1, xs2_1.2.1⟩ : wordReader) 3 (mkS [41])) fun r3_1 => some (r3_1.2.list, r3_1.2.bad, !(r3_1.1)) else some (xs2_1.1, xs2_1.2.1, false) : Option ((List Word_) × Bool × Bool)) fun s2_1 => if s2_1.2.2 then Option.bind (if decide (0 < ((xs2_1.2.2.length : Int))) then Option.bind (pimpl_wordReader__want (⟨s2_1.1, s2_1.2.1⟩ : wordReader) 3 (mkS [44])) fun r3_2 => some (r3_2.list, r3_2.bad) else some (s2_1.1, s2_1.2.1) : Option ((List Word_) × Bool)) fun s2_2 => Option.bind (pimpl_wordReader__expr (⟨s2_2.1, s2_2.2⟩ : wordReader) 1) fun r2_1 => Option.bind (appM xs2_1.2.2 ([r2_1.1] : List Expr_)) fun ys2_1 => some (.inl (r2_1.2.list, r2_1.2.bad, ys2_1)) else some (.inr (xs2_1.2.2, s2_1.1, s2_1.2.1)) : Option (((List Word_) × Bool × (List Expr_)) ⊕ ((List Expr_) × (List Word_) × Bool)))) (v :: ws, false, ks) = some (ks, ws, false) := by
  refine loopM_inr ?_
  have e : isT (v :: ws) (mkS [41]) = true := by simp [isT, hv]
  simp only [take_ok, tk_is hw (t := mkS [41]) rfl (by decide), e]
  rfl
theorem imA_first {ws : List Word_} (hw : vW ws) (ht : isT ws (mkS [41]) = false) {e : Expr_} {ws' : List Word_} {b : Bool} (hr : pimpl_wordReader__expr ⟨ws, false⟩ 1 = some (e, ⟨ws', b⟩)) :
    loopM (fun (xs2_1 : (List Word_) × Bool × (List Expr_)) => (Option.bind (if !(xs2_1.2.1) then Option.bind (pimpl_wordReader__take (⟨xs2_1.1, xs2_1.2.1⟩ : wordReader) 3 (mkS [41])) fun r3_1 => some (r3_1.2.list, r3_1.2.bad, !(r3_1.1)) else some (xs2_1.1, xs2_1.2.1, false) : Option ((List Word_) × Bool × Bool)) fun s2_1 => if s2_1.2.2 then Option.bind (if decide (0 < ((xs2_1.2.2.length : Int))) then Option.bind (pimpl_wordReader__want (⟨s2_1.1, s2_1.2.1⟩ : wordReader) 3 (mkS [44])) fun r3_2 => some (r3_2.list, r3_2.bad) else some (s2_1.1, s2_1.2.1) : Option ((List Word_) × Bool)) fun s2_2 => Option.bind (pimpl_wordReader__expr (⟨s2_2.1, s2_2.2⟩ : wordReader) 1) fun r2_1 => Option.bind (appM xs2_1.2.2 ([r2_1.1] : List Expr_)) fun ys2_1 => some (.inl (r2_1.2.list, r2_1.2.bad, ys2_1)) else some (.inr (xs2_1.2.2, s2_1.1, s2_1.2.1)) : Option (((List Word_) × Bool × (List Expr_)) ⊕ ((List Expr_) × (List Word_) × Bool)))) (ws, false, []) = loopM (fun (xs2_1 : (List Word_) × Bool × (List Expr_)) => (Option.bind (if !(xs2_1.2.1) then Option.bind (pimpl_wordReader__take (⟨xs2_1.1, xs2_1.2.1⟩ : wordReader) 3 (mkS [41])) fun r3_1 => some (r3_1.2.list, r3_1.2.bad, !(r3_1.1)) else some (xs2_1.1, xs2_1.2.1, false) : Option ((List Word_) × Bool × Bool)) fun s2_1 => if s2_1.2.2 then Option.bind (if decide (0 < ((xs2_1.2.2.length : Int))) then Option.bind (pimpl_wordReader__want (⟨s2_1.1, s2_1.2.1⟩ : wordReader) 3 (mkS [44])) fun r3_2 => some (r3_2.list, r3_2.bad) else some (s2_1.1, s2_1.2.1) : Option ((List Word_) × Bool)) fun s2_2 => Option.bind (pimpl_wordReader__expr (⟨s2_2.1, s2_2.2⟩ : wordReader) 1) fun r2_1 => Option.bind (appM xs2_1.2.2 ([r2_1.1] : List Expr_)) fun ys2_1 => some (.inl (r2_1.2.list, r2_1.2.bad, ys2_1)) else some (.inr (xs2_1.2.2, s2_1.1, s2_1.2.1)) : Option (((List Word_) × Bool × (List Expr_)) ⊕ ((List Expr_) × (List Word_) × Bool)))) (ws', b, [e]) := by
  refine loopM_inl ?_
  simp only [take_ok, tk_is hw (t := mkS [41]) rfl (by decide), ht]
  have e0 : decide (0 < (([] : List Expr_).length : Int)) = false := rfl
  simp only [Bool.not_false, if_true, Option.bind_some, e0, Bool.false_eq_true, if_false, hr]
  rfl
theorem imA_more {acc : List Expr_} (h0 : acc ≠ []) (hal : acc.length ≤ 1000) {v : Word_} {ws : List Word_} (hw : vW (v :: ws)) (hv : v.text = mkS [44]) {e : Expr_} {ws' : List Word_} {b : Bool} (hr : pimpl_wordReader__expr ⟨ws, false⟩ 1 = some (e, ⟨ws', b⟩)) :
    loopM (fun (xs2_1 : (List Word_) × Bool × (List Expr_)) => (Option.bind (if !(xs2_1.2.1) then Option.bind (pimpl_wordReader__take (⟨xs2_1.1, xs2_1.2.1⟩ : wordReader) 3 (mkS [41])) fun r3_1 => some (r3_1.2.list, r3_1.2.bad, !(r3_1.1)) else some (xs2_1.1, xs2_1.2.1, false) : Option ((List Word_) × Bool × Bool)) fun s2_1 => if s2_1.2.2 then Option.bind (if decide (0 < ((xs2_1.2.2.length : Int))) then Option.bind (pimpl_wordReader__want (⟨s2_1.1, s2_1.2.1⟩ : wordReader) 3 (mkS [44])) fun r3_2 => some (r3_2.list, r3_2.bad) else some (s2_1.1, s2_1.2.1) : Option ((List Word_) × Bool)) fun s2_2 => Option.bind (pimpl_wordReader__expr (⟨s2_2.1, s2_2.2⟩ : wordReader) 1) fun r2_1 => Option.bind (appM xs2_1.2.2 ([r2_1.1] : List Expr_)) fun ys2_1 => some (.inl (r2_1.2.list, r2_1.2.bad, ys2_1)) else some (.inr (xs2_1.2.2, s2_1.1, s2_1.2.1)) : Option (((List Word_) × Bool × (List Expr_)) ⊕ ((List Expr_) × (List Word_) × Bool)))) (v :: ws, false, acc) = loopM (fun (xs2_1 : (List Word_) × Bool × (List Expr_)) => (Option.bind (if !(xs2_1.2.1) then Option.bind (pimpl_wordReader__take (⟨xs2_1.1, xs2_1.2.1⟩ : wordReader) 3 (mkS [41])) fun r3_1 => some (r3_1.2.list, r3_1.2.bad, !(r3_1.1)) else some (xs2_1.1, xs2_1.2.1, false) : Option ((List Word_) × Bool × Bool)) fun s2_1 => if s2_1.2.2 then Option.bind (if decide (0 < ((xs2_1.2.2.length : Int))) then Option.bind (pimpl_wordReader__want (⟨s2_1.1, s2_1.2.1⟩ : wordReader) 3 (mkS [44])) fun r3_2 => some (r3_2.list, r3_2.bad) else some (s2_1.1, s2_1.2.1) : Option ((List Word_) × Bool)) fun s2_2 => Option.bind (pimpl_wordReader__expr (⟨s2_2.1, s2_2.2⟩ : wordReader) 1) fun r2_1 => Option.bind (appM xs2_1.2.2 ([r2_1.1] : List Expr_)) fun ys2_1 => some (.inl (r2_1.2.list, r2_1.2.bad, ys2_1)) else some (.inr (xs2_1.2.2, s2_1.1, s2_1.2.1)) : Option (((List Word_) × Bool × (List Expr_)) ⊕ ((List Expr_) × (List Word_) × Bool)))) (ws', b, acc ++ [e]) := by
  refine loopM_inl ?_
  have e1 : isT (v :: ws) (mkS [41]) = false := by simp [isT, hv]; decide
  have e2 : isT (v :: ws) (mkS [44]) = true := by simp [isT, hv]
  have e0 : decide (0 < (acc.length : Int)) = true := by have := List.length_pos_iff.2 h0; simp; omega
  simp only [take_ok, tk_is hw (t := mkS [41]) rfl (by decide), want_ok, tk_is hw (t := mkS [44]) rfl (by decide), e1, e2, Bool.not_false, if_true, Option.bind_some, e0, Bool.false_eq_true, if_false, List.tail_cons, hr, appM_ok (show acc.length + [e].length ≤ 2147483648 by simp; omega)]
end Prg
end Go.Wk
namespace Go.Wk
open Go
namespace Prg
set_option maxRecDepth 10000
def ImplJ : Job → Prop
  | .E lv ws e r => vW ws → ws.length ≤ 1000 → pimpl_wordReader__expr ⟨ws, false⟩ lv = some (e, ⟨r, false⟩)
  | .L lv x ws e r => (lv = 1 ∨ lv = 2 ∨ lv = 3 ∨ lv = 4) → vW ws → ws.length ≤ 1000 → loopM (fun (xs2_1 : (List Word_) × Bool × Int × Int × Str × (List Expr_)) => (if !(xs2_1.2.1) then Option.bind (Option.bind (rangeP (fun (p4_1 : Int × St_sign_level) (xs4_1 : Int) => Option.bind (Option.bind (if decide (p4_1.2.level = lv) then Option.bind (pimpl_wordReader__peek (⟨xs2_1.1, xs2_1.2.1⟩ : wordReader)) fun r6_1 => Option.bind (impl_signWord p4_1.2.sign) fun r6_2 => some (decide (r6_1.kind = r6_2.kind) && decide (r6_1.text = r6_2.text)) else some false : Option (Bool)) fun s5_1 => Option.bind (if s5_1 then some p4_1.1 else some xs4_1 : Option (Int)) fun s5_2 => some s5_2 : Option (Int)) fun s4_2 => some s4_2) (glob_impl_opSign : MapS St_sign_level).es 0) (fun xs3_1 => some xs3_1) : Option (Int)) fun s2_1 => if decide (s2_1 = 0) then some (.inr (.inl ((⟨xs2_1.2.2.1, xs2_1.2.2.2.1, xs2_1.2.2.2.2.1, xs2_1.2.2.2.2.2⟩ : Expr_), (⟨xs2_1.1, xs2_1.2.1⟩ : wordReader)))) else Option.bind (pimpl_wordReader__next (⟨xs2_1.1, xs2_1.2.1⟩ : wordReader)) fun r2_1 => Option.bind (Option.bind (pimpl_wordReader__expr r2_1.2 (w64 (lv + 1))) fun pb3_1 => some (pb3_1.2.list, pb3_1.2.bad, ([(⟨xs2_1.2.2.1, xs2_1.2.2.2.1, xs2_1.2.2.2.2.1, xs2_1.2.2.2.2.2⟩ : Expr_), pb3_1.1] : List Expr_)) : Option ((List Word_) × Bool × (List Expr_))) fun s2_2 => some (.inl (s2_2.1, s2_2.2.1, s2_1, 0, (mkS []), s2_2.2.2)) else some (.inr (.inr (xs2_1.2.2.1, xs2_1.2.2.2.1, xs2_1.2.2.2.2.1, xs2_1.2.2.2.2.2, xs2_1.1, xs2_1.2.1))) : Option (((List Word_) × Bool × Int × Int × Str × (List Expr_)) ⊕ ((Expr_ × wordReader) ⊕ (Int × Int × Str × (List Expr_) × (List Word_) × Bool))))) (ws, false, x.op, x.n_, x.name, x.kids) = some (.inl (e, ⟨r, false⟩))
  | .A ws ks r => vW ws → ws.length ≤ 1000 → loopM (fun (xs2_1 : (List Word_) × Bool × (List Expr_)) => (Option.bind (if !(xs2_1.2.1) then Option.bind (pimpl_wordReader__take (⟨xs2_1.1, xs2_1.2.1⟩ : wordReader) 3 (mkS [41])) fun r3_1 => some (r3_1.2.list, r3_1.2.bad, !(r3_1.1)) else some (xs2_1.1, xs2_1.2.1, false) : Option ((List Word_) × Bool × Bool)) fun s2_1 => if s2_1.2.2 then Option.bind (if decide (0 < ((xs2_1.2.2.length : Int))) then Option.bind (pimpl_wordReader__want (⟨s2_1.1, s2_1.2.1⟩ : wordReader) 3 (mkS [44])) fun r3_2 => some (r3_2.list, r3_2.bad) else some (s2_1.1, s2_1.2.1) : Option ((List Word_) × Bool)) fun s2_2 => Option.bind (pimpl_wordReader__expr (⟨s2_2.1, s2_2.2⟩ : wordReader) 1) fun r2_1 => Option.bind (appM xs2_1.2.2 ([r2_1.1] : List Expr_)) fun ys2_1 => some (.inl (r2_1.2.list, r2_1.2.bad, ys2_1)) else some (.inr (xs2_1.2.2, s2_1.1, s2_1.2.1)) : Option (((List Word_) × Bool × (List Expr_)) ⊕ ((List Expr_) × (List Word_) × Bool)))) (ws, false, []) = some (ks, r, false)
  | .M acc ws ks r => acc ≠ [] → vW ws → acc.length + ws.length ≤ 1000 → loopM (fun (xs2_1 : (List Word_) × Bool × (List Expr_)) => (Option.bind (if !(xs2_1.2.1) then Option.bind (pimpl_wordReader__take (⟨xs2_1.1, xs2_1.2.1⟩ : wordReader) 3 (mkS [41])) fun r3_1 => some (r3_1.2.list, r3_1.2.bad, !(r3_1.1)) else some (xs2_1.1, xs2_1.2.1, false) : Option ((List Word_) × Bool × Bool)) fun s2_1 => if s2_1.2.2 then Option.bind (if decide (0 < ((xs2_1.2.2.length : Int))) then Option.bind (pimpl_wordReader__want (⟨s2_1.1, s2_1.2.1⟩ : wordReader) 3 (mkS [44])) fun r3_2 => some (r3_2.list, r3_2.bad) else some (s2_1.1, s2_1.2.1) : Option ((List Word_) × Bool)) fun s2_2 => Option.bind (pimpl_wordReader__expr (⟨s2_2.1, s2_2.2⟩ : wordReader) 1) fun r2_1 => Option.bind (appM xs2_1.2.2 ([r2_1.1] : List Expr_)) fun ys2_1 => some (.inl (r2_1.2.list, r2_1.2.bad, ys2_1)) else some (.inr (xs2_1.2.2, s2_1.1, s2_1.2.1)) : Option (((List Word_) × Bool × (List Expr_)) ⊕ ((List Expr_) × (List Word_) × Bool)))) (ws, false, acc) = some (ks, r, false)
theorem ne_sign {w : Word_} {c : UInt8} {t : Str} (h1 : wordB w = true) (h2 : w.kind ≠ 3) (h3 : t.b = [c]) (h4 : c ∈ sgnL) : w.text ≠ t := fun e => h2 (sign_kind h1 (by rw [e]; exact h3) h4)
theorem rd_impl {j : Job} (h : Rd j) : ImplJ j := by
  induction h
  case neg w ws e r hw h ih =>
    intro ha hl
    have g := ih (vW_tail ha) (by simp at hl; omega)
    rw [expr5] at g
    rw [expr5, single_cons ha, if_pos hw, g]; rfl
  case at_ w ws e r hw h ih =>
    intro ha hl
    have g := ih (vW_tail ha) (by simp at hl; omega)
    rw [expr5] at g
    rw [expr5, single_cons ha, if_neg (by rw [hw]; decide), if_pos hw, g]; rfl
  case par w ws e v r hw h hv2 ih =>
    intro ha hl
    have g := ih (vW_tail ha) (by simp at hl; omega)
    obtain ⟨s1, s2⟩ := rd_suf h
    have hv3 : vW (v :: r) := fun x hx => vW_tail ha x (s2 x hx)
    have e2 : isT (v :: r) (mkS [41]) = true := by simp [isT, hv2]
    rw [expr5, single_cons ha, if_neg (by rw [hw]; decide), if_neg (by rw [hw]; decide), if_pos hw, g, Option.bind_some]
    dsimp only
    rw [want_ok, tk_is hv3 rfl (by decide), e2]; rfl
  case num w r hw =>
    intro ha hl
    have hk : w.kind ≠ 3 := by omega
    have h0 := vW_head ha
    rw [expr5, single_cons ha, if_neg (ne_sign h0 hk rfl (by decide)), if_neg (ne_sign h0 hk rfl (by decide)), if_neg (ne_sign h0 hk rfl (by decide)), if_pos hw]
  case var w r hw ht =>
    intro ha hl
    have hk : w.kind ≠ 3 := by omega
    have h0 := vW_head ha
    rw [expr5, single_cons ha, if_neg (ne_sign h0 hk rfl (by decide)), if_neg (ne_sign h0 hk rfl (by decide)), if_neg (ne_sign h0 hk rfl (by decide)), if_neg (by omega), if_neg (by omega), if_pos ht]
  case call w v ws ks r hw ht h ih =>
    intro ha hl
    have hk : w.kind ≠ 3 := by omega
    have h0 := vW_head ha
    have g := ih (vW_tail (vW_tail ha)) (by simp at hl; omega)
    rw [expr5, single_cons ha, if_neg (ne_sign h0 hk rfl (by decide)), if_neg (ne_sign h0 hk rfl (by decide)), if_neg (ne_sign h0 hk rfl (by decide)), if_neg (by omega), if_neg (by omega), if_neg (by simp [isT, ht]), List.tail_cons, g]; rfl
  case up lv ws e ws' e' r hlv h1 h2 ih1 ih2 =>
    intro ha hl
    obtain ⟨s1, s2⟩ := rd_suf h1
    exact expr_inl hlv (ih1 ha hl) (ih2 hlv (fun x hx => ha x (s2 x hx)) (by omega))
  case stop lv e ws ho =>
    intro hlv ha hl
    rw [imL_stop hlv ha ho, mk_eta]
  case step lv e w ws f ws' e' r ho h1 h2 ih1 ih2 =>
    intro hlv ha hl
    obtain ⟨s1, s2⟩ := rd_suf h1
    simp at hl
    rw [imL_step hlv ha ho (ih1 (vW_tail ha) (by omega)), mk_eta]
    exact ih2 hlv (fun x hx => vW_tail ha x (s2 x hx)) (by omega)
  case done v r hv2 =>
    intro ha hl
    exact imA_end ha hv2
  case first ws e ws' ks r ht h1 h2 ih1 ih2 =>
    intro ha hl
    obtain ⟨s1, s2⟩ := rd_suf h1
    rw [imA_first ha ht (ih1 ha hl)]
    exact ih2 (by simp) (fun x hx => ha x (s2 x hx)) (by simp; omega)
  case last acc v r hv2 =>
    intro h0 ha hl
    exact imA_end ha hv2
  case more acc v ws e ws' ks r hv2 h1 h2 ih1 ih2 =>
    intro h0 ha hl
    obtain ⟨s1, s2⟩ := rd_suf h1
    simp at hl
    rw [imA_more h0 (by omega) ha hv2 (ih1 (vW_tail ha) (by omega))]
    exact ih2 (by simp) (fun x hx => vW_tail ha x (s2 x hx)) (by simp; omega)
def FailE (lv : Int) (ws : List Word_) : Prop := (∀ list n, list.length ≤ 1000 → vW list → AtW list n ws → ∃ e, spec_l2Read list (n : Int) lv = some (e, -1)) ∧ ∃ e ws', pimpl_wordReader__expr ⟨ws, false⟩ lv = some (e, ⟨ws', true⟩)
def FailL (lv : Int) (x : Expr_) (ws : List Word_) : Prop := (∀ list n, list.length ≤ 1000 → vW list → AtW list n ws → ∃ op n_ nm ks, loopM (fun (xs2_1 : Int × Int × Str × (List Expr_) × Int) => (Option.bind (if decide (0 ≤ xs2_1.2.2.2.2) then Option.bind (spec_l2Op list xs2_1.2.2.2.2 lv) fun r3_1 => some (decide (0 < r3_1)) else some false : Option (Bool)) fun s2_1 => if s2_1 then Option.bind (spec_l2Op list xs2_1.2.2.2.2 lv) fun r2_1 => Option.bind (spec_l2Read list (w64 (xs2_1.2.2.2.2 + 1)) (w64 (lv + 1))) fun r2_2 => some (.inl (r2_1, 0, (mkS []), ([(⟨xs2_1.1, xs2_1.2.1, xs2_1.2.2.1, xs2_1.2.2.2.1⟩ : Expr_), r2_2.1] : List Expr_), r2_2.2)) else some (.inr (xs2_1.1, xs2_1.2.1, xs2_1.2.2.1, xs2_1.2.2.2.1, xs2_1.2.2.2.2)) : Option ((Int × Int × Str × (List Expr_) × Int) ⊕ (Int × Int × Str × (List Expr_) × Int)))) (x.op, x.n_, x.name, x.kids, (n : Int)) = some (op, n_, nm, ks, -1)) ∧
  ∃ op n_ nm ks ws', loopM (fun (xs2_1 : (List Word_) × Bool × Int × Int × Str × (List Expr_)) => (if !(xs2_1.2.1) then Option.bind (Option.bind (rangeP (fun (p4_1 : Int × St_sign_level) (xs4_1 : Int) => Option.bind (Option.bind (if decide (p4_1.2.level = lv) then Option.bind (pimpl_wordReader__peek (⟨xs2_1.1, xs2_1.2.1⟩ : wordReader)) fun r6_1 => Option.bind (impl_signWord p4_1.2.sign) fun r6_2 => some (decide (r6_1.kind = r6_2.kind) && decide (r6_1.text = r6_2.text)) else some false : Option (Bool)) fun s5_1 => Option.bind (if s5_1 then some p4_1.1 else some xs4_1 : Option (Int)) fun s5_2 => some s5_2 : Option (Int)) fun s4_2 => some s4_2) (glob_impl_opSign : MapS St_sign_level).es 0) (fun xs3_1 => some xs3_1) : Option (Int)) fun s2_1 => if decide (s2_1 = 0) then some (.inr (.inl ((⟨xs2_1.2.2.1, xs2_1.2.2.2.1, xs2_1.2.2.2.2.1, xs2_1.2.2.2.2.2⟩ : Expr_), (⟨xs2_1.1, xs2_1.2.1⟩ : wordReader)))) else Option.bind (pimpl_wordReader__next (⟨xs2_1.1, xs2_1.2.1⟩ : wordReader)) fun r2_1 => Option.bind (Option.bind (pimpl_wordReader__expr r2_1.2 (w64 (lv + 1))) fun pb3_1 => some (pb3_1.2.list, pb3_1.2.bad, ([(⟨xs2_1.2.2.1, xs2_1.2.2.2.1, xs2_1.2.2.2.2.1, xs2_1.2.2.2.2.2⟩ : Expr_), pb3_1.1] : List Expr_)) : Option ((List Word_) × Bool × (List Expr_))) fun s2_2 => some (.inl (s2_2.1, s2_2.2.1, s2_1, 0, (mkS []), s2_2.2.2)) else some (.inr (.inr (xs2_1.2.2.1, xs2_1.2.2.2.1, xs2_1.2.2.2.2.1, xs2_1.2.2.2.2.2, xs2_1.1, xs2_1.2.1))) : Option (((List Word_) × Bool × Int × Int × Str × (List Expr_)) ⊕ ((Expr_ × wordReader) ⊕ (Int × Int × Str × (List Expr_) × (List Word_) × Bool))))) (ws, false, x.op, x.n_, x.name, x.kids) = some (.inr (op, n_, nm, ks, ws', true))
def FailA (ws : List Word_) : Prop := (∀ list n, list.length ≤ 1000 → vW list → AtW list n ws → ∃ ks, spec_l2List list (n : Int) = some (ks, -1)) ∧
  ∃ ks ws', loopM (fun (xs2_1 : (List Word_) × Bool × (List Expr_)) => (Option.bind (if !(xs2_1.2.1) then Option.bind (pimpl_wordReader__take (⟨xs2_1.1, xs2_1.2.1⟩ : wordReader) 3 (mkS [41])) fun r3_1 => some (r3_1.2.list, r3_1.2.bad, !(r3_1.1)) else some (xs2_1.1, xs2_1.2.1, false) : Option ((List Word_) × Bool × Bool)) fun s2_1 => if s2_1.2.2 then Option.bind (if decide (0 < ((xs2_1.2.2.length : Int))) then Option.bind (pimpl_wordReader__want (⟨s2_1.1, s2_1.2.1⟩ : wordReader) 3 (mkS [44])) fun r3_2 => some (r3_2.list, r3_2.bad) else some (s2_1.1, s2_1.2.1) : Option ((List Word_) × Bool)) fun s2_2 => Option.bind (pimpl_wordReader__expr (⟨s2_2.1, s2_2.2⟩ : wordReader) 1) fun r2_1 => Option.bind (appM xs2_1.2.2 ([r2_1.1] : List Expr_)) fun ys2_1 => some (.inl (r2_1.2.list, r2_1.2.bad, ys2_1)) else some (.inr (xs2_1.2.2, s2_1.1, s2_1.2.1)) : Option (((List Word_) × Bool × (List Expr_)) ⊕ ((List Expr_) × (List Word_) × Bool)))) (ws, false, []) = some (ks, ws', true)
def FailM (acc : List Expr_) (ws : List Word_) : Prop := (∀ list n, list.length ≤ 1000 → vW list → AtW list n ws → ∀ q acc0 e, acc = acc0 ++ [e] → acc.length ≤ n → spec_l2Read list q 1 = some (e, (n : Int)) → ∃ ks, loopM (fun (xs1_1 : Int × (List Expr_)) => (Option.bind (spec_l2Read list xs1_1.1 1) fun r1_1 => Option.bind (appM xs1_1.2 ([r1_1.1] : List Expr_)) fun ys1_1 => Option.bind (if decide (r1_1.2 < 0) then some true else Option.bind (spec_l2Is list r1_1.2 (mkS [41])) fun r2_1 => some r2_1 : Option (Bool)) fun s1_1 => if s1_1 then Option.bind (spec_l1Step r1_1.2) fun r1_2 => some (.inr (ys1_1, w64 (r1_1.2 + r1_2))) else Option.bind (spec_l2Is list r1_1.2 (mkS [44])) fun r1_3 => if !(r1_3) then some (.inr (ys1_1, -1)) else some (.inl (w64 (r1_1.2 + 1), ys1_1)) : Option ((Int × (List Expr_)) ⊕ ((List Expr_) × Int)))) (q, acc0) = some (ks, -1)) ∧
  ∃ ks ws', loopM (fun (xs2_1 : (List Word_) × Bool × (List Expr_)) => (Option.bind (if !(xs2_1.2.1) then Option.bind (pimpl_wordReader__take (⟨xs2_1.1, xs2_1.2.1⟩ : wordReader) 3 (mkS [41])) fun r3_1 => some (r3_1.2.list, r3_1.2.bad, !(r3_1.1)) else some (xs2_1.1, xs2_1.2.1, false) : Option ((List Word_) × Bool × Bool)) fun s2_1 => if s2_1.2.2 then Option.bind (if decide (0 < ((xs2_1.2.2.length : Int))) then Option.bind (pimpl_wordReader__want (⟨s2_1.1, s2_1.2.1⟩ : wordReader) 3 (mkS [44])) fun r3_2 => some (r3_2.list, r3_2.bad) else some (s2_1.1, s2_1.2.1) : Option ((List Word_) × Bool)) fun s2_2 => Option.bind (pimpl_wordReader__expr (⟨s2_2.1, s2_2.2⟩ : wordReader) 1) fun r2_1 => Option.bind (appM xs2_1.2.2 ([r2_1.1] : List Expr_)) fun ys2_1 => some (.inl (r2_1.2.list, r2_1.2.bad, ys2_1)) else some (.inr (xs2_1.2.2, s2_1.1, s2_1.2.1)) : Option (((List Word_) × Bool × (List Expr_)) ⊕ ((List Expr_) × (List Word_) × Bool)))) (ws, false, acc) = some (ks, ws', true)
def TotE (lv : Int) (ws : List Word_) : Prop := (∃ e r, Rd (.E lv ws e r)) ∨ FailE lv ws
end Prg
end Go.Wk
namespace Go.Wk
open Go
namespace Prg
set_option maxRecDepth 10000
theorem tok_valid : ∀ (k : Nat) (l : List UInt8), l.length ≤ k → ∀ ws, tok l = some ws → vW ws := by
  intro k
  induction k with
  | zero =>
    intro l hl ws h
    have : l = [] := List.eq_nil_of_length_eq_zero (by omega)
    subst this
    rw [tok_nil] at h
    cases h
    exact fun w hw => by cases hw
  | succ k ih =>
    intro l hl ws h
    cases l with
    | nil =>
      rw [tok_nil] at h
      cases h
      exact fun w hw => by cases hw
    | cons c r =>
      rw [tok_cons] at h
      simp at hl
      by_cases h1 : blkB c = true
      · rw [if_pos h1] at h
        exact ih r hl ws h
      rw [if_neg h1] at h
      by_cases h2 : wordB (mkWd c (r.takeWhile (runP c))) = true
      · rw [if_pos h2] at h
        obtain ⟨ws', h3, h4⟩ := Option.map_eq_some_iff.1 h
        have := ih _ (Nat.le_trans (drop_le _ _) hl) ws' h3
        subst h4
        intro w hw
        rcases List.mem_cons.1 hw with rfl | hw
        · exact h2
        · exact this w hw
      · rw [if_neg h2] at h; cases h
theorem cutR_valid {s : Str} {ws : List Word_} (h : cutR s = some ws) : vW ws ∧ ws.length ≤ 600 := by
  unfold cutR at h
  split at h
  · rw [Option.filter_eq_some_iff, decide_eq_true_iff] at h
    exact ⟨tok_valid _ _ (Nat.le_refl _) _ h.1, h.2⟩
  · cases h
def noE : Expr_ := ⟨0, 0, mkS [], []⟩
theorem at_zero (ws : List Word_) : AtW ws 0 ws := ⟨rfl, Nat.zero_le _⟩
theorem cutV_some {s : Str} {ws : List Word_} (h : cutR s = some ws) : cutV s = (ws, true) := by unfold cutV; rw [h]
end Prg
end Go.Wk
namespace Go.Wk
open Go
namespace Prg
set_option maxRecDepth 10000
theorem read_some {s : Str} {ws : List Word_} (h : cutR s = some ws) {e : Expr_} {r : List Word_} (hr : Rd (.E 1 ws e r)) :
    spec_ReadExpr s = some (if r = [] ∧ validB e = true then (e, true) else (noE, false)) ∧ impl_ReadExpr s = some (if r = [] ∧ validB e = true then (e, true) else (noE, false)) := by
  obtain ⟨hv, hl⟩ := cutR_valid h
  constructor
  · unfold spec_ReadExpr
    obtain ⟨m, h1, h2, h3⟩ := rd_spec (by omega) hv hr 0 (at_zero ws)
    rw [cutWordsS_ok, cutV_some h, Option.bind_some]
    show Option.bind (spec_l2Read ws ((0 : Nat) : Int) 1) _ = _
    rw [h3, Option.bind_some, validS_E]
    show Option.bind (if decide (((m : Nat) : Int) ≠ (ws.length : Int)) then _ else _) _ = _
    have e1 : decide (((m : Nat) : Int) ≠ (ws.length : Int)) = decide (r ≠ []) := by
      rw [decide_eq_decide]
      constructor
      · intro h4 h5
        rw [h5] at h1
        have := at_nil h1
        omega
      · intro h4 h5
        apply h4
        rw [← h1.1]
        exact List.drop_eq_nil_of_le (by omega)
    rw [e1]
    by_cases h4 : r = []
    · cases h5 : validB e <;> simp [h4, noE]
    · simp [h4, noE]
  · unfold impl_ReadExpr
    rw [cutWords_ok, cutV_some h, Option.bind_some]
    show Option.bind (pimpl_wordReader__expr ⟨ws, false⟩ 1) _ = _
    rw [rd_impl hr hv (by omega), Option.bind_some, valid_E]
    have e1 : decide (0 < (r.length : Int)) = decide (r ≠ []) := by cases r <;> simp
    dsimp only
    rw [e1]
    by_cases h4 : r = []
    · cases h5 : validB e <;> simp [h4, noE]
    · simp [h4, noE]
end Prg
end Go.Wk
namespace Go.Wk
open Go
namespace Prg
set_option maxRecDepth 10000
def numS (n : Int) : Str := (itoaM n).getD (mkS [])
theorem decD_len : ∀ n : Nat, n < 1000 → (Lib.decDigits n).length ≤ 3 := by
  intro n h
  rw [Lib.decDigits]
  split
  · simp
  · rw [Lib.decDigits]
    split
    · simp
    · rw [Lib.decDigits]
      split
      · simp
      · omega
theorem numS_ok {n : Nat} (h : n < 1000) : strconv_Itoa (n : Int) = some (numS n) ∧ (numS n).b = Lib.decDigits n := by
  have hl := decD_len n h
  have hi : Lib.itoa (n : Int) = Lib.decDigits n := by unfold Lib.itoa; rw [if_neg (by omega)]; simp
  have : itoaM (n : Int) = some ⟨Lib.decDigits n, by omega⟩ := by
    unfold itoaM
    have h1 : (Lib.itoa (n : Int)).length ≤ 140737488355328 := by rw [hi]; omega
    rw [dif_pos h1, if_pos ⟨by omega, by omega⟩]
    simp only [hi]
  constructor
  · unfold strconv_Itoa numS; rw [this]; rfl
  · unfold numS; rw [this]; rfl
theorem decD_digits : ∀ n : Nat, (Lib.decDigits n).all digB = true := by
  intro n
  induction n using Nat.strongRecOn with
  | ind n ih =>
    have hd : ∀ k : Nat, k < 10 → digB (UInt8.ofNat (48 + k)) = true := by
      intro k hk
      rw [dig_iff]
      have : (UInt8.ofNat (48 + k)).toNat = 48 + k := by rw [UInt8.toNat_ofNat']; omega
      omega
    rw [Lib.decDigits]
    split
    · rw [List.all_cons, hd n (by omega)]; rfl
    · rw [List.all_append, ih (n / 10) (by omega), List.all_cons, hd (n % 10) (by omega)]; rfl
theorem decD_val : ∀ n : Nat, vD 0 (Lib.decDigits n) = n := by
  intro n
  induction n using Nat.strongRecOn with
  | ind n ih =>
    have hd : ∀ k : Nat, k < 10 → (UInt8.ofNat (48 + k)).toNat - 48 = k := by
      intro k hk
      have : (UInt8.ofNat (48 + k)).toNat = 48 + k := by rw [UInt8.toNat_ofNat']; omega
      omega
    rw [Lib.decDigits]
    split
    · show 0 * 10 + ((UInt8.ofNat (48 + n)).toNat - 48) = n
      rw [hd n (by omega)]; omega
    · rw [vD_snoc, ih (n / 10) (by omega), hd (n % 10) (by omega)]; omega
theorem decD_head : ∀ n : Nat, 0 < n → (Lib.decDigits n)[0]? ≠ some 48 := by
  intro n
  induction n using Nat.strongRecOn with
  | ind n ih =>
    intro h0
    rw [Lib.decDigits]
    split
    · intro h
      have this := congrArg UInt8.toNat (Option.some.inj h)
      rw [UInt8.toNat_ofNat'] at this
      have h48 : (48 : UInt8).toNat = 48 := rfl
      omega
    · have h1 := ih (n / 10) (by omega) (by omega)
      cases hd : Lib.decDigits (n / 10) with
      | nil =>
        rw [Lib.decDigits] at hd
        split at hd <;> simp at hd
      | cons a l => rw [hd] at h1; simpa using h1
theorem decD_ne (n : Nat) : Lib.decDigits n ≠ [] := by
  rw [Lib.decDigits]; split <;> simp
theorem numI_numS {n : Nat} (h : n ≤ 255) : numI (numS n) = n := by
  have hz : zeroB (Lib.decDigits n) = false := by
    unfold zeroB
    by_cases h0 : n = 0
    · subst h0
      have : Lib.decDigits 0 = [48] := by rw [Lib.decDigits]; rfl
      rw [this]; rfl
    · have := decD_head n (by omega)
      simp [this]
  unfold numI
  rw [(numS_ok (by omega)).2, if_pos ⟨decD_ne n, decD_digits n, hz, by rw [decD_val]; exact h⟩, decD_val]
def txt (ws : List Word_) : List UInt8 := Lib.join (ws.map (fun w => w.text.b)) [32]
theorem txt_nil : txt [] = [] := rfl
theorem txt_one (w : Word_) : txt [w] = w.text.b := Lib.join_one _ _
theorem txt_cons {w : Word_} {ws : List Word_} (h : ws ≠ []) : txt (w :: ws) = w.text.b ++ 32 :: txt ws := by
  obtain ⟨v, r, rfl⟩ : ∃ v r, ws = v :: r := by cases ws with | nil => exact absurd rfl h | cons v r => exact ⟨v, r, rfl⟩
  unfold txt
  rw [List.map_cons, List.map_cons, Lib.join_cons, Lib.join_cons]
  simp [Lib.joinTail]
theorem take_self {p : UInt8 → Bool} : ∀ {l : List UInt8}, l.all p = true → l.takeWhile p = l
  | [], _ => rfl
  | a :: l, h => by
    rw [List.all_cons, Bool.and_eq_true] at h
    rw [List.takeWhile_cons, if_pos h.1, take_self h.2]
theorem take_stop {p : UInt8 → Bool} {b : UInt8} (hb : p b = false) : ∀ {l r : List UInt8}, l.takeWhile p = l → (l ++ b :: r).takeWhile p = l ∧ (l ++ b :: r).dropWhile p = b :: r
  | [], r, _ => by
    rw [List.nil_append, List.takeWhile_cons, List.dropWhile_cons, hb]
    exact ⟨rfl, rfl⟩
  | a :: l, r, h => by
    rw [List.takeWhile_cons] at h
    split at h
    · rename_i ha
      have := take_stop hb (l := l) (r := r) (by simpa using h)
      rw [List.cons_append, List.takeWhile_cons, List.dropWhile_cons, if_pos ha, if_pos ha, this.1, this.2]
      exact ⟨rfl, rfl⟩
    · cases h
theorem drop_self {p : UInt8 → Bool} : ∀ {l : List UInt8}, l.takeWhile p = l → l.dropWhile p = []
  | [], _ => rfl
  | a :: l, h => by
    rw [List.takeWhile_cons] at h
    split at h
    · rename_i ha
      rw [List.dropWhile_cons, if_pos ha, drop_self (by simpa using h)]
    · cases h
theorem key_all {s : Str} (h : keyB s = true) : s.b ≠ [] ∧ s.b.all letB = true ∧ s.b.length ≤ 4 := by
  have hm : s ∈ glob_impl_keys := of_decide_eq_true h
  have key : ∀ k ∈ glob_impl_keys, k.b ≠ [] ∧ k.b.all letB = true ∧ k.b.length ≤ 4 := by
    intro k hk
    unfold glob_impl_keys at hk
    simp only [List.mem_cons, List.not_mem_nil, or_false] at hk
    rcases hk with rfl | rfl | rfl | rfl | rfl | rfl | rfl | rfl | rfl <;> exact ⟨by decide, by decide, by decide⟩
  exact key s hm
theorem let_blk {c : UInt8} (h : letB c = true ∨ digB c = true ∨ c ∈ sgnL) : blkB c = false := by
  have key : letB 32 = false ∧ digB 32 = false ∧ (32 : UInt8) ∉ sgnL ∧ letB 10 = false ∧ digB 10 = false ∧ (10 : UInt8) ∉ sgnL := by decide
  obtain ⟨k1, k2, k3, k4, k5, k6⟩ := key
  unfold blkB
  rw [decide_eq_false_iff_not]
  rintro (rfl | rfl)
  · rcases h with h | h | h
    · rw [k1] at h; cases h
    · rw [k2] at h; cases h
    · exact k3 h
  · rcases h with h | h | h
    · rw [k4] at h; cases h
    · rw [k5] at h; cases h
    · exact k6 h
theorem word_run {w : Word_} (h : wordB w = true) : ∃ c l, w.text.b = c :: l ∧ blkB c = false ∧ l.takeWhile (runP c) = l ∧ mkWd c l = w ∧ w.text.b.length ≤ 4 := by
  obtain ⟨kind, s⟩ := w
  have hb : ∀ {c l}, s.b = c :: l → mkWd c l = ⟨kindB c s, s⟩ := fun {c l} e => by unfold mkWd; rw [← e, toS_eq]
  unfold wordB at h
  dsimp only at h ⊢
  by_cases h1 : kind = 1
  · rw [if_pos h1] at h
    unfold nameB at h
    simp only [Bool.and_eq_true, decide_eq_true_iff, Bool.not_eq_true'] at h
    obtain ⟨⟨⟨g1, g2⟩, g3⟩, g4⟩ := h
    obtain ⟨c, l, hc⟩ : ∃ c l, s.b = c :: l := by cases hs : s.b with | nil => exact absurd hs g1 | cons c l => exact ⟨c, l, rfl⟩
    rw [hc, List.all_cons, Bool.and_eq_true] at g2
    refine ⟨c, l, hc, let_blk (.inl g2.1), take_self ?_, ?_, g3⟩
    · have : runP c = letB := by funext x; unfold runP; rw [g2.1]; rfl
      rw [this]; exact g2.2
    · rw [hb hc, h1]
      unfold kindB
      rw [g4, g2.1]; rfl
  rw [if_neg h1] at h
  by_cases h2 : kind = 2
  · rw [if_pos h2, decide_eq_true_iff] at h
    have hI : s.b ≠ [] ∧ s.b.all digB = true ∧ zeroB s.b = false ∧ vD 0 s.b ≤ 255 := by
      unfold numI at h
      split at h
      · rename_i h'; exact h'
      · omega
    obtain ⟨g1, g2, g3, g4⟩ := hI
    have hlen : s.b.length ≤ 4 := by
      rcases Nat.lt_or_ge s.b.length 4 with h' | h'
      · omega
      · have := num_long g3 g2 h'; omega
    obtain ⟨c, l, hc⟩ : ∃ c l, s.b = c :: l := by cases hs : s.b with | nil => exact absurd hs g1 | cons c l => exact ⟨c, l, rfl⟩
    rw [hc, List.all_cons, Bool.and_eq_true] at g2
    have hlet : letB c = false := by
      cases hl : letB c with
      | false => rfl
      | true => rw [let_dig hl] at g2; cases g2.1
    have hk : keyB s = false := by
      cases hk : keyB s with
      | false => rfl
      | true => rw [key_let hc hk] at hlet; cases hlet
    refine ⟨c, l, hc, let_blk (.inr (.inl g2.1)), take_self ?_, ?_, hlen⟩
    · have : runP c = digB := by funext x; unfold runP; rw [hlet, g2.1]; rfl
      rw [this]; exact g2.2
    · rw [hb hc, h2]
      unfold kindB
      rw [hk, hlet, g2.1]; rfl
  rw [if_neg h2] at h
  by_cases h3 : kind = 3
  · rw [if_pos h3] at h
    match hs : s.b, h with
    | [c], h =>
      have hcm : c ∈ sgnL := of_decide_eq_true h
      have hcl : letB c = false ∧ digB c = false := by
        have key : ∀ c ∈ sgnL, letB c = false ∧ digB c = false := by decide
        exact key c hcm
      have hk : keyB s = false := by
        cases hk : keyB s with
        | false => rfl
        | true => have := key_let hs hk; rw [hcl.1] at this; cases this
      refine ⟨c, [], rfl, let_blk (.inr (.inr hcm)), rfl, ?_, by simp⟩
      rw [hb hs, h3]
      unfold kindB
      rw [hk, hcl.1, hcl.2]; rfl
  rw [if_neg h3] at h
  by_cases h4 : kind = 4
  · rw [if_pos h4] at h
    obtain ⟨g1, g2, g3⟩ := key_all h
    obtain ⟨c, l, hc⟩ : ∃ c l, s.b = c :: l := by cases hs : s.b with | nil => exact absurd hs g1 | cons c l => exact ⟨c, l, rfl⟩
    rw [hc, List.all_cons, Bool.and_eq_true] at g2
    refine ⟨c, l, hc, let_blk (.inl g2.1), take_self ?_, ?_, g3⟩
    · have : runP c = letB := by funext x; unfold runP; rw [g2.1]; rfl
      rw [this]; exact g2.2
    · rw [hb hc, h4]
      unfold kindB
      rw [h]; rfl
  · rw [if_neg h4] at h; cases h
theorem run_blk (c : UInt8) : runP c 32 = false := by
  have : letB 32 = false ∧ digB 32 = false := by decide
  unfold runP
  rw [this.1, this.2]
  cases letB c <;> cases digB c <;> rfl
theorem tok_txt : ∀ (ws : List Word_), vW ws → tok (txt ws) = some ws
  | [], _ => by rw [txt_nil, tok_nil]
  | [w], h => by
    have hw := vW_head h
    obtain ⟨c, l, h1, h2, h3, h4, _⟩ := word_run hw
    rw [txt_one, h1, tok_cons, h2, if_neg (by decide), h3, h4, if_pos hw, drop_self h3, tok_nil]; rfl
  | w :: v :: r, h => by
    have hw := vW_head h
    obtain ⟨c, l, h1, h2, h3, h4, _⟩ := word_run hw
    have h5 := take_stop (run_blk c) (r := txt (v :: r)) h3
    rw [txt_cons (by simp), h1, List.cons_append, tok_cons, h2, if_neg (by decide), h5.1, h5.2, h4, if_pos hw, tok_cons 32, if_pos (by decide), tok_txt (v :: r) (vW_tail h)]; rfl
theorem txt_len : ∀ (ws : List Word_), vW ws → (txt ws).length ≤ 5 * ws.length
  | [], _ => by rw [txt_nil]; simp
  | [w], h => by
    obtain ⟨c, l, h1, h2, h3, h4, h5⟩ := word_run (vW_head h)
    rw [txt_one]; simp; omega
  | w :: v :: r, h => by
    obtain ⟨c, l, h1, h2, h3, h4, h5⟩ := word_run (vW_head h)
    have := txt_len (v :: r) (vW_tail h)
    rw [txt_cons (by simp)]
    simp at this ⊢
    omega
end Prg
end Go.Wk
namespace Go.Wk
open Go
namespace Prg
set_option maxRecDepth 10000
def pL : Word_ := ⟨3, mkS [40]⟩
def pR : Word_ := ⟨3, mkS [41]⟩
def cM : Word_ := ⟨3, mkS [44]⟩
def sgS (op : Int) : Str := if op = 3 then mkS [43] else if op = 4 then mkS [45] else if op = 5 then mkS [42] else if op = 6 then mkS [47] else if op = 7 then mkS [37] else if op = 8 then mkS [60] else if op = 9 then mkS [61] else if op = 10 then mkS [38] else if op = 11 then mkS [33] else mkS [64]
def sgW (op : Int) : Word_ := ⟨3, sgS op⟩
def aW : List (List Word_) → List Word_
  | [] => []
  | x :: r => x ++ (r.map (cM :: ·)).flatten
def kid (e : Expr_) (i : Nat) : Expr_ := (e.kids[i]?).getD noE
def brW (b : Bool) (ws : List Word_) : List Word_ := if b then pL :: (ws ++ [pR]) else ws
def wE : Nat → Expr_ → List Word_
  | 0, _ => []
  | d + 1, e =>
    if e.op = 1 then [⟨2, numS e.n_⟩]
    else if e.op = 2 then [⟨1, e.name⟩]
    else if e.op = 13 then ⟨1, e.name⟩ :: pL :: (aW (e.kids.map (wE d)) ++ [pR])
    else if e.op = 11 ∨ e.op = 12 then sgW e.op :: brW (decide (lvI (kid e 0).op < 5)) (wE d (kid e 0))
    else brW (decide (lvI (kid e 0).op < lvI e.op)) (wE d (kid e 0)) ++ sgW e.op :: brW (decide (lvI (kid e 1).op ≤ lvI e.op)) (wE d (kid e 1))
theorem aW_snoc (l : List (List Word_)) (x : List Word_) : aW (l ++ [x]) = if l = [] then x else aW l ++ cM :: x := by
  cases l with
  | nil => simp [aW]
  | cons y l => simp [aW]
theorem op_lv {op : Int} (h : inB op 1 13 = true) : (op = 1 ∨ op = 2 ∨ op = 13) ∧ lvI op = 6 ∨ (op = 11 ∨ op = 12) ∧ lvI op = 5 ∨ (3 ≤ op ∧ op ≤ 10) ∧ (lvI op = 1 ∨ lvI op = 2 ∨ lvI op = 3 ∨ lvI op = 4) := by
  rcases op_cases h with rfl | rfl | rfl | rfl | rfl | rfl | rfl | rfl | rfl | rfl | rfl | rfl | rfl <;> simp [lvI]
theorem sg_sign {op : Int} (h : 3 ≤ op ∧ op ≤ 10) : ((MapS.get glob_impl_opSign op).getD (⟨mkS [], 0⟩ : St_sign_level)).sign = sgS op := by
  have : op = 3 ∨ op = 4 ∨ op = 5 ∨ op = 6 ∨ op = 7 ∨ op = 8 ∨ op = 9 ∨ op = 10 := by omega
  rcases this with rfl | rfl | rfl | rfl | rfl | rfl | rfl | rfl <;> rfl
theorem head_iff {e : Expr_} (h : headB e = true) : inB e.op 1 13 = true ∧ (e.op = 1 → 0 ≤ e.n_ ∧ e.n_ ≤ 255) ∧ (e.op = 1 ∨ e.n_ = 0) ∧ ((e.op = 2 ∨ e.op = 13) → nameB e.name = true) ∧ (¬ (e.op = 2 ∨ e.op = 13) → e.name = mkS []) ∧
    ((e.op = 1 ∨ e.op = 2) → e.kids = []) ∧ ((e.op = 11 ∨ e.op = 12) → ∃ a, e.kids = [a]) ∧ ((3 ≤ e.op ∧ e.op ≤ 10) → ∃ a b, e.kids = [a, b]) ∧ e.kids.length ≤ 3 := by
  have hk3 := head_kids h
  unfold headB at h
  simp only [Bool.and_eq_true, decide_eq_true_iff] at h
  obtain ⟨h1, h2, h3, h4, h5⟩ := h
  have h4' := inB_iff.1 h4
  have h2' := inB_iff.1 h2
  refine ⟨h1, fun _ => h4', h5, fun hc => ?_, fun hc => ?_, fun hc => ?_, fun hc => ?_, fun hc => ?_, hk3⟩
  · rw [if_pos hc] at h3; exact h3
  · rw [if_neg hc, decide_eq_true_iff] at h3; exact h3
  · have : kidsI e.op = (0, 0) := by unfold kidsI; rw [if_pos hc]
    rw [this] at h2'
    exact List.eq_nil_of_length_eq_zero (by have := h2'.2; dsimp only at this; omega)
  · have : kidsI e.op = (1, 1) := by unfold kidsI; rw [if_neg (by omega), if_pos hc]
    rw [this] at h2'
    match hk : e.kids, h2' with
    | [a], _ => exact ⟨a, rfl⟩
    | [], h => simp at h
    | _ :: _ :: _, h => simp at h; omega
  · have : kidsI e.op = (2, 2) := by unfold kidsI; rw [if_neg (by omega), if_neg (by omega), if_neg (by omega)]
    rw [this] at h2'
    match hk : e.kids, h2' with
    | [a, b], _ => exact ⟨a, b, rfl⟩
    | [], h => simp at h
    | [_], h => simp at h
    | _ :: _ :: _ :: _, h => simp at h; omega
theorem wE_ne : ∀ {d : Nat} {e : Expr_}, formE d e = true → wE d e ≠ [] := by
  intro d e h
  cases d with
  | zero => rw [formE] at h; cases h
  | succ d =>
    rw [wE]
    repeat' split
    all_goals simp
theorem brW_len (b : Bool) (ws : List Word_) : (brW b ws).length ≤ ws.length + 2 := by
  unfold brW; split <;> simp
theorem aW_len : ∀ l : List (List Word_), (aW l).length ≤ (l.map List.length).sum + l.length
  | [] => by simp [aW]
  | x :: r => by
    have : ∀ r : List (List Word_), ((r.map (cM :: ·)).flatten).length = (r.map List.length).sum + r.length := by
      intro r
      induction r with
      | nil => rfl
      | cons y r ih => simp at ih ⊢; omega
    simp only [aW, List.length_append, this, List.map_cons, List.sum_cons, List.length_cons]
    omega
theorem aW_mono (a b : List (List Word_)) : (aW a).length ≤ (aW (a ++ b)).length := by
  cases a with
  | nil => simp [aW]
  | cons x r => simp [aW]
theorem wE_len : ∀ {d : Nat} {e : Expr_}, formE d e = true → (wE d e).length + 3 ≤ 6 * partsE e
  | 0, e, h => by rw [formE] at h; cases h
  | d + 1, e, h => by
    obtain ⟨h1, h2⟩ := form_kids h
    obtain ⟨i1, _, _, _, _, i6, i7, i8, i9⟩ := head_iff h1
    rw [partsE_eq, wE]
    by_cases c1 : e.op = 1
    · rw [if_pos c1]; simp; omega
    rw [if_neg c1]
    by_cases c2 : e.op = 2
    · rw [if_pos c2]; simp; omega
    rw [if_neg c2]
    by_cases c3 : e.op = 13
    · rw [if_pos c3]
      have h4 := aW_len (e.kids.map (wE d))
      have h5 : ∀ ks : List Expr_, (∀ k ∈ ks, formE d k = true) → ((ks.map (wE d)).map List.length).sum + 3 * ks.length ≤ 6 * partsL ks := by
        intro ks
        induction ks with
        | nil => intro _; simp
        | cons k ks ih =>
          intro hk
          have g1 := wE_len (hk k (by simp))
          have g2 := ih fun x hx => hk x (by simp [hx])
          rw [partsL_cons]
          simp at g2 ⊢
          omega
      have h6 := h5 e.kids h2
      simp at h4 ⊢
      simp at h6
      omega
    rw [if_neg c3]
    by_cases c4 : e.op = 11 ∨ e.op = 12
    · rw [if_pos c4]
      obtain ⟨a, ha⟩ := i7 c4
      have hk : kid e 0 = a := by unfold kid; rw [ha]; rfl
      have g1 := wE_len (h2 a (by rw [ha]; simp))
      have g2 := brW_len (decide (lvI a.op < 5)) (wE d a)
      rw [hk, ha, partsL_cons, partsL_nil]
      simp
      omega
    · rw [if_neg c4]
      rw [inB_iff] at i1
      obtain ⟨a, b, ha⟩ := i8 (by omega)
      have hk : kid e 0 = a := by unfold kid; rw [ha]; rfl
      have hk1 : kid e 1 = b := by unfold kid; rw [ha]; rfl
      have g1 := wE_len (h2 a (by rw [ha]; simp))
      have g2 := brW_len (decide (lvI a.op < lvI e.op)) (wE d a)
      have g3 := wE_len (h2 b (by rw [ha]; simp))
      have g4 := brW_len (decide (lvI b.op ≤ lvI e.op)) (wE d b)
      rw [hk, hk1, ha, partsL_cons, partsL_cons, partsL_nil]
      simp
      omega
theorem words_ok : ∀ (d : Nat) (e : Expr_) (list : List Word_) (around : Bool), formE d e = true → list.length + (wE d e).length + 2 * d + 2 ≤ 100000 → impl_exprWords list e around = some (list ++ brW around (wE d e)) := by
  intro d
  induction d with
  | zero => intro e list around h; rw [formE] at h; cases h
  | succ d ih =>
    intro e list around h hl
    have key : ∀ list : List Word_, list.length + (wE (d + 1) e).length + 2 * d + 2 ≤ 100000 → impl_exprWords list e false = some (list ++ wE (d + 1) e) := by
      intro list hl
      obtain ⟨h1, h2⟩ := form_kids h
      obtain ⟨i1, i2, _, _, _, i6, i7, i8, i9⟩ := head_iff h1
      rw [impl_exprWords]
      simp only [Bool.false_eq_true, if_false, levelOf_ok, impl_nameWord, impl_signWord, Option.bind_some, decide_eq_true_eq]
      have hwe := hl
      rw [wE] at hwe ⊢
      by_cases c1 : e.op = 1
      · rw [if_pos c1]
        rw [if_pos c1] at hwe ⊢
        obtain ⟨n, hn⟩ : ∃ n : Nat, e.n_ = n := ⟨e.n_.toNat, by have := i2 c1; omega⟩
        have hn2 := i2 c1
        rw [hn, (numS_ok (by omega)).1, Option.bind_some, appM_ok (by simp at hwe ⊢; omega)]; rfl
      rw [if_neg c1] at hwe ⊢
      rw [if_neg c1]
      by_cases c2 : e.op = 2
      · rw [if_pos c2, if_pos c2] at *
        rw [appM_ok (by simp at hwe ⊢; omega)]; rfl
      rw [if_neg c2] at hwe ⊢
      rw [if_neg c2]
      by_cases c3 : e.op = 13
      · rw [if_pos c3] at hwe ⊢
        rw [if_pos c3, appM_ok (by simp at hwe ⊢; omega), Option.bind_some]
        simp at hwe
        rcases forN_list (xs := e.kids) (body := (fun (i1_1 : Int) (xs1_1 : (List Word_)) => (Option.bind (getI e.kids i1_1) fun x1_1 => Option.bind (if decide (0 < i1_1) then Option.bind (impl_signWord (mkS [44])) fun r2_1 => Option.bind (appM xs1_1 ([r2_1] : List Word_)) fun ys2_1 => some ys2_1 else some xs1_1 : Option ((List Word_))) fun s1_1 => Option.bind (impl_exprWords s1_1 x1_1 false) fun r1_1 => some (.inl r1_1) : Option (((List Word_)) ⊕ (Empty))))) (s := list ++ [⟨1, e.name⟩, ⟨3, mkS [40]⟩]) (fun l s => s = list ++ ⟨1, e.name⟩ :: pL :: aW (l.map (wE d))) (fun _ => False) rfl (fun l x r s hx hI => .inl (by
          have hmo := aW_mono ((l ++ [x]).map (wE d)) (r.map (wE d))
          rw [← List.map_append, List.append_assoc, List.singleton_append, ← hx, List.map_append, List.map_cons, List.map_nil, aW_snoc] at hmo
          have hfx := h2 x (by rw [hx]; simp)
          have hg : getI e.kids (l.length : Int) = some x := by rw [hx, getI_mid]
          subst hI
          by_cases hl0 : l = []
          · subst hl0
            have e0 : decide (0 < (([] : List Expr_).length : Int)) = false := rfl
            simp at hmo
            refine ⟨_, ?_, rfl⟩
            rw [hg, e0, Option.bind_some]
            simp only [Bool.false_eq_true, if_false, Option.bind_some]
            rw [ih x _ false hfx (by simp [aW]; omega)]
            simp [aW, brW]
          · have e0 : decide (0 < (l.length : Int)) = true := by have := List.length_pos_iff.2 hl0; simp; omega
            have hl1 : l.map (wE d) ≠ [] := by simpa using hl0
            rw [if_neg hl1] at hmo
            simp at hmo
            refine ⟨_, ?_, rfl⟩
            rw [hg, e0, Option.bind_some]
            simp only [if_true, impl_signWord, Option.bind_some]
            rw [appM_ok (by simp; omega), Option.bind_some, Option.bind_some, ih x _ false hfx (by simp; omega)]
            rw [List.map_append, List.map_cons, List.map_nil, aW_snoc, if_neg hl1]
            simp [brW, cM])) with ⟨s, h3, h4⟩ | ⟨y, _, h4⟩
        · simp only [Bool.false_eq_true, if_false, levelOf_ok, impl_nameWord, impl_signWord, Option.bind_some, decide_eq_true_eq] at h3
          rw [h3, h4]
          simp only [Option.bind_some, Sum.elim_inl]
          rw [appM_ok (by simp; omega)]
          simp [pR, Option.bind_some]
        · exact h4.elim
      rw [if_neg c3] at hwe ⊢
      rw [if_neg c3]
      by_cases c4 : e.op = 11 ∨ e.op = 12
      · obtain ⟨a, ha⟩ := i7 c4
        have hk : kid e 0 = a := by unfold kid; rw [ha]; rfl
        have hlv : lvI e.op = 5 := by rcases c4 with h | h <;> rw [h] <;> rfl
        have hsg : (if decide (e.op = 12) then some (mkS [64]) else some (mkS [33]) : Option Str) = some (sgS e.op) := by rcases c4 with h | h <;> rw [h] <;> rfl
        have hg : getI e.kids 0 = some a := by rw [ha]; rfl
        rw [if_pos c4, hk] at hwe ⊢
        have hb := h2 a (by rw [ha]; simp)
        have hbr : (wE d a).length ≤ (brW (decide (lvI a.op < 5)) (wE d a)).length := by unfold brW; split <;> simp; omega
        simp at hwe
        rw [if_pos hlv]
        simp only [decide_eq_true_eq] at hsg
        rw [hsg, hg, Option.bind_some, Option.bind_some, appM_ok (by simp; omega), Option.bind_some, ih a _ _ hb (by simp; omega)]
        simp [sgW]
      · rw [inB_iff] at i1
        obtain ⟨a, b, ha⟩ := i8 (by omega)
        have hk : kid e 0 = a := by unfold kid; rw [ha]; rfl
        have hk1 : kid e 1 = b := by unfold kid; rw [ha]; rfl
        have hlv : ¬ lvI e.op = 5 := by
          rcases op_lv (inB_iff.2 i1) with h | h | h <;> omega
        have hg : getI e.kids 0 = some a := by rw [ha]; rfl
        have hg1 : getI e.kids 1 = some b := by rw [ha]; rfl
        rw [if_neg c4, hk, hk1] at hwe ⊢
        have hb := h2 a (by rw [ha]; simp)
        have hb1 := h2 b (by rw [ha]; simp)
        have hbr : (wE d a).length ≤ (brW (decide (lvI a.op < lvI e.op)) (wE d a)).length := by unfold brW; split <;> simp; omega
        have hbr1 : (wE d b).length ≤ (brW (decide (lvI b.op ≤ lvI e.op)) (wE d b)).length := by unfold brW; split <;> simp; omega
        simp at hwe
        rw [if_neg hlv, hg, hg1, Option.bind_some, ih a _ _ hb (by omega), Option.bind_some, sg_sign (by omega), appM_ok (by simp; omega), Option.bind_some, Option.bind_some, ih b _ _ hb1 (by simp; omega)]
        simp [sgW]
    cases around with
    | false => rw [key list (by omega)]; rfl
    | true =>
      rw [impl_exprWords]
      simp only [if_true, impl_signWord, Option.bind_some]
      rw [appM_ok (by simp; omega), Option.bind_some, key _ (by simp; omega), Option.bind_some, appM_ok (by simp; omega)]
      simp [brW, pL, pR]
end Prg
end Go.Wk
namespace Go.Wk
open Go
namespace Prg
set_option maxRecDepth 10000
theorem sg_valid {op : Int} : wordB (sgW op) = true := by
  unfold sgW sgS
  repeat' split
  all_goals rfl
theorem vW_app {a b : List Word_} (ha : vW a) (hb : vW b) : vW (a ++ b) := fun w hw => by
  rcases List.mem_append.1 hw with h | h
  · exact ha w h
  · exact hb w h
theorem vW_cons {w : Word_} {b : List Word_} (ha : wordB w = true) (hb : vW b) : vW (w :: b) := fun x hx => by
  rcases List.mem_cons.1 hx with rfl | h
  · exact ha
  · exact hb x h
theorem vW_nil : vW [] := fun w hw => by cases hw
theorem brW_valid {b : Bool} {ws : List Word_} (h : vW ws) : vW (brW b ws) := by
  unfold brW
  split
  · exact vW_cons rfl (vW_app h (vW_cons rfl vW_nil))
  · exact h
theorem aW_valid : ∀ {l : List (List Word_)}, (∀ x ∈ l, vW x) → vW (aW l)
  | [], _ => vW_nil
  | x :: r, h => by
    unfold aW
    refine vW_app (h x (by simp)) fun w hw => ?_
    obtain ⟨y, hy, hw⟩ := List.mem_flatten.1 hw
    obtain ⟨z, hz, rfl⟩ := List.mem_map.1 hy
    exact vW_cons (w := cM) rfl (h z (by simp [hz])) w hw
theorem wE_valid : ∀ {d : Nat} {e : Expr_}, formE d e = true → vW (wE d e)
  | 0, e, h => by rw [formE] at h; cases h
  | d + 1, e, h => by
    obtain ⟨h1, h2⟩ := form_kids h
    obtain ⟨i1, i2, _, i4, _, i6, i7, i8, i9⟩ := head_iff h1
    rw [wE]
    by_cases c1 : e.op = 1
    · rw [if_pos c1]
      refine vW_cons ?_ vW_nil
      obtain ⟨n, hn⟩ : ∃ n : Nat, e.n_ = n := ⟨e.n_.toNat, by have := i2 c1; omega⟩
      have hn2 := i2 c1
      have := numI_numS (n := n) (by omega)
      show decide (0 ≤ numI (numS e.n_)) = true
      rw [hn, this]; simp
    rw [if_neg c1]
    by_cases c2 : e.op = 2
    · rw [if_pos c2]
      exact vW_cons (i4 (.inl c2)) vW_nil
    rw [if_neg c2]
    by_cases c3 : e.op = 13
    · rw [if_pos c3]
      refine vW_cons (i4 (.inr c3)) (vW_cons rfl (vW_app (aW_valid fun x hx => ?_) (vW_cons rfl vW_nil)))
      obtain ⟨k, hk, rfl⟩ := List.mem_map.1 hx
      exact wE_valid (h2 k hk)
    rw [if_neg c3]
    by_cases c4 : e.op = 11 ∨ e.op = 12
    · rw [if_pos c4]
      obtain ⟨a, ha⟩ := i7 c4
      have hk : kid e 0 = a := by unfold kid; rw [ha]; rfl
      rw [hk]
      exact vW_cons sg_valid (brW_valid (wE_valid (h2 a (by rw [ha]; simp))))
    · rw [if_neg c4]
      rw [inB_iff] at i1
      obtain ⟨a, b, ha⟩ := i8 (by omega)
      have hk : kid e 0 = a := by unfold kid; rw [ha]; rfl
      have hk1 : kid e 1 = b := by unfold kid; rw [ha]; rfl
      rw [hk, hk1]
      exact vW_app (brW_valid (wE_valid (h2 a (by rw [ha]; simp)))) (vW_cons sg_valid (brW_valid (wE_valid (h2 b (by rw [ha]; simp)))))
theorem cat_ex {s t : Str} (h : s.b.length + t.b.length ≤ 100000000) : ∃ u, catS s t = some u ∧ u.b = s.b ++ t.b := ⟨⟨s.b ++ t.b, by simp; omega⟩, catS_some.2 ⟨by omega, rfl⟩, rfl⟩
theorem wE_txt_len {d : Nat} {e : Expr_} (h : formE d e = true) : (txt (wE d e)).length ≤ 30 * partsE e := by
  have h1 := txt_len _ (wE_valid h)
  have h2 := wE_len h
  omega
theorem sg_len (op : Int) : (sgS op).b.length = 1 := by
  unfold sgS
  repeat' split
  all_goals rfl
end Prg
end Go.Wk
namespace Go.Wk
open Go
namespace Prg
set_option maxRecDepth 10000
def joinV (ws : List Word_) : Str × Bool := if ws.length ≤ 600 ∧ (txt ws).length ≤ 3000 then (toS (txt ws), true) else (mkS [], false)
theorem join_ok (ws : List Word_) (h : vW ws) : impl_JoinWords ws = some (joinV ws) := by
  unfold impl_JoinWords
  by_cases h6 : ws.length ≤ 600
  · have e1 : decide (600 < (ws.length : Int)) = false := by simp; omega
    rw [e1]
    simp only [Bool.false_eq_true, if_false]
    rw [makeM_ok (by omega) (by omega), Option.bind_some, show ((ws.length : Int)).toNat = ws.length by omega]
    rw [forN_map (xs := ws) (body := (fun (i1_1 : Int) (xs1_1 : (List Str)) => (Option.bind (getI ws i1_1) fun x1_1 => Option.bind (impl_WordValid x1_1) fun r1_1 => if !(r1_1) then some (.inr ((mkS []), false)) else Option.bind (getI xs1_1 i1_1) fun x1_2 => some (.inl (xs1_1.set (i1_1).toNat x1_1.text)) : Option (((List Str)) ⊕ (Str × Bool))))) (fun w => w.text) (fun l x r ys he hl => by
      have hx := h x (by rw [he]; simp)
      have hg : getI ws (l.length : Int) = some x := by rw [he, getI_mid]
      rw [hg, Option.bind_some, valid_ok, hx, Option.bind_some, show ((l.length : Int)).toNat = l.length by omega, getI_nat, List.getElem?_eq_getElem hl]; rfl)]
    have hb := txt_len ws h
    have hm : (ws.map (fun w => w.text)).map (·.b) = ws.map (fun w => w.text.b) := by simp
    have hj : strings_Join (ws.map (fun w => w.text)) (mkS [32]) = some (toS (txt ws)) := by
      unfold strings_Join joinM
      have h1 : (Lib.join ((ws.map (fun w => w.text)).map (·.b)) (mkS [32]).b).length ≤ 140737488355328 := by
        rw [hm]; show (txt ws).length ≤ _; omega
      rw [dif_pos h1, if_pos (by simp; omega)]
      refine congrArg some (Str.ext' ?_)
      rw [toS_b (by omega)]
      show Lib.join ((ws.map (fun w => w.text)).map (·.b)) [32] = txt ws
      rw [hm]; rfl
    simp only [Option.bind_some, Sum.elim_inl, hj]
    have hl : (toS (txt ws)).b.length = (txt ws).length := by rw [toS_b (by omega)]
    rw [hl]
    by_cases h7 : (txt ws).length ≤ 3000
    · have hv : joinV ws = (toS (txt ws), true) := if_pos ⟨h6, h7⟩
      rw [hv, if_neg (by simp; omega)]
    · have hv : joinV ws = (mkS [], false) := if_neg fun h' => h7 h'.2
      rw [hv, if_pos (decide_eq_true (by omega))]
  · have hv : joinV ws = (mkS [], false) := if_neg fun h' => h6 h'.1
    rw [hv, if_pos (decide_eq_true (by omega))]
def textV (e : Expr_) : Str × Bool := if validB e then (toS (txt (wE 6 e)), true) else (mkS [], false)
theorem valid_form {e : Expr_} (h : validB e = true) : formE 6 e = true ∧ partsE e ≤ 30 := by
  unfold validB at h
  rw [Bool.and_eq_true, decide_eq_true_iff] at h
  exact h
theorem lv_pos {e : Expr_} {d : Nat} (h : formE d e = true) : 1 ≤ lvI e.op := by
  have h0 : headB e = true := by
    cases d with
    | zero => rw [formE] at h; cases h
    | succ d => exact (form_kids h).1
  rcases op_lv (head_iff h0).1 with h | h | h <;> omega
theorem textI_ok (e : Expr_) : impl_ExprText e = some (textV e) := by
  unfold impl_ExprText textV
  rw [valid_E, Option.bind_some]
  cases hv : validB e with
  | false => rfl
  | true =>
    obtain ⟨h1, h2⟩ := valid_form hv
    have hw := wE_len h1
    have ht := wE_txt_len h1
    have h3 := words_ok 6 e [] false h1 (by simp; omega)
    simp only [Bool.not_true, Bool.false_eq_true, if_false, h3, Option.bind_some, if_true]
    show Option.bind (impl_JoinWords ([] ++ wE 6 e)) _ = _
    rw [List.nil_append, join_ok _ (wE_valid h1), Option.bind_some]
    unfold joinV
    rw [if_pos ⟨by omega, by omega⟩]
theorem cut_txt {ws : List Word_} (h : vW ws) (h1 : ws.length ≤ 600) (h2 : (txt ws).length ≤ 3000) : cutR (toS (txt ws)) = some ws := by
  unfold cutR
  rw [toS_b (by omega), if_pos h2, tok_txt ws h]
  simp [h1]
end Prg
end Go.Wk
namespace Go.Wk
open Go
namespace Prg
set_option maxRecDepth 10000
def stopC (need : Int) (r : List Word_) : Prop := (∀ m : Int, need ≤ m → m ≤ 4 → opT m r = 0) ∧ isT r (mkS [40]) = false
theorem stop_mono {a b : Int} {r : List Word_} (h : stopC a r) (hab : a ≤ b) : stopC b r := ⟨fun m h1 h2 => h.1 m (by omega) h2, h.2⟩
theorem stop_nil (a : Int) : stopC a [] := ⟨fun _ _ _ => rfl, rfl⟩
theorem opW_sg0 {w : Word_} (h : w.text = mkS [41] ∨ w.text = mkS [44]) (m : Int) : opW m w = 0 := by
  unfold opW
  rcases h with h | h <;> rw [h] <;> (repeat' split) <;> first | rfl | (rename_i h'; revert h'; decide)
theorem stop_pR (a : Int) (r : List Word_) : stopC a (pR :: r) := ⟨fun m _ _ => opW_sg0 (.inl rfl) m, rfl⟩
theorem stop_cM (a : Int) (r : List Word_) : stopC a (cM :: r) := ⟨fun m _ _ => opW_sg0 (.inr rfl) m, rfl⟩
theorem sg_op {op : Int} (h : 3 ≤ op ∧ op ≤ 10) : opW (lvI op) (sgW op) = op ∧ (∀ m : Int, lvI op < m → m ≤ 4 → opW m (sgW op) = 0) ∧ (sgW op).text ≠ mkS [40] := by
  have : op = 3 ∨ op = 4 ∨ op = 5 ∨ op = 6 ∨ op = 7 ∨ op = 8 ∨ op = 9 ∨ op = 10 := by omega
  rcases this with rfl | rfl | rfl | rfl | rfl | rfl | rfl | rfl <;> refine ⟨by decide, fun m hm hm4 => ?_, by decide⟩ <;> simp [lvI] at hm <;> unfold opW <;> (repeat' split) <;> first | rfl | omega | (rename_i h'; revert h'; decide)
theorem lift : ∀ (k : Nat) {hi lo : Int} {ws : List Word_} {e : Expr_} {r : List Word_}, hi = lo + k → 1 ≤ lo → hi ≤ 5 → Rd (.E hi ws e r) → (∀ m : Int, lo ≤ m → m < hi → opT m r = 0) → Rd (.E lo ws e r)
  | 0, hi, lo, ws, e, r, h, _, _, h3, _ => by
    have : lo = hi := by omega
    rw [this]; exact h3
  | k + 1, hi, lo, ws, e, r, h, h1, h2, h3, h4 => by
    have := lift k (hi := hi) (lo := lo + 1) (by omega) (by omega) h2 h3 fun m g1 g2 => h4 m (by omega) g2
    exact .up (by omega) this (.stop (h4 lo (by omega) (by omega)))
def headJ : Job → Prop
  | .E _ ws _ _ => vW ws → isT ws (mkS [41]) = false
  | .L _ _ _ _ _ => True
  | .A _ _ _ => True
  | .M _ _ _ _ => True
theorem rd_head {j : Job} (h : Rd j) : headJ j := by
  induction h <;> try trivial
  case neg w ws e r hw _ _ => intro _; exact decide_eq_false (by rw [hw]; decide)
  case at_ w ws e r hw _ _ => intro _; exact decide_eq_false (by rw [hw]; decide)
  case par w ws e v r hw _ _ _ => intro _; exact decide_eq_false (by rw [hw]; decide)
  case num w r hw => intro hv; exact decide_eq_false (ne_sign (vW_head hv) (by omega) rfl (by decide))
  case var w r hw _ => intro hv; exact decide_eq_false (ne_sign (vW_head hv) (by omega) rfl (by decide))
  case call w v ws ks r hw _ _ _ => intro hv; exact decide_eq_false (ne_sign (vW_head hv) (by omega) rfl (by decide))
def ClaimE (d : Nat) (e : Expr_) : Prop := ∀ (need : Int) (r : List Word_), 1 ≤ need → need ≤ 5 → stopC need r → Rd (.E need (brW (decide (lvI e.op < need)) (wE d e) ++ r) e r)
def ClaimC (d : Nat) (e : Expr_) : Prop := ∀ (lv : Int) (ws : List Word_) (e' : Expr_) (r : List Word_), (lv = 1 ∨ lv = 2 ∨ lv = 3 ∨ lv = 4) → stopC (lv + 1) ws → Rd (.L lv e ws e' r) → Rd (.E lv (brW (decide (lvI e.op < lv)) (wE d e) ++ ws) e' r)
theorem args_rd {d : Nat} : ∀ (ks : List Expr_) (acc : List Expr_) (r : List Word_), (∀ k ∈ ks, ClaimE d k ∧ formE d k = true) → Rd (.M acc (((ks.map (wE d)).map (cM :: ·)).flatten ++ pR :: r) (acc ++ ks) r)
  | [], acc, r, _ => by rw [List.append_nil]; exact .last rfl
  | k :: ks, acc, r, h => by
    have ih := args_rd ks (acc ++ [k]) r fun x hx => h x (by simp [hx])
    have hk := (h k (by simp)).1 1 ((((ks.map (wE d)).map (cM :: ·)).flatten) ++ pR :: r) (by omega) (by omega) (by
      cases ks with
      | nil => exact stop_pR 1 r
      | cons y ks => exact stop_cM 1 _)
    have hl : decide (lvI k.op < 1) = false := decide_eq_false (by have := lv_pos (h k (by simp)).2; omega)
    rw [hl] at hk
    have := Rd.more (acc := acc) (v := cM) rfl hk (by rw [List.append_assoc] at ih; exact ih)
    simpa [brW] using this
theorem own_rd : ∀ (d : Nat) (e : Expr_), formE d e = true → ClaimE d e ∧ ClaimC d e := by
  intro d
  induction d with
  | zero => intro e h; rw [formE] at h; cases h
  | succ d ih =>
    intro e h
    obtain ⟨h1, h2⟩ := form_kids h
    obtain ⟨i1, i2, i3, i4, i5, i6, i7, i8, i9⟩ := head_iff h1
    have hlv1 := lv_pos h
    have U5 : 5 ≤ lvI e.op → ∀ r, isT r (mkS [40]) = false → Rd (.E 5 (wE (d + 1) e ++ r) e r) := by
      intro h5 r hr
      rw [wE]
      by_cases c1 : e.op = 1
      · rw [if_pos c1]
        have he : e = ⟨1, numW ⟨2, numS e.n_⟩, mkS [], []⟩ := by
          obtain ⟨n, hn⟩ : ∃ n : Nat, e.n_ = n := ⟨e.n_.toNat, by have := i2 c1; omega⟩
          have hn2 := i2 c1
          have hw : numW ⟨2, numS e.n_⟩ = e.n_ := by
            unfold numW; rw [if_pos rfl, hn]; exact numI_numS (by omega)
          rw [hw]
          have g1 := i6 (.inl c1)
          have g2 := i5 (by omega)
          cases e
          simp at c1 g1 g2 ⊢
          exact ⟨c1, g2, g1⟩
        conv => rhs
        have := Rd.num (w := ⟨2, numS e.n_⟩) (r := r) rfl
        rw [← he] at this
        exact this
      rw [if_neg c1]
      have hn0 : e.n_ = 0 := by rcases i3 with h | h
                                · exact absurd h c1
                                · exact h
      by_cases c2 : e.op = 2
      · rw [if_pos c2]
        have he : e = ⟨2, 0, e.name, []⟩ := by
          have g1 := i6 (.inr c2)
          cases e
          simp at c2 g1 hn0 ⊢
          exact ⟨c2, hn0, g1⟩
        have := Rd.var (w := ⟨1, e.name⟩) (r := r) rfl hr
        rw [← he] at this
        exact this
      rw [if_neg c2]
      by_cases c3 : e.op = 13
      · rw [if_pos c3]
        have he : e = ⟨13, 0, e.name, e.kids⟩ := by
          cases e
          simp at c3 hn0 ⊢
          exact ⟨c3, hn0⟩
        have hA : Rd (.A (aW (e.kids.map (wE d)) ++ pR :: r) e.kids r) := by
          generalize e.kids = ks at h2
          cases ks with
          | nil => exact .done rfl
          | cons k ks =>
            have hk := (ih k (h2 k (by simp))).1 1 ((((ks.map (wE d)).map (cM :: ·)).flatten) ++ pR :: r) (by omega) (by omega) (by
              cases ks with
              | nil => exact stop_pR 1 r
              | cons y ks => exact stop_cM 1 _)
            have hl : decide (lvI k.op < 1) = false := decide_eq_false (by have := lv_pos (h2 k (by simp)); omega)
            rw [hl] at hk
            have hM := args_rd ks [k] r fun x hx => ⟨(ih x (h2 x (by simp [hx]))).1, h2 x (by simp [hx])⟩
            have hw : aW ((k :: ks).map (wE d)) ++ pR :: r = brW false (wE d k) ++ ((((ks.map (wE d)).map (cM :: ·)).flatten) ++ pR :: r) := by simp [aW, brW]
            rw [hw]
            refine .first ?_ hk hM
            have hne := wE_ne (h2 k (by simp))
            have hv := wE_valid (h2 k (by simp))
            have hr1 := (ih k (h2 k (by simp))).1 1 [] (by omega) (by omega) (stop_nil 1)
            rw [hl] at hr1
            have hh : isT (wE d k ++ []) (mkS [41]) = false := rd_head hr1 (show vW (wE d k ++ []) by rw [List.append_nil]; exact hv)
            cases hwk : wE d k with
            | nil => exact absurd hwk hne
            | cons w l => rw [hwk] at hh; exact hh
        have := Rd.call (w := ⟨1, e.name⟩) (v := pL) rfl rfl hA
        rw [← he] at this
        simpa using this
      rw [if_neg c3]
      rcases op_lv i1 with g | g | g
      · omega
      · rw [if_pos g.1]
        obtain ⟨a, ha⟩ := i7 g.1
        have hk : kid e 0 = a := by unfold kid; rw [ha]; rfl
        have hnm := i5 (by omega)
        have hr5 := (ih a (h2 a (by rw [ha]; simp))).1 5 r (by omega) (by omega) ⟨fun m g1 g2 => by omega, hr⟩
        rw [hk, List.cons_append]
        rcases g.1 with g1 | g1
        · have he : e = ⟨11, 0, mkS [], [a]⟩ := by
            cases e
            simp at g1 hn0 ha hnm ⊢
            exact ⟨g1, hn0, hnm, ha⟩
          have := Rd.neg (w := sgW e.op) (by rw [g1]; rfl) hr5
          rw [← he] at this
          exact this
        · have he : e = ⟨12, 0, mkS [], [a]⟩ := by
            cases e
            simp at g1 hn0 ha hnm ⊢
            exact ⟨g1, hn0, hnm, ha⟩
          have := Rd.at_ (w := sgW e.op) (by rw [g1]; rfl) hr5
          rw [← he] at this
          exact this
      · omega
    have UC : lvI e.op ≤ 4 → ∀ ws e' r, stopC (lvI e.op + 1) ws → Rd (.L (lvI e.op) e ws e' r) → Rd (.E (lvI e.op) (wE (d + 1) e ++ ws) e' r) := by
      intro h4 ws e' r hs hL
      rcases op_lv i1 with g | g | g
      · omega
      · omega
      obtain ⟨a, b, ha⟩ := i8 g.1
      have hk : kid e 0 = a := by unfold kid; rw [ha]; rfl
      have hk1 : kid e 1 = b := by unfold kid; rw [ha]; rfl
      have hnm := i5 (by omega)
      have hn0 : e.n_ = 0 := by rcases i3 with h | h
                                · omega
                                · exact h
      have he : e = ⟨e.op, 0, mkS [], [a, b]⟩ := by
        cases e
        simp at hn0 ha hnm ⊢
        exact ⟨hn0, hnm, ha⟩
      obtain ⟨s1, s2, s3⟩ := sg_op g.1
      have hb := (ih b (h2 b (by rw [ha]; simp))).1 (lvI e.op + 1) ws (by omega) (by omega) hs
      have eb : decide (lvI b.op < lvI e.op + 1) = decide (lvI b.op ≤ lvI e.op) := by rw [decide_eq_decide]; omega
      rw [eb] at hb
      have hstep : Rd (.L (lvI e.op) a (sgW e.op :: (brW (decide (lvI b.op ≤ lvI e.op)) (wE d b) ++ ws)) e' r) := by
        refine .step (by rw [s1]; omega) hb ?_
        rw [s1, ← he]
        exact hL
      have hA := (ih a (h2 a (by rw [ha]; simp))).2 (lvI e.op) (sgW e.op :: (brW (decide (lvI b.op ≤ lvI e.op)) (wE d b) ++ ws)) e' r g.2 ⟨fun m g1 g2 => show opW m (sgW e.op) = 0 from s2 m (by omega) g2, decide_eq_false s3⟩ hstep
      rw [wE, if_neg (by omega), if_neg (by omega), if_neg (by omega), if_neg (by omega), hk, hk1]
      simpa using hA
    have UE : ∀ need r, 1 ≤ need → need ≤ 5 → need ≤ lvI e.op → stopC need r → Rd (.E need (wE (d + 1) e ++ r) e r) := by
      intro need r n1 n2 n3 hs
      by_cases h5 : 5 ≤ lvI e.op
      · exact lift (hi := 5) (lo := need) (5 - need).toNat (by omega) n1 (by omega) (U5 h5 r hs.2) fun m g1 g2 => hs.1 m g1 (by omega)
      · have := UC (by omega) r e r (stop_mono hs (by omega)) (.stop (hs.1 _ n3 (by omega)))
        exact lift (hi := lvI e.op) (lo := need) (lvI e.op - need).toNat (by omega) n1 (by omega) this fun m g1 g2 => hs.1 m g1 (by omega)
    have BE : ∀ need r, 1 ≤ need → need ≤ 5 → stopC need r → Rd (.E need (brW true (wE (d + 1) e) ++ r) e r) := by
      intro need r n1 n2 hs
      have := Rd.par (w := pL) rfl (UE 1 (pR :: r) (by omega) (by omega) hlv1 (stop_pR 1 r)) rfl
      refine lift (hi := 5) (lo := need) (5 - need).toNat (by omega) n1 (by omega) ?_ fun m g1 g2 => hs.1 m g1 (by omega)
      simpa [brW] using this
    have CE : ClaimE (d + 1) e := by
      intro need r n1 n2 hs
      by_cases hc : lvI e.op < need
      · rw [decide_eq_true hc]; exact BE need r n1 n2 hs
      · rw [decide_eq_false hc]; exact UE need r n1 n2 (by omega) hs
    refine ⟨CE, fun lv ws e' r hlv hs hL => ?_⟩
    by_cases hc : lvI e.op = lv
    · subst hc
      rw [decide_eq_false (by omega)]
      exact UC (by omega) ws e' r hs hL
    · have eb : decide (lvI e.op < lv) = decide (lvI e.op < lv + 1) := by rw [decide_eq_decide]; omega
      rw [eb]
      exact .up hlv (CE (lv + 1) ws (by omega) (by omega) hs) hL
theorem read_own {e : Expr_} (h : validB e = true) : impl_ReadExpr (toS (txt (wE 6 e))) = some (e, true) ∧ cutR (toS (txt (wE 6 e))) = some (wE 6 e) := by
  obtain ⟨h1, h2⟩ := valid_form h
  have hw := wE_len h1
  have ht := wE_txt_len h1
  have hc := cut_txt (wE_valid h1) (by omega) (by omega)
  have hl := lv_pos h1
  have hr := (own_rd 6 e h1).1 1 [] (by omega) (by omega) (stop_nil 1)
  rw [decide_eq_false (by omega), List.append_nil] at hr
  have := (read_some hc hr).2
  rw [if_pos ⟨rfl, h⟩] at this
  exact ⟨this, hc⟩
end Prg
end Go.Wk
namespace Go.Wk
open Go
namespace Prg
set_option maxRecDepth 10000
def Dr {A : Type} (o : Option A) (Q : A → Prop) : Prop := ∃ a, o = some a ∧ Q a
theorem Dr.some {A : Type} {a : A} {Q : A → Prop} (h : Q a) : Dr (some a) Q := ⟨a, rfl, h⟩
theorem Dr.bind {A B : Type} {o : Option A} {f : A → Option B} {P : A → Prop} {Q : B → Prop} (h : Dr o P) (k : ∀ a, P a → Dr (f a) Q) : Dr (Option.bind o f) Q := by
  obtain ⟨a, h1, h2⟩ := h
  obtain ⟨b, h3, h4⟩ := k a h2
  exact ⟨b, bindt h1 h3, h4⟩
theorem Dr.ite {A : Type} {c : Bool} {x y : Option A} {Q : A → Prop} (h1 : c = true → Dr x Q) (h2 : c = false → Dr y Q) : Dr (if c = true then x else y) Q := by
  cases c
  · exact h2 rfl
  · exact h1 rfl
theorem Dr.mono {A : Type} {o : Option A} {P Q : A → Prop} (h : Dr o P) (k : ∀ a, P a → Q a) : Dr o Q := by
  obtain ⟨a, h1, h2⟩ := h
  exact ⟨a, h1, k a h2⟩
theorem Dr.get {A : Type} {xs : List A} {i : Int} (h0 : 0 ≤ i) (h1 : i < (xs.length : Int)) : Dr (getI xs i) (fun x => x ∈ xs) := by
  obtain ⟨x, hx, _, hm⟩ := getI_in h0 h1
  exact ⟨x, hx, hm⟩
theorem Dr.app {A : Type} {xs ys : List A} (h : xs.length + ys.length ≤ 2147483648) : Dr (appM xs ys) (fun l => l = xs ++ ys) := ⟨_, appM_ok h, rfl⟩
theorem Dr.forN {S : Type} {body : Int → S → Option (S ⊕ Empty)} {B : Type} {f : S ⊕ Empty → Option B} {Q : B → Prop} (I : Int → S → Prop) {k : Nat} {s : S} (h0 : I 0 s)
    (h : ∀ j s, 0 ≤ j → j < (k : Int) → I j s → Dr (body j s) (fun r => ∀ t, r = .inl t → I (j + 1) t)) (hf : ∀ s, I k s → Dr (f (.inl s)) Q) : Dr (Option.bind (forN body k 0 s) f) Q := by
  rcases forN_law (body := body) (k := k) (i := 0) (s := s) I (fun _ => False) h0 (fun j s h1 h2 hs => by
    obtain ⟨r, h3, h4⟩ := h j s h1 (by simpa using h2) hs
    cases r with
    | inl t => exact .inl ⟨t, h3, h4 t rfl⟩
    | inr e => exact e.elim) with ⟨t, h3, h4⟩ | ⟨e, _, h4⟩
  · obtain ⟨b, h5, h6⟩ := hf t (by simpa using h4)
    exact ⟨b, bindt h3 h5, h6⟩
  · exact h4.elim
theorem Dr.loop {S X : Type} {body : S → Option (S ⊕ X)} {Q : X → Prop} (I : S → Prop) (μ : S → Nat) : ∀ {s : S}, I s → (∀ s, I s → Dr (body s) (fun r => (∀ t, r = .inl t → I t ∧ μ t < μ s) ∧ ∀ x, r = .inr x → Q x)) → Dr (loopM body s) Q := by
  intro s hs h
  generalize hn : μ s = n
  induction n using Nat.strongRecOn generalizing s with
  | _ n ih =>
    obtain ⟨r, h1, h2, h3⟩ := h s hs
    cases r with
    | inl t =>
      have h4 := h2 t rfl
      obtain ⟨x, h5, h6⟩ := ih (μ t) (by omega) h4.1 rfl
      exact ⟨x, by rw [loopM_inl h1]; exact h5, h6⟩
    | inr x => exact ⟨x, loopM_inr h1, h3 x rfl⟩
theorem xor_nn (a b : Int) (ha : 0 ≤ a ∧ a < 1073741824) (hb : 0 ≤ b ∧ b < 1073741824) : 0 ≤ bitsK IntKind.i64 (· ^^^ ·) a b := by
  unfold bitsK
  have h : (BitVec.ofInt 64 a ^^^ BitVec.ofInt 64 b).toNat < 2 ^ 30 := by
    rw [BitVec.toNat_xor]
    refine Nat.xor_lt_two_pow ?_ ?_ <;> rw [BitVec.toNat_ofInt] <;> omega
  show 0 ≤ IntKind.i64.wrap ((BitVec.ofInt 64 a ^^^ BitVec.ofInt 64 b).toNat : Int)
  rw [IntKind.wrap_i64]
  omega
theorem tmod_in {a n : Int} (ha : 0 ≤ a) (hn : 0 < n) : 0 ≤ a.tmod n ∧ a.tmod n < n := ⟨Int.tmod_nonneg _ ha, Int.tmod_lt_of_pos _ hn⟩
theorem pick_ok (b : List UInt8) (hb : b.length ≤ 2000) (p n : Int) (h0 : 0 ≤ p) (h1 : p ≤ 1000000) : ∃ v, pspec_l30Rd__pick ⟨b, p⟩ n = some (v, ⟨b, p + 1⟩) ∧ 0 ≤ v ∧ (0 < n → v < n) := by
  unfold pspec_l30Rd__pick
  have e1 : w64 (p + 1) = p + 1 := w64_id (by omega) (by omega)
  have e2 : w64 (p + 1 - 1) = p := by rw [w64_id (by omega) (by omega)]; omega
  simp only [e1, e2]
  by_cases hn : n < 1
  · simp only [hn, decide_true, if_true, Option.bind_some]
    exact ⟨0, rfl, by omega, by omega⟩
  by_cases hl : b.length = 0
  · simp only [hn, hl, decide_false, Bool.false_eq_true, if_false, Option.bind_some, Int.natCast_zero, decide_true, if_true]
    exact ⟨0, rfl, by omega, by omega⟩
  have hbl : ¬ ((b.length : Int) = 0) := by omega
  have hn0 : ¬ n = 0 := by omega
  simp only [hn, hbl, decide_false, Bool.false_eq_true, if_false, Option.bind_some]
  by_cases hk : p < (b.length : Int)
  · obtain ⟨x, hx, _⟩ := getI_in (xs := b) h0 hk
    simp only [hk, decide_true, if_true, hx, Option.bind_some, remM, hn0, if_false]
    have := tmod_in (a := ((x.toNat : Nat) : Int)) (n := n) (by omega) (by omega)
    exact ⟨_, rfl, this.1, fun _ => this.2⟩
  · have hpl : (0 : Int) < (b.length : Int) := by omega
    have e3 : w64 (w64 (p * 7) + 3) = p * 7 + 3 := by rw [w64_id (n := p * 7) (by omega) (by omega), w64_id (by omega) (by omega)]
    obtain ⟨x, hx, _⟩ := getI_in (xs := b) (tmod_in h0 hpl).1 (tmod_in h0 hpl).2
    obtain ⟨y, hy, _⟩ := getI_in (xs := b) (tmod_in (a := p * 7 + 3) (by omega) hpl).1 (tmod_in (a := p * 7 + 3) (by omega) hpl).2
    have hd : 0 ≤ p.tdiv (b.length : Int) ∧ p.tdiv (b.length : Int) ≤ p := ⟨Int.tdiv_nonneg h0 (by omega), Int.tdiv_le_self _ h0⟩
    have e4 : w64 (p.tdiv (b.length : Int)) = p.tdiv (b.length : Int) := w64_id (by omega) (by omega)
    have hx8 : (x.toNat : Int) < 256 := by have := x.toNat_lt; omega
    have hy8 : (y.toNat : Int) < 256 := by have := y.toNat_lt; omega
    have hz : ∃ z : Int, w64 (w64 (w64 (w64 ((x.toNat : Int) * 131) + w64 ((y.toNat : Int) * 1117)) + w64 (p * 29)) + w64 (p.tdiv (b.length : Int) * 53)) = z ∧ 0 ≤ z ∧ z < 1073741824 := by
      refine ⟨_, rfl, ?_⟩
      rw [w64_id (n := (x.toNat : Int) * 131) (by omega) (by omega), w64_id (n := (y.toNat : Int) * 1117) (by omega) (by omega), w64_id (n := p * 29) (by omega) (by omega),
        w64_id (n := p.tdiv (b.length : Int) * 53) (by omega) (by omega), w64_id (n := (x.toNat : Int) * 131 + (y.toNat : Int) * 1117) (by omega) (by omega),
        w64_id (n := (x.toNat : Int) * 131 + (y.toNat : Int) * 1117 + p * 29) (by omega) (by omega), w64_id (by omega) (by omega)]
      omega
    obtain ⟨z, hz, hz0, hz1⟩ := hz
    have hq : 0 ≤ z.tdiv 64 ∧ z.tdiv 64 ≤ z := ⟨Int.tdiv_nonneg hz0 (by omega), Int.tdiv_le_self _ hz0⟩
    have e5 : w64 (z.tdiv 64) = z.tdiv 64 := w64_id (by omega) (by omega)
    simp only [hk, decide_false, Bool.false_eq_true, if_false, remM, quoM, hbl, hn0, Option.bind_some, e3, hx, hy, e4, hz, e5]
    have := tmod_in (xor_nn z (z.tdiv 64) ⟨hz0, hz1⟩ ⟨hq.1, by omega⟩) (show 0 < n by omega)
    exact ⟨_, rfl, this.1, fun _ => this.2⟩
theorem num_ok (b : List UInt8) (hb : b.length ≤ 2000) (p : Int) (l : List Int) (hl : 0 < l.length) (h0 : 0 ≤ p) (h1 : p ≤ 1000000) : ∃ v, pspec_l30Rd__num ⟨b, p⟩ l = some (v, ⟨b, p + 1⟩) ∧ v ∈ l := by
  obtain ⟨v, h2, h3, h4⟩ := pick_ok b hb p (l.length : Int) h0 h1
  obtain ⟨x, hx, _, hm⟩ := getI_in (xs := l) h3 (h4 (by omega))
  exact ⟨x, bindt h2 (bindt hx rfl), hm⟩
section
variable {b : List UInt8} (hb : b.length ≤ 2000) {p : Int} {B : Type} {Q : B → Prop}
theorem pk {n : Int} {f : Int × l30Rd → Option B} (hb : b.length ≤ 2000) (h0 : 0 ≤ p) (h1 : p ≤ 1000000) (k : ∀ v, 0 ≤ v → (0 < n → v < n) → Dr (f (v, ⟨b, p + 1⟩)) Q) : Dr (Option.bind (pspec_l30Rd__pick ⟨b, p⟩ n) f) Q := by
  obtain ⟨v, h2, h3, h4⟩ := pick_ok b hb p n h0 h1
  obtain ⟨c, h5, h6⟩ := k v h3 h4
  exact ⟨c, bindt h2 h5, h6⟩
theorem nm {l : List Int} {f : Int × l30Rd → Option B} (hb : b.length ≤ 2000) (hl : 0 < l.length) (h0 : 0 ≤ p) (h1 : p ≤ 1000000) (k : ∀ v, v ∈ l → Dr (f (v, ⟨b, p + 1⟩)) Q) : Dr (Option.bind (pspec_l30Rd__num ⟨b, p⟩ l) f) Q := by
  obtain ⟨v, h2, h3⟩ := num_ok b hb p l hl h0 h1
  obtain ⟨c, h5, h6⟩ := k v h3
  exact ⟨c, bindt h2 h5, h6⟩
theorem gtx {A : Type} {xs : List A} {i : Int} {f : A → Option B} (h0 : 0 ≤ i) (h1 : i < (xs.length : Int)) (k : ∀ x, x ∈ xs → Dr (f x) Q) : Dr (Option.bind (getI xs i) f) Q := Dr.bind (Dr.get h0 h1) k
theorem ap {A : Type} {xs ys : List A} {f : List A → Option B} (h : xs.length + ys.length ≤ 2147483648) (k : Dr (f (xs ++ ys)) Q) : Dr (Option.bind (appM xs ys) f) Q := Dr.bind (Dr.app h) fun _ e => by subst e; exact k
def DrA {A : Type} (o : Option (A × l30Rd)) (b : List UInt8) (lo hi : Int) (P : A → Prop) : Prop := Dr o (fun r => (r.2.b = b ∧ lo ≤ r.2.p ∧ r.2.p ≤ hi) ∧ P r.1)
theorem DrA.bind {A : Type} {o : Option (A × l30Rd)} {lo hi : Int} {P : A → Prop} {f : A × l30Rd → Option B} (h : DrA o b lo hi P) (k : ∀ v q, lo ≤ q → q ≤ hi → P v → Dr (f (v, ⟨b, q⟩)) Q) : Dr (Option.bind o f) Q := by
  obtain ⟨⟨v, ⟨b', q⟩⟩, h1, ⟨h2, h3, h4⟩, h5⟩ := h
  simp only at h2 h3 h4 h5
  subst h2
  obtain ⟨c, h6, h7⟩ := k v q h3 h4 h5
  exact ⟨c, bindt h1 h6, h7⟩
theorem DrA.some {A : Type} {v : A} {q lo hi : Int} {P : A → Prop} (h1 : lo ≤ q) (h2 : q ≤ hi) (h3 : P v) : DrA (some (v, (⟨b, q⟩ : l30Rd))) b lo hi P := ⟨_, rfl, ⟨rfl, h1, h2⟩, h3⟩
end
theorem open_ok (code : List UInt8) : ∃ b, spec_l30Open code = Option.some ⟨b, 0⟩ ∧ b.length ≤ 2000 := by
  unfold spec_l30Open
  by_cases h : (2000 : Int) < (code.length : Int)
  · simp only [h, decide_true, if_true]
    have : subM code 0 2000 = Option.some (code.take 2000) := by
      unfold subM
      rw [if_pos (by omega)]
      simp
    rw [this]
    exact ⟨_, rfl, by rw [List.length_take]; omega⟩
  · simp only [h, decide_false, Bool.false_eq_true, if_false, Option.bind_some]
    exact ⟨_, rfl, by omega⟩
theorem DrF {A : Type} {b : List UInt8} {lo hi : Int} {P : A → Prop} {r : A × l30Rd} (h1 : r.2.b = b) (h2 : lo ≤ r.2.p) (h3 : r.2.p ≤ hi) (h4 : P r.1) : Dr (some r) (fun r => (r.2.b = b ∧ lo ≤ r.2.p ∧ r.2.p ≤ hi) ∧ P r.1) := ⟨r, rfl, ⟨h1, h2, h3⟩, h4⟩
theorem form_mono : ∀ {d : Nat} {e : Expr_}, formE d e = true → formE (d + 1) e = true
  | 0, e, h => by rw [formE] at h; cases h
  | d + 1, e, h => by
    obtain ⟨h1, h2⟩ := form_kids h
    rw [formE, Bool.and_eq_true, List.all_eq_true]
    exact ⟨h1, fun k hk => form_mono (h2 k hk)⟩
theorem form_le {d e2 : Nat} {e : Expr_} (h : d ≤ e2) (hf : formE d e = true) : formE e2 e = true := by
  obtain ⟨k, rfl⟩ : ∃ k, e2 = d + k := ⟨e2 - d, by omega⟩
  clear h
  induction k with
  | zero => exact hf
  | succ k ih => exact form_mono ih
theorem leaf_num {n : Int} (h : 0 ≤ n ∧ n ≤ 255) : formE 1 ⟨1, n, mkS [], []⟩ = true ∧ partsE ⟨1, n, mkS [], []⟩ = 1 := by
  constructor
  · rw [formE]
    have : inB n 0 255 = true := inB_iff.2 h
    simp [headB, kidsI, inB_iff, h]
  · rw [partsE_eq]; show 1 + partsL [] = 1; rw [partsL_nil]
theorem leaf_name {s : Str} (h : nameB s = true) : formE 1 ⟨2, 0, s, []⟩ = true ∧ partsE ⟨2, 0, s, []⟩ = 1 := by
  constructor
  · rw [formE]
    simp [headB, kidsI, inB_iff, h]
  · rw [partsE_eq]; show 1 + partsL [] = 1; rw [partsL_nil]
theorem of_ok (b : List UInt8) (hb : b.length ≤ 2000) (p : Int) (l : List Str) (hl : 0 < l.length) (h0 : 0 ≤ p) (h1 : p ≤ 1000000) : ∃ v, pspec_l30Rd__of ⟨b, p⟩ l = some (v, ⟨b, p + 1⟩) ∧ v ∈ l := by
  obtain ⟨v, h2, h3, h4⟩ := pick_ok b hb p (l.length : Int) h0 h1
  obtain ⟨x, hx, _, hm⟩ := getI_in (xs := l) h3 (h4 (by omega))
  exact ⟨x, bindt h2 (bindt hx rfl), hm⟩
theorem ofx {b : List UInt8} {p : Int} {B : Type} {Q : B → Prop} {l : List Str} {f : Str × l30Rd → Option B} (hb : b.length ≤ 2000) (hl : 0 < l.length) (h0 : 0 ≤ p) (h1 : p ≤ 1000000) (k : ∀ v, v ∈ l → Dr (f (v, ⟨b, p + 1⟩)) Q) : Dr (Option.bind (pspec_l30Rd__of ⟨b, p⟩ l) f) Q := by
  obtain ⟨v, h2, h3⟩ := of_ok b hb p l hl h0 h1
  obtain ⟨c, h5, h6⟩ := k v h3
  exact ⟨c, bindt h2 h5, h6⟩
theorem leaf_dr {b : List UInt8} (hb : b.length ≤ 2000) {p : Int} (h0 : 0 ≤ p) (h1 : p ≤ 900000) {names : List Str} (hn : ∀ s ∈ names, nameB s = true) : DrA (spec_l2Leaf ⟨b, p⟩ names) b p (p + 2) (fun e => formE 1 e = true ∧ partsE e = 1) := by
  unfold spec_l2Leaf
  have rest : ∀ (q : Int) (c : Bool), p ≤ q → q ≤ p + 1 → (c = false → names ≠ []) → DrA (if c then Option.bind (pspec_l30Rd__num (⟨b, q⟩ : l30Rd) ([0, 1, 2, 3, 5, 7, 15, 16, 100, 255] : List Int)) fun r0_1 => some ((⟨1, r0_1.1, (mkS []), []⟩ : Expr_), (⟨b, r0_1.2.p⟩ : l30Rd)) else Option.bind (pspec_l30Rd__of (⟨b, q⟩ : l30Rd) names) fun r0_2 => some ((⟨2, 0, r0_2.1, []⟩ : Expr_), (⟨b, r0_2.2.p⟩ : l30Rd))) b p (p + 2) (fun e => formE 1 e = true ∧ partsE e = 1) := by
    intro q c hq1 hq2 hc
    cases c with
    | true =>
      refine nm hb (by decide) (by omega) (by omega) fun v hv => DrF (lo := p) (hi := p + 2) (P := fun e => formE 1 e = true ∧ partsE e = 1) rfl (by dsimp only; omega) (by dsimp only; omega) (leaf_num (n := v) ?_)
      simp only [List.mem_cons, List.not_mem_nil, or_false] at hv
      omega
    | false =>
      exact ofx hb (List.length_pos_iff.2 (hc rfl)) (by omega) (by omega) fun v hv => DrF (lo := p) (hi := p + 2) (P := fun e => formE 1 e = true ∧ partsE e = 1) rfl (by dsimp only; omega) (by dsimp only; omega) (leaf_name (hn v hv))
  by_cases hz : names = []
  · subst hz
    exact rest p true (by omega) (by omega) (fun h => by cases h)
  · have e0 : decide ((names.length : Int) = 0) = false := by have := List.length_pos_iff.2 hz; simp; omega
    rw [e0]
    refine Dr.bind (P := fun s => p ≤ s.1 ∧ s.1 ≤ p + 1) ?_ fun s hs => rest s.1 s.2 hs.1 hs.2 fun _ => hz
    exact pk hb (by omega) (by omega) fun v g1 g2 => Dr.some ⟨by dsimp only; omega, by dsimp only; omega⟩
theorem op1_form {op : Int} {d : Nat} {a : Expr_} (h : op = 11 ∨ op = 12) (ha : formE d a = true) : formE (d + 1) ⟨op, 0, mkS [], [a]⟩ = true := by
  rw [formE]
  rcases h with rfl | rfl <;> simp [headB, kidsI, inB_iff, ha]
theorem op2_form {op : Int} {d : Nat} {a c : Expr_} (h : 3 ≤ op ∧ op ≤ 10) (ha : formE d a = true) (hc : formE d c = true) : formE (d + 1) ⟨op, 0, mkS [], [a, c]⟩ = true := by
  have : op = 3 ∨ op = 4 ∨ op = 5 ∨ op = 6 ∨ op = 7 ∨ op = 8 ∨ op = 9 ∨ op = 10 := by omega
  rw [formE]
  rcases this with rfl | rfl | rfl | rfl | rfl | rfl | rfl | rfl <;> simp [headB, kidsI, inB_iff, ha, hc]
theorem parts_1 (op n : Int) (s : Str) (a : Expr_) : partsE ⟨op, n, s, [a]⟩ = 1 + partsE a := by rw [partsE_eq]; show 1 + partsL [a] = _; rw [partsL_cons, partsL_nil]; omega
theorem parts_2 (op n : Int) (s : Str) (a c : Expr_) : partsE ⟨op, n, s, [a, c]⟩ = 1 + partsE a + partsE c := by rw [partsE_eq]; show 1 + partsL [a, c] = _; rw [partsL_cons, partsL_cons, partsL_nil]; omega
theorem expr_dr {b : List UInt8} (hb : b.length ≤ 2000) {names : List Str} (hn : ∀ s ∈ names, nameB s = true) : ∀ (d : Nat) (p : Int), d ≤ 7 → 0 ≤ p → p + 4 ^ (d + 1) ≤ 900000 → DrA (spec_l2Expr ⟨b, p⟩ names ((d + 1 : Nat) : Int)) b p (p + 4 ^ (d + 1)) (fun e => formE (d + 1) e = true ∧ partsE e + 1 ≤ 2 ^ (d + 1)) := by
  intro d
  induction d with
  | zero =>
    intro p hd h0 h1
    rw [spec_l2Expr]
    have e1 : decide (((0 + 1 : Nat) : Int) < 2) = true := rfl
    rw [e1]
    simp only [if_true, Option.bind_some]
    exact DrA.bind (leaf_dr hb h0 (by simp at h1; omega) hn) fun v q g1 g2 g3 => DrF (lo := p) (hi := p + 4 ^ (0 + 1)) (P := fun e => formE (0 + 1) e = true ∧ partsE e + 1 ≤ 2 ^ (0 + 1)) rfl (by dsimp only; omega) (by dsimp only; simp; omega) ⟨g3.1, by rw [g3.2]; decide⟩
  | succ d ih =>
    intro p hd h0 h1
    have hpow : (4 : Int) ^ (d + 1 + 1) = 4 * 4 ^ (d + 1) := by rw [Int.pow_succ]; omega
    have hpow2 : (2 : Nat) ^ (d + 1 + 1) = 2 * 2 ^ (d + 1) := by rw [Nat.pow_succ]; omega
    have hp1 : (4 : Int) ≤ 4 ^ (d + 1) := by
      have : (4 : Int) ^ (d + 1) = ((4 ^ (d + 1) : Nat) : Int) := by push_cast; rfl
      rw [this]
      have : 4 ^ 1 ≤ 4 ^ (d + 1) := Nat.pow_le_pow_right (by decide) (by omega)
      omega
    have hp2 : 2 ≤ 2 ^ (d + 1) := by
      have : 2 ^ 1 ≤ 2 ^ (d + 1) := Nat.pow_le_pow_right (by decide) (by omega)
      omega
    rw [hpow] at h1 ⊢
    rw [hpow2]
    generalize hP : (4 : Int) ^ (d + 1) = P at *
    rw [spec_l2Expr]
    have e1 : decide (((d + 1 + 1 : Nat) : Int) < 2) = false := by simp; omega
    have ew : w64 (((d + 1 + 1 : Nat) : Int) - 1) = ((d + 1 : Nat) : Int) := by rw [w64_id (by omega) (by omega)]; omega
    rw [e1]
    simp only [Bool.false_eq_true, if_false, ew]
    refine Dr.bind (P := fun s => s.1 = p + 1) (pk hb h0 (by omega) fun v _ _ => Dr.some rfl) fun s hs => ?_
    refine Dr.ite (fun _ => ?_) (fun _ => ?_)
    · rw [hs]
      exact DrA.bind (leaf_dr hb (by omega) (by omega) hn) fun v q g1 g2 g3 => DrF (lo := p) (hi := p + 4 * P) (P := fun e => formE (d + 1 + 1) e = true ∧ partsE e + 1 ≤ 2 * 2 ^ (d + 1)) rfl (by dsimp only; omega) (by dsimp only; omega) ⟨form_le (by omega) g3.1, by rw [g3.2]; omega⟩
    rw [hs]
    refine pk hb (by omega) (by omega) fun v _ _ => ?_
    dsimp only
    refine Dr.ite (fun _ => ?_) (fun _ => ?_)
    · refine nm hb (by decide) (by omega) (by omega) fun op hop => ?_
      dsimp only
      have hop2 : op = 11 ∨ op = 12 := by
        simp only [List.mem_cons, List.not_mem_nil, or_false] at hop
        omega
      refine DrA.bind (ih (p + 1 + 1 + 1) (by omega) (by omega) (by omega)) fun e q g1 g2 g3 => DrF (lo := p) (hi := p + 4 * P) (P := fun e => formE (d + 1 + 1) e = true ∧ partsE e + 1 ≤ 2 * 2 ^ (d + 1)) rfl (by dsimp only; omega) (by dsimp only; omega) ⟨op1_form hop2 g3.1, by rw [parts_1]; dsimp only; omega⟩
    · refine nm hb (by decide) (by omega) (by omega) fun op hop => ?_
      dsimp only
      have hop2 : 3 ≤ op ∧ op ≤ 10 := by
        simp only [List.mem_cons, List.not_mem_nil, or_false] at hop
        omega
      refine DrA.bind (ih (p + 1 + 1 + 1) (by omega) (by omega) (by omega)) fun e q g1 g2 g3 => ?_
      dsimp only
      refine DrA.bind (ih q (by omega) (by omega) (by omega)) fun e2 q2 k1 k2 k3 => DrF (lo := p) (hi := p + 4 * P) (P := fun e => formE (d + 1 + 1) e = true ∧ partsE e + 1 ≤ 2 * 2 ^ (d + 1)) rfl (by dsimp only; omega) (by dsimp only; omega) ⟨op2_form hop2 g3.1 k3.1, by rw [parts_2]; dsimp only; omega⟩
end Prg
end Go.Wk
namespace Go.Wk
open Go
namespace Prg
set_option maxRecDepth 10000
theorem names4 : ∀ s ∈ ([(mkS [97]), (mkS [98]), (mkS [120]), (mkS [103, 111])] : List Str), nameB s = true := by
  intro s hs
  simp only [List.mem_cons, List.not_mem_nil, or_false] at hs
  rcases hs with rfl | rfl | rfl | rfl <;> rfl
theorem names2 : ∀ s ∈ ([(mkS [97]), (mkS [98])] : List Str), nameB s = true := by
  intro s hs
  simp only [List.mem_cons, List.not_mem_nil, or_false] at hs
  rcases hs with rfl | rfl <;> rfl
theorem names3 : ∀ s ∈ ([(mkS [102]), (mkS [103]), (mkS [97])] : List Str), nameB s = true := by
  intro s hs
  simp only [List.mem_cons, List.not_mem_nil, or_false] at hs
  rcases hs with rfl | rfl | rfl <;> rfl
theorem call_form {s : Str} (hs : nameB s = true) {d : Nat} {ks : List Expr_} (hl : ks.length ≤ 3) (h : ∀ k ∈ ks, formE d k = true) : formE (d + 1) ⟨13, 0, s, ks⟩ = true := by
  rw [formE, Bool.and_eq_true, List.all_eq_true]
  refine ⟨?_, h⟩
  have : (ks.length : Int) ≤ 3 := by omega
  simp [headB, kidsI, inB_iff, hs, this]
theorem any_dr {b : List UInt8} (hb : b.length ≤ 2000) {p : Int} (h0 : 0 ≤ p) (h1 : p ≤ 800000) {d : Nat} (hd : 2 ≤ d) (hd7 : d ≤ 6) : DrA (spec_l2Any ⟨b, p⟩ ((d + 1 : Nat) : Int)) b p (p + 20000) (fun e => formE (d + 2) e = true ∧ partsE e ≤ 2 ^ (d + 1) + 10 ∧ e.kids.length ≤ 3) := by
  have hk3 : ∀ {e : Expr_} {n : Nat}, formE n e = true → e.kids.length ≤ 3 := by
    intro e n h
    cases n with
    | zero => rw [formE] at h; cases h
    | succ n => exact head_kids (form_kids h).1
  have hpow : (4 : Int) ^ (d + 1) ≤ 16384 := by
    have h1 : (4 : Int) ^ (d + 1) = ((4 ^ (d + 1) : Nat) : Int) := by push_cast; rfl
    rw [h1]
    have : 4 ^ (d + 1) ≤ 4 ^ 7 := Nat.pow_le_pow_right (by decide) (by omega)
    have e7 : (4 : Nat) ^ 7 = 16384 := by decide
    omega
  unfold spec_l2Any
  refine DrA.bind (expr_dr hb names4 d p (by omega) h0 (by omega)) fun e q g1 g2 g3 => ?_
  dsimp only
  refine pk hb (by omega) (by omega) fun v _ _ => ?_
  dsimp only
  refine Dr.ite (fun _ => DrF (lo := p) (hi := p + 20000) (P := fun e => formE (d + 2) e = true ∧ partsE e ≤ 2 ^ (d + 1) + 10 ∧ e.kids.length ≤ 3) rfl (by dsimp only; omega) (by dsimp only; omega) ⟨form_mono g3.1, by dsimp only; omega, hk3 g3.1⟩) fun _ => ?_
  refine ofx hb (by decide) (by omega) (by omega) fun nmv hnm => ?_
  dsimp only
  have hnv := names3 nmv hnm
  refine pk hb (by omega) (by omega) fun m hm0 hm1 => ?_
  dsimp only
  have hm4 := hm1 (by decide)
  refine Dr.bind (P := fun s : Int × List Expr_ => q ≤ s.1 ∧ s.1 ≤ q + 3 + 48 ∧ s.2.length ≤ 3 ∧ (∀ k ∈ s.2, formE 2 k = true) ∧ partsL s.2 ≤ 9) ?_ fun s hs => ?_
  · refine Dr.bind (P := fun s : Int × List Expr_ => q ≤ s.1 ∧ s.1 ≤ q + 3 + 48 ∧ s.2.length ≤ 3 ∧ (∀ k ∈ s.2, formE 2 k = true) ∧ partsL s.2 ≤ 9) ?_ fun s hs => Dr.some hs
    refine Dr.loop (I := fun s : Int × List Expr_ × Int => q ≤ s.1 ∧ s.1 + 16 * s.2.2 ≤ q + 3 + 48 ∧ 0 ≤ s.2.2 ∧ (s.2.1.length : Int) + s.2.2 ≤ 3 ∧ (∀ k ∈ s.2.1, formE 2 k = true) ∧ partsL s.2.1 ≤ 3 * s.2.1.length) (fun s => s.2.2.toNat) ⟨by dsimp only; omega, by dsimp only; omega, hm0, by simp; omega, fun k hk => by simp at hk, by rw [partsL_nil]; simp⟩ ?_
    rintro ⟨p1, ks, n⟩ ⟨i1, i2, i3, i4, i5, i6⟩
    dsimp only at i1 i2 i3 i4 i5 i6 ⊢
    by_cases hn : 0 < n
    · rw [if_pos (by simpa using hn)]
      have hx := expr_dr hb names2 1 p1 (by omega) (by omega) (by simp; omega)
      refine DrA.bind hx fun x q2 k1 k2 k3 => ?_
      refine ap (by simp; omega) ?_
      have hw : w64 (n - 1) = n - 1 := w64_id (by omega) (by omega)
      rw [hw]
      refine Dr.some (And.intro (fun t ht => ?_) fun t ht => by cases ht)
      simp only [Sum.inl.injEq] at ht
      subst ht
      have h16 : (4 : Int) ^ (1 + 1) = 16 := by decide
      have h4 : 2 ^ (1 + 1) = 4 := by decide
      rw [h16] at k2
      rw [h4] at k3
      dsimp only
      refine ⟨⟨by omega, by omega, by omega, by simp; omega, fun k hk => ?_, ?_⟩, by omega⟩
      · rcases List.mem_append.1 hk with h | h
        · exact i5 k h
        · simp at h; subst h; exact k3.1
      · rw [partsL_app, partsL_cons, partsL_nil]; simp; omega
    · rw [if_neg (by simpa using hn)]
      refine Dr.some (And.intro (fun t ht => by cases ht) fun t ht => ?_)
      simp only [Sum.inr.injEq] at ht
      subst ht
      exact ⟨i1, by dsimp only; omega, by dsimp only; omega, i5, by dsimp only; omega⟩
  obtain ⟨j1, j2, j3, j4, j5⟩ := hs
  refine pk hb (by omega) (by omega) fun v2 _ _ => ?_
  dsimp only
  have hcf := call_form hnv j3 j4
  have hcp : partsE ⟨13, 0, nmv, s.2⟩ ≤ 10 := by rw [partsE_eq]; show 1 + partsL s.2 ≤ 10; omega
  have h2d : 8 ≤ 2 ^ (d + 1) := by
    have : 2 ^ 3 ≤ 2 ^ (d + 1) := Nat.pow_le_pow_right (by decide) (by omega)
    omega
  refine Dr.ite (fun _ => DrF (lo := p) (hi := p + 20000) (P := fun e => formE (d + 2) e = true ∧ partsE e ≤ 2 ^ (d + 1) + 10 ∧ e.kids.length ≤ 3) rfl (by dsimp only; omega) (by dsimp only; omega) ⟨form_le (by omega) hcf, by dsimp only; omega, j3⟩) fun _ => DrF (lo := p) (hi := p + 20000) (P := fun e => formE (d + 2) e = true ∧ partsE e ≤ 2 ^ (d + 1) + 10 ∧ e.kids.length ≤ 3) rfl (by dsimp only; omega) (by dsimp only; omega) ⟨op2_form (by omega) g3.1 (form_le (by omega) hcf), by rw [parts_2]; omega, by simp⟩
end Prg
end Go.Wk
namespace Go.Wk
open Go
namespace Prg
set_option maxRecDepth 10000
theorem bent_dr {b : List UInt8} (hb : b.length ≤ 2000) {p : Int} (h0 : 0 ≤ p) (h1 : p ≤ 500000) : Dr (spec_l2Bent ⟨b, p⟩) (fun _ => True) := by
  unfold spec_l2Bent
  have ha := any_dr hb h0 (by omega) (d := 3) (by omega) (by omega)
  refine DrA.bind (f := fun r0_1 => _) ha fun e q g1 g2 g3 => ?_
  dsimp only
  refine pk hb (by omega) (by omega) fun v _ _ => ?_
  dsimp only
  refine Dr.bind (P := fun _ => True) ?_ fun s _ => Dr.some trivial
  refine Dr.bind (P := fun _ => True) ?_ fun s _ => Dr.some trivial
  refine Dr.ite (fun _ => nm hb (by decide) (by omega) (by omega) fun n _ => Dr.some trivial) fun _ => ?_
  refine Dr.bind (P := fun _ => True) ?_ fun s _ => Dr.some trivial
  refine Dr.ite (fun _ => ofx hb (by decide) (by omega) (by omega) fun n _ => Dr.some trivial) fun _ => ?_
  refine Dr.bind (P := fun _ => True) ?_ fun s _ => Dr.some trivial
  refine Dr.ite (fun _ => nm hb (by decide) (by omega) (by omega) fun n _ => Dr.some trivial) fun _ => ?_
  refine Dr.bind (P := fun _ => True) ?_ fun s _ => Dr.some trivial
  refine Dr.ite (fun _ => ?_) fun _ => ?_
  · refine DrA.bind (leaf_dr hb (by omega) (by omega) (names := []) (fun s hs => by cases hs)) fun x q2 k1 k2 k3 => ?_
    exact ap (by have := g3.2.2; simp; omega) (Dr.some trivial)
  refine Dr.bind (P := fun _ => True) ?_ fun s _ => Dr.some trivial
  refine Dr.ite (fun _ => ?_) fun _ => Dr.some trivial
  exact DrA.bind (any_dr hb (p := q + 1) (by omega) (by omega) (d := 6) (by omega) (by omega)) fun x q2 k1 k2 k3 => Dr.some trivial
end Prg
end Go.Wk
namespace Go.Wk
open Go
namespace Prg
set_option maxRecDepth 10000
theorem run_sgn {c : UInt8} (h : c ∈ sgnL) : ∀ x, runP c x = false := by
  intro x
  have key : ∀ c ∈ sgnL, letB c = false ∧ digB c = false := by decide
  unfold runP
  rw [(key c h).1, (key c h).2]; rfl
theorem take_f {p : UInt8 → Bool} (h : ∀ x, p x = false) (l : List UInt8) : l.takeWhile p = [] ∧ l.dropWhile p = l := by
  cases l with
  | nil => exact ⟨rfl, rfl⟩
  | cons a l => rw [List.takeWhile_cons, List.dropWhile_cons, h a]; exact ⟨rfl, rfl⟩
theorem tok_open (l : List UInt8) : tok (40 :: l) = (tok l).map (pL :: ·) := by
  have h := take_f (run_sgn (c := 40) (by decide)) l
  rw [tok_cons, if_neg (by decide), h.1, h.2]
  have : mkWd 40 [] = pL := by
    have := word_run (w := pL) rfl
    obtain ⟨c, l, h1, _, _, h4, _⟩ := this
    have h1 : ([40] : List UInt8) = c :: l := h1
    cases h1
    exact h4
  rw [this, if_pos (show wordB pL = true from rfl)]
theorem take_mid {p : UInt8 → Bool} {b : UInt8} (hb : p b = false) (q : List UInt8) : ∀ r : List UInt8, (r ++ b :: q).takeWhile p = r.takeWhile p ∧ (r ++ b :: q).dropWhile p = r.dropWhile p ++ b :: q
  | [] => by
    rw [List.nil_append, List.takeWhile_cons, List.dropWhile_cons, hb]
    exact ⟨rfl, rfl⟩
  | a :: r => by
    have ih := take_mid hb q r
    rw [List.cons_append, List.takeWhile_cons, List.dropWhile_cons, List.takeWhile_cons, List.dropWhile_cons]
    cases p a with
    | true => simp only [if_true]; rw [ih.1, ih.2]; exact ⟨rfl, rfl⟩
    | false => exact ⟨rfl, rfl⟩
theorem tok_mid {c : UInt8} (hc : c ∈ sgnL) (q : List UInt8) : ∀ (k : Nat) (l : List UInt8), l.length ≤ k → tok (l ++ c :: q) = (tok l).bind fun a => (tok q).map fun b => a ++ ⟨3, toS [c]⟩ :: b := by
  have hw : mkWd c [] = ⟨3, toS [c]⟩ ∧ wordB (⟨3, toS [c]⟩ : Word_) = true ∧ blkB c = false := by
    have key : ∀ c ∈ sgnL, mkWd c [] = ⟨3, toS [c]⟩ ∧ wordB (⟨3, toS [c]⟩ : Word_) = true ∧ blkB c = false := by decide
    exact key c hc
  have h0 : tok (c :: q) = (tok q).map fun b => ⟨3, toS [c]⟩ :: b := by
    have hf := take_f (run_sgn hc) q
    rw [tok_cons, if_neg (by rw [hw.2.2]; simp), hf.1, hf.2, hw.1, if_pos hw.2.1]
  have hrun : ∀ d : UInt8, runP d c = false := by
    have key : ∀ c ∈ sgnL, letB c = false ∧ digB c = false := by decide
    intro d
    unfold runP
    rw [(key c hc).1, (key c hc).2]
    cases letB d <;> cases digB d <;> rfl
  intro k
  induction k with
  | zero =>
    intro l hl
    have : l = [] := List.eq_nil_of_length_eq_zero (by omega)
    subst this
    rw [List.nil_append, tok_nil, Option.bind_some, h0]; rfl
  | succ k ih =>
    intro l hl
    cases l with
    | nil => rw [List.nil_append, tok_nil, Option.bind_some, h0]; rfl
    | cons d r =>
      simp at hl
      have ht := take_mid (hrun d) q r
      rw [List.cons_append, tok_cons, tok_cons, ht.1, ht.2]
      by_cases h1 : blkB d = true
      · rw [if_pos h1, if_pos h1]; exact ih r hl
      rw [if_neg h1, if_neg h1]
      by_cases h2 : wordB (mkWd d (r.takeWhile (runP d))) = true
      · rw [if_pos h2, if_pos h2, ih _ (Nat.le_trans (drop_le _ _) hl)]
        cases tok (r.dropWhile (runP d)) with
        | none => rfl
        | some a => cases tok q <;> rfl
      · rw [if_neg h2, if_neg h2]; rfl
theorem cut_of {s : Str} {ws : List Word_} (h1 : s.b.length ≤ 3000) (h2 : tok s.b = some ws) (h3 : ws.length ≤ 600) : cutR s = some ws := by
  unfold cutR
  rw [if_pos h1, h2]
  simp [h3]
end Prg
end Go.Wk
namespace Go.Wk
open Go
namespace Prg
set_option maxRecDepth 10000
open Classical in
noncomputable def eqB {α : Type} (a b : α) : Bool := decide (a = b)
theorem eqB_self {α : Type} (a : α) : eqB a a = true := by simp [eqB]
theorem eqB_ne {α : Type} {a b : α} (h : a ≠ b) : eqB a b = false := by simp [eqB, h]
theorem zip_any {α : Type} {a b : List α} (hl : a.length = b.length) : (a.zip b).any (fun p => !eqB p.1 p.2) = !eqB a b := by
  induction a generalizing b with
  | nil =>
    cases b with
    | nil => simp [eqB_self]
    | cons y b => simp at hl
  | cons x a ih =>
    cases b with
    | nil => simp at hl
    | cons y b =>
      simp at hl
      rw [List.zip_cons_cons, List.any_cons, ih hl]
      by_cases h1 : x = y
      · by_cases h2 : a = b
        · subst h1; subst h2; simp [eqB_self]
        · rw [eqB_ne h2, eqB_ne (fun h => h2 (List.cons.inj h).2)]; simp
      · rw [eqB_ne h1, eqB_ne (fun h => h1 (List.cons.inj h).1)]; simp
theorem zip_loop {α : Type} {a b : List α} {f : α → α → Option Bool} (hl : a.length = b.length) (hf : ∀ x ∈ a, ∀ y, f x y = some (eqB x y)) :
    forN (S := Unit) (X := Bool) (fun i _ => Option.bind (getI a i) fun x => Option.bind (getI b i) fun y => Option.bind (f x y) fun r => if !r then some (.inr false) else some (.inl ())) ((a.length : Int) - 0).toNat 0 () = if eqB a b then some (.inl ()) else some (.inr false) := by
  have hz : a.length = (a.zip b).length := by rw [List.length_zip]; omega
  rw [hz, forN_any (xs := a.zip b) (fun p => !eqB p.1 p.2) false (fun l p r he => by
    have hg : (a.zip b)[l.length]? = some p := by rw [he]; simp
    rw [List.getElem?_zip_eq_some] at hg
    rw [getI_nat, hg.1, Option.bind_some, getI_nat, hg.2, Option.bind_some, hf p.1 (List.mem_of_getElem? hg.1), Option.bind_some]), zip_any hl]
  cases eqB a b <;> rfl
theorem same_kids {e f : Expr_} : eqB e f = (decide (e.op = f.op) && (decide (e.n_ = f.n_) && (decide (e.name = f.name) && eqB e.kids f.kids))) := by
  by_cases h : e = f
  · subst h; simp [eqB_self]
  · rw [eqB_ne h]
    by_cases h1 : e.op = f.op
    · by_cases h2 : e.n_ = f.n_
      · by_cases h3 : e.name = f.name
        · by_cases h4 : e.kids = f.kids
          · exfalso; apply h; rw [← mk_eta e, ← mk_eta f, h1, h2, h3, h4]
          · rw [eqB_ne h4]; simp
        · simp [h3]
      · simp [h2]
    · simp [h1]
theorem sameI : ∀ a b : Expr_, impl_SameExpr a b = some (eqB a b) := by
  intro a
  induction a using exprInd with
  | h a ih =>
    intro b
    rw [impl_SameExpr, same_kids]
    have hs : slices_EqualFunc_S_impl_Expr_S_impl_Expr_impl_Expr_impl_Expr a.kids b.kids (fun y0 y1 => impl_SameExpr y0 y1) = some (eqB a.kids b.kids) := by
      unfold slices_EqualFunc_S_impl_Expr_S_impl_Expr_impl_Expr_impl_Expr
      by_cases hl : a.kids.length = b.kids.length
      · rw [if_neg (by simp; omega), zip_loop hl ih]
        cases eqB a.kids b.kids <;> rfl
      · rw [if_pos (by simp; omega), eqB_ne (fun h => hl (by rw [h]))]
    rw [hs]
    by_cases h1 : a.op = b.op <;> by_cases h2 : a.n_ = b.n_ <;> by_cases h3 : a.name = b.name <;> simp [h1, h2, h3]
theorem sameS : ∀ a b : Expr_, spec_SameExpr a b = some (eqB a b) := by
  intro a
  induction a using exprInd with
  | h a ih =>
    intro b
    rw [spec_SameExpr, same_kids]
    by_cases h1 : a.op = b.op
    · by_cases h2 : a.n_ = b.n_
      · by_cases h3 : a.name = b.name
        · by_cases hl : a.kids.length = b.kids.length
          · have e1 : decide ((a.kids.length : Int) ≠ (b.kids.length : Int)) = false := by simp; omega
            rw [zip_loop hl ih, e1]
            simp only [h1, h2, h3, ne_eq, not_true_eq_false, decide_false, Bool.false_eq_true, if_false, Option.bind_some, decide_true, Bool.true_and]
            cases eqB a.kids b.kids <;> rfl
          · have e1 : decide ((a.kids.length : Int) ≠ (b.kids.length : Int)) = true := by simp; omega
            rw [e1, eqB_ne (fun h => hl (by rw [h]))]
            simp [h1, h2, h3]
        · simp [h1, h2, h3]
      · simp [h1, h2]
    · simp [h1]
theorem partsI_ok {e : Expr_} (h : validB e = true) : impl_ExprParts e = some (partsE e : Int) := by
  unfold impl_ExprParts
  obtain ⟨p, d, ok, h1, h2, h3⟩ := size_ok e 6 (by omega)
  have h4 : ok = true := by rw [h2]; exact h
  rw [show (6 : Int) = ((6 : Nat) : Int) from rfl, h1, Option.bind_some]
  dsimp only
  rw [h4, (h3 h4).1]; rfl
theorem copy_ok : ∀ (e : Expr_) (d : Nat), formE d e = true → spec_l2Copy e = some e := by
  intro e
  induction e using exprInd with
  | h e ih =>
    intro d hd
    cases d with
    | zero => rw [formE] at hd; cases hd
    | succ d =>
      obtain ⟨h1, h2⟩ := form_kids hd
      have hk := head_kids h1
      rw [spec_l2Copy]
      rcases forN_list (xs := e.kids) (body := (fun (i1_1 : Int) (xs1_1 : (List Expr_)) => (Option.bind (getI e.kids i1_1) fun x1_1 => Option.bind (spec_l2Copy x1_1) fun r1_1 => Option.bind (appM xs1_1 ([r1_1] : List Expr_)) fun ys1_1 => some (.inl ys1_1) : Option (((List Expr_)) ⊕ (Empty))))) (s := ([] : List Expr_)) (fun l s => s = l) (fun _ => False) rfl (fun l x r s he hs => .inl (by
        subst hs
        have hg : getI e.kids (s.length : Int) = some x := by rw [he, getI_mid]
        have hl : s.length ≤ 3 := by rw [he] at hk; simp at hk; omega
        refine ⟨s ++ [x], ?_, rfl⟩
        rw [hg, Option.bind_some, ih x (by rw [he]; simp) d (h2 x (by rw [he]; simp)), Option.bind_some, appM_ok (show s.length + [x].length ≤ 2147483648 by simp; omega)]; rfl)) with ⟨s, g1, g2⟩ | ⟨_, _, h⟩
      · rw [g1, g2]
        show some _ = some e
        rw [mk_eta]
      · exact h.elim
theorem drawSame_ok (code : List UInt8) : ∃ z, spec_DrawSameExpr code = some z := by
  obtain ⟨b, h1, hb⟩ := open_ok code
  have key : Dr (spec_DrawSameExpr code) (fun _ => True) := by
    unfold spec_DrawSameExpr
    rw [h1, Option.bind_some]
    refine DrA.bind (any_dr hb (p := 0) (by omega) (by omega) (d := 3) (by omega) (by omega)) fun e q g1 g2 g3 => ?_
    dsimp only
    refine pk hb (by omega) (by omega) fun v _ _ => ?_
    dsimp only
    refine Dr.ite (fun _ => ?_) fun _ => ?_
    · exact Dr.bind (bent_dr hb (by omega) (by omega)) fun x _ => Dr.some trivial
    rw [copy_ok e _ g3.1, Option.bind_some]
    refine Dr.bind (P := fun s : Int × Bool => 0 ≤ s.1 ∧ s.1 ≤ 30000 ∧ (s.2 = true → 0 < e.kids.length)) ?_ fun s hs => ?_
    · refine pk hb (by omega) (by omega) fun v _ _ => ?_
      dsimp only
      refine Dr.ite (fun _ => Dr.some ⟨by dsimp only; omega, by dsimp only; omega, fun h => ?_⟩) fun _ => Dr.some ⟨by dsimp only; omega, by dsimp only; omega, fun h => by cases h⟩
      have := of_decide_eq_true h
      omega
    obtain ⟨s1, s2, s3⟩ := hs
    refine Dr.bind (P := fun _ => True) ?_ fun s _ => Dr.some trivial
    refine Dr.ite (fun hc => ?_) fun _ => Dr.some trivial
    refine Dr.bind (P := fun _ => True) ?_ fun s _ => Dr.some trivial
    have hlen := s3 hc
    refine pk hb (by omega) (by omega) fun v v1 v2 => ?_
    dsimp only
    refine DrA.bind (leaf_dr hb (p := s.1 + 1) (by omega) (by omega) (names := [mkS [97]]) (fun s hs => by simp only [List.mem_cons, List.not_mem_nil, or_false] at hs; subst hs; rfl)) fun x q2 k1 k2 k3 => ?_
    exact gtx v1 (v2 (by omega)) fun x _ => Dr.some trivial
  obtain ⟨z, h, _⟩ := key
  exact ⟨z, h⟩
theorem sub_valid {op : Int} {a b : Expr_} (h : validB ⟨op, 0, mkS [], [a, b]⟩ = true) : validB a = true ∧ validB b = true ∧ partsE ⟨op, 0, mkS [], [a, b]⟩ = 1 + partsE a + partsE b := by
  obtain ⟨h1, h2⟩ := valid_form h
  have hp := parts_2 op 0 (mkS []) a b
  obtain ⟨_, h3⟩ := form_kids (d := 5) h1
  have ha := form_mono (h3 a (by simp))
  have hb := form_mono (h3 b (by simp))
  unfold validB
  rw [ha, hb]
  refine ⟨?_, ?_, hp⟩ <;> simp <;> omega
theorem rd_br {op : Int} (ho : 3 ≤ op ∧ op ≤ 10) {a b : Expr_} (ha : formE 6 a = true) (hb : formE 6 b = true) : Rd (.E 1 (pL :: (wE 6 a ++ pR :: sgW op :: pL :: (wE 6 b ++ [pR]))) ⟨op, 0, mkS [], [a, b]⟩ []) := by
  have hlv : lvI op = 1 ∨ lvI op = 2 ∨ lvI op = 3 ∨ lvI op = 4 := by
    have : op = 3 ∨ op = 4 ∨ op = 5 ∨ op = 6 ∨ op = 7 ∨ op = 8 ∨ op = 9 ∨ op = 10 := by omega
    rcases this with rfl | rfl | rfl | rfl | rfl | rfl | rfl | rfl <;> decide
  obtain ⟨s1, s2, s3⟩ := sg_op ho
  have own : ∀ (e : Expr_) (r : List Word_), formE 6 e = true → Rd (.E 5 (pL :: (wE 6 e ++ pR :: r)) e r) := fun e r he => by
    have h := (own_rd 6 e he).1 1 (pR :: r) (by omega) (by omega) (stop_pR 1 r)
    have h0 : decide (lvI e.op < 1) = false := by have := lv_pos he; simp; omega
    rw [h0] at h
    exact .par rfl h rfl
  have hA : Rd (.E (lvI op + 1) (pL :: (wE 6 a ++ pR :: sgW op :: pL :: (wE 6 b ++ [pR]))) a (sgW op :: pL :: (wE 6 b ++ [pR]))) := by
    refine lift (4 - (lvI op).toNat) (by omega) (by omega) (by omega) (own a _ ha) fun m h1 h2 => ?_
    exact s2 m (by omega) (by omega)
  have hB : Rd (.E (lvI op + 1) (pL :: (wE 6 b ++ [pR])) b []) := lift (4 - (lvI op).toNat) (by omega) (by omega) (by omega) (own b [] hb) fun m _ _ => rfl
  have hL : Rd (.L (lvI op) a (sgW op :: pL :: (wE 6 b ++ [pR])) ⟨op, 0, mkS [], [a, b]⟩ []) := by
    have h0 : opW (lvI op) (sgW op) ≠ 0 := by rw [s1]; omega
    have := Rd.step (e := a) (r := []) (e' := ⟨opW (lvI op) (sgW op), 0, mkS [], [a, b]⟩) h0 hB (.stop rfl)
    rw [s1] at this
    exact this
  exact lift ((lvI op).toNat - 1) (by omega) (by omega) (by omega) (.up hlv hA hL) fun m _ _ => rfl
theorem bind_one (z : Expr_ × Expr_) {op : Int} (ho : 3 ≤ op ∧ op ≤ 10) : (fun (i1_1 : Int) (xs1_1 : Unit) => (Option.bind (Option.bind (impl_ExprText (⟨i1_1, 0, (mkS []), ([z.1, z.2] : List Expr_)⟩ : Expr_)) fun r2_1 => if !(r2_1.2) then some (.inl ()) else Option.bind (impl_ExprText z.1) fun r2_2 => Option.bind (impl_ExprText z.2) fun r2_3 => Option.bind (impl_ReadExpr r2_1.1) fun r2_4 => Option.bind (catS (mkS [40]) r2_2.1) fun x2_1 => Option.bind (catS x2_1 (mkS [41])) fun x2_2 => Option.bind (subS (mkS [43, 45, 42, 47, 37, 60, 61, 38]) (i1_1 - 3) ((i1_1 - 3) + 1)) fun x2_3 => Option.bind (catS x2_2 x2_3) fun x2_4 => Option.bind (catS x2_4 (mkS [40])) fun x2_5 => Option.bind (catS x2_5 r2_3.1) fun x2_6 => Option.bind (catS x2_6 (mkS [41])) fun x2_7 => Option.bind (impl_ReadExpr x2_7) fun r2_5 => Option.bind (if !(r2_4.2) then some true else if !(r2_5.2) then some true else Option.bind (impl_SameExpr r2_4.1 (⟨i1_1, 0, (mkS []), ([z.1, z.2] : List Expr_)⟩ : Expr_)) fun r3_1 => if !(r3_1) then some true else Option.bind (impl_SameExpr r2_5.1 (⟨i1_1, 0, (mkS []), ([z.1, z.2] : List Expr_)⟩ : Expr_)) fun r3_2 => if !(r3_2) then some true else Option.bind (impl_ExprParts (⟨i1_1, 0, (mkS []), ([z.1, z.2] : List Expr_)⟩ : Expr_)) fun r3_3 => Option.bind (impl_ExprParts z.1) fun r3_4 => Option.bind (impl_ExprParts z.2) fun r3_5 => some (decide (r3_3 ≠ (w64 ((w64 (r3_4 + r3_5)) + 1)))) : Option (Bool)) fun s2_1 => if s2_1 then some (.inr false) else some (.inl ()) : Option ((Unit) ⊕ (Bool))) (Sum.elim (fun s1_1 => some (.inl ())) (fun e0 => some (.inr e0))) : Option ((Unit) ⊕ (Bool)))) op () = some (.inl ()) := by
  obtain ⟨a, b⟩ := z
  have hv : textV (⟨op, 0, mkS [], [a, b]⟩ : Expr_) = if validB ⟨op, 0, mkS [], [a, b]⟩ then (toS (txt (wE 6 ⟨op, 0, mkS [], [a, b]⟩)), true) else (mkS [], false) := rfl
  dsimp only
  rw [textI_ok, Option.bind_some]
  cases hb : validB ⟨op, 0, mkS [], [a, b]⟩ with
  | false =>
    rw [hb] at hv
    rw [hv]; rfl
  | true =>
    rw [hb] at hv
    have hv : textV (⟨op, 0, mkS [], [a, b]⟩ : Expr_) = (toS (txt (wE 6 ⟨op, 0, mkS [], [a, b]⟩)), true) := hv
    obtain ⟨va, vb, hp⟩ := sub_valid hb
    obtain ⟨fa, pa⟩ := valid_form va
    obtain ⟨fb, pb⟩ := valid_form vb
    have ta : textV a = (toS (txt (wE 6 a)), true) := by unfold textV; rw [va]; rfl
    have tb : textV b = (toS (txt (wE 6 b)), true) := by unfold textV; rw [vb]; rfl
    have la := wE_txt_len fa
    have lb := wE_txt_len fb
    have na := wE_len fa
    have nb := wE_len fb
    have ba : (toS (txt (wE 6 a))).b = txt (wE 6 a) := toS_b (by omega)
    have bb : (toS (txt (wE 6 b))).b = txt (wE 6 b) := toS_b (by omega)
    have l40 : (mkS [40]).b.length = 1 := rfl
    have l41 : (mkS [41]).b.length = 1 := rfl
    have hsub : subS (mkS [43, 45, 42, 47, 37, 60, 61, 38]) (op - 3) ((op - 3) + 1) = some (sgS op) := by
      have : op = 3 ∨ op = 4 ∨ op = 5 ∨ op = 6 ∨ op = 7 ∨ op = 8 ∨ op = 9 ∨ op = 10 := by omega
      rcases this with rfl | rfl | rfl | rfl | rfl | rfl | rfl | rfl <;> rfl
    obtain ⟨cg, hcg, hcs⟩ : ∃ c, (sgS op).b = [c] ∧ c ∈ sgnL := by
      have : op = 3 ∨ op = 4 ∨ op = 5 ∨ op = 6 ∨ op = 7 ∨ op = 8 ∨ op = 9 ∨ op = 10 := by omega
      rcases this with rfl | rfl | rfl | rfl | rfl | rfl | rfl | rfl <;> exact ⟨_, rfl, by decide⟩
    have lsg : (sgS op).b.length = 1 := sg_len op
    obtain ⟨x1, a1, b1⟩ := cat_ex (s := mkS [40]) (t := toS (txt (wE 6 a))) (by rw [ba]; omega)
    have c1 := congrArg List.length b1
    rw [List.length_append, ba] at c1
    obtain ⟨x2, a2, b2⟩ := cat_ex (s := x1) (t := mkS [41]) (by omega)
    have c2 := congrArg List.length b2
    rw [List.length_append] at c2
    obtain ⟨x4, a4, b4⟩ := cat_ex (s := x2) (t := sgS op) (by omega)
    have c4 := congrArg List.length b4
    rw [List.length_append] at c4
    obtain ⟨x5, a5, b5⟩ := cat_ex (s := x4) (t := mkS [40]) (by omega)
    have c5 := congrArg List.length b5
    rw [List.length_append] at c5
    obtain ⟨x6, a6, b6⟩ := cat_ex (s := x5) (t := toS (txt (wE 6 b))) (by rw [bb]; omega)
    have c6 := congrArg List.length b6
    rw [List.length_append, bb] at c6
    obtain ⟨x7, a7, b7⟩ := cat_ex (s := x6) (t := mkS [41]) (by omega)
    have c7 := congrArg List.length b7
    rw [List.length_append] at c7
    have hx : x7.b = 40 :: (txt (wE 6 a) ++ 41 :: ([] ++ cg :: ([] ++ 40 :: (txt (wE 6 b) ++ 41 :: [])))) := by
      rw [b7, b6, b5, b4, b2, b1, ba, bb, hcg]
      show ((((([40] ++ txt (wE 6 a)) ++ [41]) ++ [cg]) ++ [40]) ++ txt (wE 6 b)) ++ [41] = _
      simp
    have hsg : (⟨3, toS [cg]⟩ : Word_) = sgW op := by
      unfold sgW
      rw [← hcg, toS_eq]
    have h41 : (⟨3, toS [41]⟩ : Word_) = pR := rfl
    have h40 : (⟨3, toS [40]⟩ : Word_) = pL := rfl
    have ht : tok x7.b = some (pL :: (wE 6 a ++ pR :: sgW op :: pL :: (wE 6 b ++ [pR]))) := by
      rw [hx, tok_open, tok_mid (by decide) _ _ _ (Nat.le_refl _), tok_txt _ (wE_valid fa), tok_mid hcs _ _ _ (Nat.le_refl _), tok_nil, tok_mid (by decide) _ _ _ (Nat.le_refl _), tok_nil, tok_mid (by decide) _ _ _ (Nat.le_refl _), tok_txt _ (wE_valid fb), tok_nil, hsg, h41, h40]
      rfl
    have r2 := (read_some (cut_of (by omega) ht (by simp; omega)) (rd_br ho fa fb)).2
    rw [if_pos ⟨rfl, hb⟩] at r2
    obtain ⟨r1, _⟩ := read_own hb
    have hpp : w64 (w64 ((partsE a : Int) + (partsE b : Int)) + 1) = (partsE (⟨op, 0, mkS [], [a, b]⟩ : Expr_) : Int) := by
      rw [w64_id (n := (partsE a : Int) + (partsE b : Int)) (by omega) (by omega), w64_id (by omega) (by omega), hp]; omega
    rw [hv]
    dsimp only
    rw [if_neg (by simp), textI_ok, ta, Option.bind_some, textI_ok, tb, Option.bind_some, r1, Option.bind_some]
    dsimp only
    rw [a1, Option.bind_some, a2, Option.bind_some, hsub, Option.bind_some, a4, Option.bind_some, a5, Option.bind_some, a6, Option.bind_some, a7, Option.bind_some, r2, Option.bind_some]
    dsimp only
    rw [if_neg (by simp), if_neg (by simp), sameI, eqB_self, Option.bind_some, if_neg (by simp), Option.bind_some, if_neg (by simp), partsI_ok hb, partsI_ok va, partsI_ok vb, Option.bind_some, Option.bind_some, Option.bind_some, hpp]
    simp only [ne_eq, not_true_eq_false, decide_false, Option.bind_some, Bool.false_eq_true, if_false]
    rfl
theorem law_opsBind (code : List UInt8) : laws_FnOpsBind code = some true := by
  unfold laws_FnOpsBind
  by_cases h0 : decide (1048576 < (code.length : Int)) = true
  · rw [if_pos h0]
  rw [if_neg h0]
  obtain ⟨z, h1⟩ := drawSame_ok code
  rw [h1, Option.bind_some]
  refine bindt (a := false) ?_ ?_
  · simp only [sameI, sameS, valid_E, validS_E, Option.bind_some, ne_eq, not_true_eq_false, decide_false, Bool.false_eq_true, if_false]
  rw [if_neg (by simp)]
  rcases forN_law (body := (fun (i1_1 : Int) (xs1_1 : Unit) => (Option.bind (Option.bind (impl_ExprText (⟨i1_1, 0, (mkS []), ([z.1, z.2] : List Expr_)⟩ : Expr_)) fun r2_1 => if !(r2_1.2) then some (.inl ()) else Option.bind (impl_ExprText z.1) fun r2_2 => Option.bind (impl_ExprText z.2) fun r2_3 => Option.bind (impl_ReadExpr r2_1.1) fun r2_4 => Option.bind (catS (mkS [40]) r2_2.1) fun x2_1 => Option.bind (catS x2_1 (mkS [41])) fun x2_2 => Option.bind (subS (mkS [43, 45, 42, 47, 37, 60, 61, 38]) (i1_1 - 3) ((i1_1 - 3) + 1)) fun x2_3 => Option.bind (catS x2_2 x2_3) fun x2_4 => Option.bind (catS x2_4 (mkS [40])) fun x2_5 => Option.bind (catS x2_5 r2_3.1) fun x2_6 => Option.bind (catS x2_6 (mkS [41])) fun x2_7 => Option.bind (impl_ReadExpr x2_7) fun r2_5 => Option.bind (if !(r2_4.2) then some true else if !(r2_5.2) then some true else Option.bind (impl_SameExpr r2_4.1 (⟨i1_1, 0, (mkS []), ([z.1, z.2] : List Expr_)⟩ : Expr_)) fun r3_1 => if !(r3_1) then some true else Option.bind (impl_SameExpr r2_5.1 (⟨i1_1, 0, (mkS []), ([z.1, z.2] : List Expr_)⟩ : Expr_)) fun r3_2 => if !(r3_2) then some true else Option.bind (impl_ExprParts (⟨i1_1, 0, (mkS []), ([z.1, z.2] : List Expr_)⟩ : Expr_)) fun r3_3 => Option.bind (impl_ExprParts z.1) fun r3_4 => Option.bind (impl_ExprParts z.2) fun r3_5 => some (decide (r3_3 ≠ (w64 ((w64 (r3_4 + r3_5)) + 1)))) : Option (Bool)) fun s2_1 => if s2_1 then some (.inr false) else some (.inl ()) : Option ((Unit) ⊕ (Bool))) (Sum.elim (fun s1_1 => some (.inl ())) (fun e0 => some (.inr e0))) : Option ((Unit) ⊕ (Bool))))) (k := 8) (i := 3) (s := ()) (fun _ _ => True) (fun _ => False) trivial (fun j s g1 g2 _ => .inl ⟨(), bind_one z (by omega), trivial⟩) with ⟨t, h3, _⟩ | ⟨_, _, h4⟩
  · exact bindt h3 rfl
  · exact h4.elim
end Prg
end Go.Wk
