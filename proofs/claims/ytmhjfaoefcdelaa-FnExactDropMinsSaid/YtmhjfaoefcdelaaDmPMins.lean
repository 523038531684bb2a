/- A part of the proof of FnExactDropMinsSaid. -/
import Derived.Test.YtmhjfaoefcdelaaDmModels
import Derived.Test.YtmhjfaoefcdelaaWkP
namespace Go.Wk
open Go

theorem szMfn_ok (m : Mfn) (n : Int) (h0 : 0 ≤ n) (h1 : n ≤ 1048576) (hl : m.ins.length ≤ 140737488355328) :
    laws_szMfn m n = some (if n - (m.ins.length : Int) < 0 then -1 else n - (m.ins.length : Int)) := by
  unfold laws_szMfn laws_szMinsS
  rw [w64_id (by omega) (by omega)]
  by_cases h : n - (m.ins.length : Int) < 0
  · simp [h]
  · simp [h]

theorem toMinsS_ok (l : List Mins) (h : l.length ≤ 1048576) : laws_toMinsS l = some l := by
  unfold laws_toMinsS
  rw [makeM_ok (by omega) (by omega), Option.bind_some]
  rw [show ((l.length : Int)).toNat = l.length by omega, forN_map (f := fun x => x)]
  · simp
  · intro a x r ys he hlt
    rw [he, getI_mid, Option.bind_some]
    simp only [laws_toMins, Option.bind_some]
    rw [getI_lt (by omega) (by omega), Option.bind_some]
    simp

theorem toMfn_ok (m : Mfn) (h : m.ins.length ≤ 1048576) : laws_toMfn m = some m := by
  unfold laws_toMfn
  rw [toMinsS_ok _ h]
  rfl

theorem eqMins_ok (a b : Mins) : laws_eqMins a b = some (decide (a = b)) := by
  unfold laws_eqMins
  cases a; cases b
  simp only [decide_eq_true_eq, Mins.mk.injEq]
  repeat' split
  all_goals simp_all

theorem eqMinsS_ok (a b : List Mins) : laws_eqMinsS a b = some (decide (a = b)) := by
  unfold laws_eqMinsS
  by_cases h : a.length = b.length
  · rw [if_neg (by simp [h]), forN_eqs (ys := b) (e := false) h]
    · by_cases h' : a = b <;> simp [h']
    · intro l x r l' y r' h1 h2 h3
      rw [h1, h2, getI_mid, h3, getI_mid]
      simp only [Option.bind_some, eqMins_ok]
      by_cases h' : x = y <;> simp [h']
  · have h1 : ¬ (a.length : Int) = b.length := by omega
    rw [if_pos (by simpa using h1), decide_eq_false]
    intro h2; subst h2; exact h rfl

theorem eqMfn_ok (a b : Mfn) : laws_eqMfn a b = some (decide (a = b)) := by
  unfold laws_eqMfn
  cases a; cases b
  simp only [decide_eq_true_eq, Mfn.mk.injEq, eqMinsS_ok, Option.bind_some]
  repeat' split
  all_goals simp_all


theorem toIntS_ok (l : List Int) (h : l.length ≤ 1048576) : laws_toIntS l = some l := by
  unfold laws_toIntS
  rw [makeM_ok (by omega) (by omega), Option.bind_some]
  rw [show ((l.length : Int)).toNat = l.length by omega, forN_map (f := fun x => x)]
  · simp
  · intro a x r ys he hlt
    rw [he, getI_mid, Option.bind_some]
    rw [getI_lt (by omega) (by omega), Option.bind_some]
    simp

theorem eqIntS_ok (a b : List Int) : laws_eqIntS a b = some (decide (a = b)) := by
  unfold laws_eqIntS
  by_cases h : a.length = b.length
  · rw [if_neg (by simp [h]), forN_eqs (ys := b) (e := false) h]
    · by_cases h' : a = b <;> simp [h']
    · intro l x r l' y r' h1 h2 h3
      rw [h1, h2, getI_mid, h3, getI_mid]
      simp only [Option.bind_some]
      by_cases h' : x = y <;> simp [h']
  · have h1 : ¬ (a.length : Int) = b.length := by omega
    rw [if_pos (by simpa using h1), decide_eq_false]
    intro h2; subst h2; exact h rfl

def mkMins (k : Int) (_ : Mins) : Mins := ⟨k, k + 1, k + 1 + 1, k + 1 + 1 + 1, k + 1 + 1 + 1 + 1⟩

theorem markMinsS_ok (a : List Mins) (k : Int) (hk : 0 ≤ k) (hB : k + 5 * a.length ≤ 4611686018427387904) : laws_markMinsS a k = some (k + 5 * a.length, mkL mkMins (fun _ => 5) a k) := by
  unfold laws_markMinsS
  rw [forN_mark mkMins (fun _ => 5) 4611686018427387904 hk (by rw [sums_const]; omega)]
  · simp [sums_const]
  · intro l x r k h0 h1
    simp only [getI_mid, Option.bind_some]
    simp (disch := omega) only [w64_id]
    rw [show ((l.length : Int)).toNat = l.length by omega, set_mid]
    rw [show k + 1 + 1 + 1 + 1 + 1 = k + ((5 : Nat) : Int) by omega]
    rfl

theorem heldMinsS_ok (a : List Mins) (k : Int) (hk : 0 ≤ k) (hB : k + 5 * a.length ≤ 4611686018427387904) : laws_heldMinsS (mkL mkMins (fun _ => 5) a k) k = some (k + 5 * a.length) := by
  unfold laws_heldMinsS
  rw [forN_held mkMins (fun _ => 5) 4611686018427387904 hk (by rw [sums_const]; omega)]
  · simp [sums_const]
  · intro l x r j he h0 h1
    simp only [he, getI_mid, Option.bind_some]
    simp (disch := omega) only [w64_id]
    simp [mkMins]
    omega

theorem markIntS_ok (a : List Int) (k : Int) (hk : 0 ≤ k) (hB : k + a.length ≤ 4611686018427387904) : laws_markIntS a k = some (k + a.length, mkL (fun k _ => k) (fun _ => 1) a k) := by
  unfold laws_markIntS
  rw [forN_mark (fun k _ => k) (fun _ => 1) 4611686018427387904 hk (by rw [sums_const]; omega)]
  · simp [sums_const]
  · intro l x r k h0 h1
    simp only [getI_mid, Option.bind_some]
    simp (disch := omega) only [w64_id]
    rw [show ((l.length : Int)).toNat = l.length by omega, set_mid]
    rfl
namespace Fits
def jumps (x : Mins) : Bool := decide (x.op = 20) || decide (x.op = 21)
def inB (n low high : Int) : Bool := decide (low ≤ n) && decide (n ≤ high)

theorem l24Jumps_ok (x : Mins) : spec_l24Jumps x = some (jumps x) := by
  unfold spec_l24Jumps jumps
  by_cases h : x.op = 20 <;> simp [h]
theorem jumpOp_ok (x : Mins) : impl_jumpOp x.op = some (jumps x) := by
  unfold impl_jumpOp jumps
  by_cases h : x.op = 20 <;> simp [h]
theorem l1In_ok (n low high : Int) : spec_l1In n low high = some (inB n low high) := by
  unfold spec_l1In inB
  by_cases h : low ≤ n <;> simp [h]
theorem within_ok (n low high : Int) : impl_within n low high = some (inB n low high) := by
  unfold impl_within inB
  by_cases h : low ≤ n <;> simp [h]

/-- a jump out of the text -/
def off (len : Int) (x : Mins) : Bool := jumps x && !(inB x.n_ 0 (len - 1))
def fits (l : List Mins) : Bool := !(l.any (off l.length)) && (match l.getLast? with | none => false | some x => decide (x.op = 20) || decide (x.op = 22))

theorem last_ok {l : List Mins} (h : l ≠ []) : getI l ((l.length : Int) - 1) = some (l.getLast h) := by
  have : 0 < l.length := List.length_pos_iff.2 h
  rw [getI_lt (by omega) (by omega), List.getLast_eq_getElem]
  congr 2
  omega

theorem fits_spec (f : Mfn) : spec_l24Fits f = some (fits f.ins) := by
  unfold spec_l24Fits
  rw [forN_any (xs := f.ins) (off (f.ins.length : Int)) false]
  · unfold fits
    cases hany : f.ins.any (off (f.ins.length : Int)) with
    | true => simp
    | false =>
      simp only [Bool.false_eq_true, if_false, Option.bind_some, Sum.elim_inl, Bool.not_false, Bool.true_and]
      by_cases hn : f.ins = []
      · simp [hn]
      · have : 0 < f.ins.length := List.length_pos_iff.2 hn
        rw [if_neg (by simp; exact hn), last_ok hn, List.getLast?_eq_some_getLast hn]
        simp only [Option.bind_some]
        by_cases h : (f.ins.getLast hn).op = 20 <;> simp [h]
  · intro l x r he
    have hx : getI f.ins (l.length : Int) = some x := by rw [he, getI_mid]
    simp only [hx, Option.bind_some, l24Jumps_ok, l1In_ok, off]
    by_cases hj : jumps x = true <;> by_cases hi : inB x.n_ 0 ((f.ins.length : Int) - 1) = true <;> simp [hj, hi]

theorem contains_ok (l : List Mins) (len : Int) (hl : w64 (len - 1) = len - 1) :
    slices_ContainsFunc_S_impl_Mins_impl_Mins l (fun y0 => impl_peepable_1 y0 len) = some (l.any (off len)) := by
  unfold slices_ContainsFunc_S_impl_Mins_impl_Mins slices_IndexFunc_S_impl_Mins_impl_Mins
  have hp : ∀ x, impl_peepable_1 x len = some (off len x) := by
    intro x
    unfold impl_peepable_1
    simp only [jumpOp_ok, within_ok, hl, Option.bind_some, off]
    cases jumps x <;> simp
  rcases forN_find (xs := l) (off len) (fun i => i) (body := fun i1_1 xs1_1 => Option.bind (getI l i1_1) fun x1_1 => Option.bind (impl_peepable_1 x1_1 len) fun r1_1 => if r1_1 then some (.inr i1_1) else some (.inl ())) (by
      intro a x r he
      have hx : getI l (a.length : Int) = some x := by rw [he, getI_mid]
      simp only [hx, Option.bind_some, hp]) with ⟨h1, h2⟩ | ⟨a, x, r, h1, h2, h3, h4⟩
  · rw [h2, h1]; simp
  · rw [h4, h1]; simp [h3]

theorem fits_impl (f : Mfn) (hl : f.ins.length ≤ 1048576) : impl_peepable f = some (fits f.ins) := by
  unfold impl_peepable fits
  have hw : w64 ((f.ins.length : Int) - 1) = (f.ins.length : Int) - 1 := w64_id (by omega) (by omega)
  by_cases hn : f.ins = []
  · simp [hn]
  · have : 0 < f.ins.length := List.length_pos_iff.2 hn
    rw [if_pos (by simpa using this), last_ok hn, List.getLast?_eq_some_getLast hn, contains_ok _ _ hw]
    simp only [Option.bind_some]
    by_cases h : (f.ins.getLast hn).op = 20
    · simp [h]
    · by_cases h' : (f.ins.getLast hn).op = 22 <;> simp [h, h']

end Fits
end Go.Wk
