/- A part of the proof of FnExactReachedMinsSaid. -/
import Derived.Test.YthfeimbpjeijpaaRmModels
import Derived.Test.YthfeimbpjeijpaaWkY
import Derived.Test.YthfeimbpjeijpaaWkAd
/- Sizes, copies, marks of a function; when it fits. -/
namespace Go.Wk
open Go

theorem szMfn_ok (m : Mfn) (n : Int) (h0 : 0 ≤ n) (h1 : n ≤ 1048576) (hl : m.ins.length ≤ 140737488355328) :
    laws_szMfn m n = some (if n - (m.ins.length : Int) < 0 then -1 else n - (m.ins.length : Int)) := by
  unfold laws_szMfn laws_szMinsS
  rw [w64_id (by omega) (by omega)]
  by_cases h : n - (m.ins.length : Int) < 0
  · simp [h]
  · simp [h]

theorem toMinsS_ok (l : List Mins) (h : l.length ≤ 1048576) : laws_toMinsS l = some l := by
  unfold laws_toMinsS
  rw [makeM_ok (by omega) (by omega), Option.bind_some]
  rw [show ((l.length : Int)).toNat = l.length by omega, forN_map (f := fun x => x)]
  · simp
  · intro a x r ys he hlt
    rw [he, getI_mid, Option.bind_some]
    simp only [laws_toMins, Option.bind_some]
    rw [getI_lt (by omega) (by omega), Option.bind_some]
    simp

theorem toMfn_ok (m : Mfn) (h : m.ins.length ≤ 1048576) : laws_toMfn m = some m := by
  unfold laws_toMfn
  rw [toMinsS_ok _ h]
  rfl

theorem eqMins_ok (a b : Mins) : laws_eqMins a b = some (decide (a = b)) := by
  unfold laws_eqMins
  cases a; cases b
  simp only [decide_eq_true_eq, Mins.mk.injEq]
  repeat' split
  all_goals simp_all

theorem eqMinsS_ok (a b : List Mins) : laws_eqMinsS a b = some (decide (a = b)) := by
  unfold laws_eqMinsS
  by_cases h : a.length = b.length
  · rw [if_neg (by simp [h]), forN_eqs (ys := b) (e := false) h]
    · by_cases h' : a = b <;> simp [h']
    · intro l x r l' y r' h1 h2 h3
      rw [h1, h2, getI_mid, h3, getI_mid]
      simp only [Option.bind_some, eqMins_ok]
      by_cases h' : x = y <;> simp [h']
  · have h1 : ¬ (a.length : Int) = b.length := by omega
    rw [if_pos (by simpa using h1), decide_eq_false]
    intro h2; subst h2; exact h rfl

theorem eqMfn_ok (a b : Mfn) : laws_eqMfn a b = some (decide (a = b)) := by
  unfold laws_eqMfn
  cases a; cases b
  simp only [decide_eq_true_eq, Mfn.mk.injEq, eqMinsS_ok, Option.bind_some]
  repeat' split
  all_goals simp_all

theorem eqIntS_ok (a b : List Int) : laws_eqIntS a b = some (decide (a = b)) := by
  unfold laws_eqIntS
  by_cases h : a.length = b.length
  · rw [if_neg (by simp [h]), forN_eqs (ys := b) (e := false) h]
    · by_cases h' : a = b <;> simp [h']
    · intro l x r l' y r' h1 h2 h3
      rw [h1, h2, getI_mid, h3, getI_mid]
      simp only [Option.bind_some]
      by_cases h' : x = y <;> simp [h']
  · have h1 : ¬ (a.length : Int) = b.length := by omega
    rw [if_pos (by simpa using h1), decide_eq_false]
    intro h2; subst h2; exact h rfl

def mkMins (k : Int) (_ : Mins) : Mins := ⟨k, k + 1, k + 1 + 1, k + 1 + 1 + 1, k + 1 + 1 + 1 + 1⟩

theorem markMinsS_ok (a : List Mins) (k : Int) (hk : 0 ≤ k) (hB : k + 5 * a.length ≤ 4611686018427387904) : laws_markMinsS a k = some (k + 5 * a.length, mkL mkMins (fun _ => 5) a k) := by
  unfold laws_markMinsS
  rw [forN_mark mkMins (fun _ => 5) 4611686018427387904 hk (by rw [sums_const]; omega)]
  · simp [sums_const]
  · intro l x r k h0 h1
    simp only [getI_mid, Option.bind_some]
    simp (disch := omega) only [w64_id]
    rw [show ((l.length : Int)).toNat = l.length by omega, set_mid]
    rw [show k + 1 + 1 + 1 + 1 + 1 = k + ((5 : Nat) : Int) by omega]
    rfl

theorem markIntS_ok (a : List Int) (k : Int) (hk : 0 ≤ k) (hB : k + a.length ≤ 4611686018427387904) : laws_markIntS a k = some (k + a.length, mkL (fun k _ => k) (fun _ => 1) a k) := by
  unfold laws_markIntS
  rw [forN_mark (fun k _ => k) (fun _ => 1) 4611686018427387904 hk (by rw [sums_const]; omega)]
  · simp [sums_const]
  · intro l x r k h0 h1
    simp only [getI_mid, Option.bind_some]
    simp (disch := omega) only [w64_id]
    rw [show ((l.length : Int)).toNat = l.length by omega, set_mid]
    rfl
theorem heldIntS_ok (a : List Int) (k : Int) (hk : 0 ≤ k) (hB : k + a.length ≤ 4611686018427387904) : laws_heldIntS (mkL (fun k _ => k) (fun _ => 1) a k) k = some (k + a.length) := by
  unfold laws_heldIntS
  rw [forN_held (fun k _ => k) (fun _ => 1) 4611686018427387904 hk (by rw [sums_const]; omega)]
  · simp [sums_const]
  · intro l x r j he h0 h1
    simp only [he, getI_mid, Option.bind_some]
    simp (disch := omega) only [w64_id]
    simp
namespace Fits
def jumps (x : Mins) : Bool := decide (x.op = 20) || decide (x.op = 21)
def inB (n low high : Int) : Bool := decide (low ≤ n) && decide (n ≤ high)

theorem l24Jumps_ok (x : Mins) : spec_l24Jumps x = some (jumps x) := by
  unfold spec_l24Jumps jumps
  by_cases h : x.op = 20 <;> simp [h]
theorem jumpOp_ok (x : Mins) : impl_jumpOp x.op = some (jumps x) := by
  unfold impl_jumpOp jumps
  by_cases h : x.op = 20 <;> simp [h]
theorem l1In_ok (n low high : Int) : spec_l1In n low high = some (inB n low high) := by
  unfold spec_l1In inB
  by_cases h : low ≤ n <;> simp [h]
theorem within_ok (n low high : Int) : impl_within n low high = some (inB n low high) := by
  unfold impl_within inB
  by_cases h : low ≤ n <;> simp [h]

/-- a jump out of the text -/
def off (len : Int) (x : Mins) : Bool := jumps x && !(inB x.n_ 0 (len - 1))
def fits (l : List Mins) : Bool := !(l.any (off l.length)) && (match l.getLast? with | none => false | some x => decide (x.op = 20) || decide (x.op = 22))

theorem last_ok {l : List Mins} (h : l ≠ []) : getI l ((l.length : Int) - 1) = some (l.getLast h) := by
  have : 0 < l.length := List.length_pos_iff.2 h
  rw [getI_lt (by omega) (by omega), List.getLast_eq_getElem]
  congr 2
  omega

theorem fits_spec (f : Mfn) : spec_l24Fits f = some (fits f.ins) := by
  unfold spec_l24Fits
  rw [forN_any (xs := f.ins) (off (f.ins.length : Int)) false]
  · unfold fits
    cases hany : f.ins.any (off (f.ins.length : Int)) with
    | true => simp
    | false =>
      simp only [Bool.false_eq_true, if_false, Option.bind_some, Sum.elim_inl, Bool.not_false, Bool.true_and]
      by_cases hn : f.ins = []
      · simp [hn]
      · have : 0 < f.ins.length := List.length_pos_iff.2 hn
        rw [if_neg (by simp; exact hn), last_ok hn, List.getLast?_eq_some_getLast hn]
        simp only [Option.bind_some]
        by_cases h : (f.ins.getLast hn).op = 20 <;> simp [h]
  · intro l x r he
    have hx : getI f.ins (l.length : Int) = some x := by rw [he, getI_mid]
    simp only [hx, Option.bind_some, l24Jumps_ok, l1In_ok, off]
    by_cases hj : jumps x = true <;> by_cases hi : inB x.n_ 0 ((f.ins.length : Int) - 1) = true <;> simp [hj, hi]

theorem contains_ok (l : List Mins) (len : Int) (hl : w64 (len - 1) = len - 1) :
    slices_ContainsFunc_S_impl_Mins_impl_Mins l (fun y0 => impl_peepable_1 y0 len) = some (l.any (off len)) := by
  unfold slices_ContainsFunc_S_impl_Mins_impl_Mins slices_IndexFunc_S_impl_Mins_impl_Mins
  have hp : ∀ x, impl_peepable_1 x len = some (off len x) := by
    intro x
    unfold impl_peepable_1
    simp only [jumpOp_ok, within_ok, hl, Option.bind_some, off]
    cases jumps x <;> simp
  rcases forN_find (xs := l) (off len) (fun i => i) (body := fun i1_1 xs1_1 => Option.bind (getI l i1_1) fun x1_1 => Option.bind (impl_peepable_1 x1_1 len) fun r1_1 => if r1_1 then some (.inr i1_1) else some (.inl ())) (by
      intro a x r he
      have hx : getI l (a.length : Int) = some x := by rw [he, getI_mid]
      simp only [hx, Option.bind_some, hp]) with ⟨h1, h2⟩ | ⟨a, x, r, h1, h2, h3, h4⟩
  · rw [h2, h1]; simp
  · rw [h4, h1]; simp [h3]

theorem fits_impl (f : Mfn) (hl : f.ins.length ≤ 1048576) : impl_peepable f = some (fits f.ins) := by
  unfold impl_peepable fits
  have hw : w64 ((f.ins.length : Int) - 1) = (f.ins.length : Int) - 1 := w64_id (by omega) (by omega)
  by_cases hn : f.ins = []
  · simp [hn]
  · have : 0 < f.ins.length := List.length_pos_iff.2 hn
    rw [if_pos (by simpa using this), last_ok hn, List.getLast?_eq_some_getLast hn, contains_ok _ _ hw]
    simp only [Option.bind_some]
    by_cases h : (f.ins.getLast hn).op = 20
    · simp [h]
    · by_cases h' : (f.ins.getLast hn).op = 22 <;> simp [h, h']

end Fits
end Go.Wk
/- Sets of places: keys of maps, lists of bools. -/
namespace Go.Wk
open Go
theorem nodup_len : ∀ {l l' : List Int}, l.Nodup → (∀ x ∈ l, x ∈ l') → l.length ≤ l'.length
  | [], l', _, _ => Nat.zero_le _
  | x :: l, l', hn, h => by
    have hx := h x (List.mem_cons_self ..)
    rw [List.nodup_cons] at hn
    have := nodup_len (l := l) (l' := l'.erase x) hn.2 fun y hy => by
      have : y ≠ x := fun e => hn.1 (e ▸ hy)
      exact (List.mem_erase_of_ne this).2 (h y (List.mem_cons_of_mem _ hy))
    rw [List.length_erase_of_mem hx] at this
    have := List.length_pos_of_mem hx
    simp only [List.length_cons]
    omega
namespace MapS
variable {β : Type}
/-- A key of a map. -/
def Has (m : MapS β) (r : Int) : Prop := r ∈ m.keys
theorem has_iff {m : MapS β} {r : Int} : m.Has r ↔ ∃ v, (r, v) ∈ m.es := by
  unfold Has keys
  rw [List.mem_map]
  constructor
  · rintro ⟨⟨a, v⟩, h, rfl⟩; exact ⟨v, h⟩
  · rintro ⟨v, h⟩; exact ⟨_, h, rfl⟩
theorem has_mk0 {r : Int} : ¬ (mk0 : MapS β).Has r := by simp [Has, keys, mk0]
theorem has_ins {m : MapS β} {k r : Int} {v : β} : (m.ins k v).Has r ↔ r = k ∨ m.Has r := by
  rw [has_iff, has_iff]
  constructor
  · rintro ⟨u, h⟩
    have h := ((m.ins_perm k v).mem_iff).2 h
    rcases List.mem_cons.1 h with h | h
    · exact .inl (congrArg Prod.fst h)
    · exact .inr ⟨u, (List.mem_filter.1 h).1⟩
  · rintro (rfl | ⟨u, h⟩)
    · exact ⟨v, ((m.ins_perm r v).mem_iff).1 (List.mem_cons_self ..)⟩
    · by_cases e : r = k
      · subst e; exact ⟨v, ((m.ins_perm r v).mem_iff).1 (List.mem_cons_self ..)⟩
      · exact ⟨u, ((m.ins_perm k v).mem_iff).1 (List.mem_cons_of_mem _ (List.mem_filter.2 ⟨h, by simpa using e⟩))⟩
theorem keys_sorted (m : MapS β) : m.keys.Pairwise (· < ·) := List.pairwise_map.2 m.so
theorem keys_nodup (m : MapS β) : m.keys.Nodup := m.nodup
/-- A set within a bound has at most so many keys. -/
theorem len_le {m : MapS β} {n : Nat} (h : ∀ r, m.Has r → 0 ≤ r ∧ r < (n : Int)) : m.keys.length ≤ n := by
  have := nodup_len (l' := (List.range n).map fun (i : Nat) => (i : Int)) m.keys_nodup fun x hx => by
    have := h x hx
    exact List.mem_map.2 ⟨x.toNat, List.mem_range.2 (by omega), by omega⟩
  simpa using this
end MapS

namespace Unt
set_option maxRecDepth 10000
def AllT (m : MapS Bool) : Prop := ∀ p ∈ m.es, p.2 = true
theorem allT_mk0 : AllT MapS.mk0 := fun p h => by simp [MapS.mk0] at h
theorem allT_ins {m : MapS Bool} (h : AllT m) (k : Int) : AllT (m.ins k true) := fun p hp => by
  rcases List.mem_cons.1 (((m.ins_perm k true).mem_iff).2 hp) with e | e
  · rw [e]
  · exact h p (List.mem_filter.1 e).1
theorem allT_get {m : MapS Bool} (h : AllT m) (r : Int) : (m.get r).getD false = true ↔ m.Has r := by
  rw [MapS.has_iff]
  constructor
  · intro hg
    cases e : m.get r with
    | none => rw [e] at hg; cases hg
    | some v => exact ⟨v, (lookM_some m.nodup).1 e⟩
  · rintro ⟨v, hv⟩
    have : m.get r = some v := (lookM_some m.nodup).2 hv
    rw [this]; exact h _ hv
def HasB (l : List Bool) (r : Int) : Prop := getI l r = some true
theorem hasB_iff {l : List Bool} {r : Int} : HasB l r ↔ 0 ≤ r ∧ l[r.toNat]? = some true := getI_some
theorem hasB_set {l : List Bool} {q r : Int} {v : Bool} (h0 : 0 ≤ q) (h1 : q < (l.length : Int)) : HasB (l.set q.toNat v) r ↔ (if r = q then v = true else HasB l r) := by
  rw [hasB_iff, hasB_iff]
  by_cases e : r = q
  · subst e
    rw [if_pos rfl, List.getElem?_set_self (by omega)]
    simp [h0]
  · rw [if_neg e]
    by_cases hr : 0 ≤ r
    · rw [List.getElem?_set_ne (by omega)]
    · simp [hr]
theorem sorted_eq : ∀ {xs ys : List Int}, xs.Pairwise (· < ·) → ys.Pairwise (· < ·) → (∀ r, r ∈ xs ↔ r ∈ ys) → xs = ys
  | [], [], _, _, _ => rfl
  | [], y :: ys, _, _, h => by have := (h y).2 (List.mem_cons_self ..); simp at this
  | x :: xs, [], _, _, h => by have := (h x).1 (List.mem_cons_self ..); simp at this
  | x :: xs, y :: ys, hx, hy, h => by
    rw [List.pairwise_cons] at hx hy
    have hxy : x = y := by
      rcases List.mem_cons.1 ((h x).1 (List.mem_cons_self ..)) with e | e
      · exact e
      · rcases List.mem_cons.1 ((h y).2 (List.mem_cons_self ..)) with e' | e'
        · exact e'.symm
        · have := hy.1 x e; have := hx.1 y e'; omega
    subst hxy
    rw [sorted_eq hx.2 hy.2 fun r => ?_]
    constructor
    · intro hr
      rcases List.mem_cons.1 ((h r).1 (List.mem_cons_of_mem _ hr)) with e | e
      · subst e; have := hx.1 r hr; omega
      · exact e
    · intro hr
      rcases List.mem_cons.1 ((h r).2 (List.mem_cons_of_mem _ hr)) with e | e
      · subst e; have := hy.1 r hr; omega
      · exact e

theorem l12List_ok (l : List Bool) (hl : l.length ≤ 1048576) : ∃ xs, spec_l12List l = some xs ∧ xs.Pairwise (· < ·) ∧ ∀ r, r ∈ xs ↔ HasB l r := by
  unfold spec_l12List
  rcases forN_law (body := (fun (i1_1 : Int) (xs1_1 : (List Int)) => (Option.bind (Option.bind (getI l i1_1) fun x2_1 => Option.bind (if x2_1 then Option.bind (appM xs1_1 ([i1_1] : List Int)) fun ys3_1 => some ys3_1 else some xs1_1 : Option ((List Int))) fun s2_1 => some s2_1 : Option ((List Int))) fun s1_1 => some (.inl s1_1) : Option (((List Int)) ⊕ (Empty))))) (k := (((l.length : Int)) - 0).toNat) (i := 0) (s := ([] : List Int)) (fun j xs => (xs.length : Int) ≤ j ∧ xs.Pairwise (· < ·) ∧ ∀ r, r ∈ xs ↔ (r < j ∧ HasB l r)) (fun _ => False) ⟨by simp, .nil, fun r => ⟨fun h => by simp at h, fun h => by have := (hasB_iff.1 h.2).1; omega⟩⟩ (fun j s h1 h2 hI => by
    obtain ⟨g1, g2, g3⟩ := hI
    obtain ⟨v, hv, _⟩ := getI_in (xs := l) (j := j) h1 (by omega)
    have hvb : v = true ↔ HasB l j := by unfold HasB; rw [hv]; simp
    left
    cases v with
    | false =>
      have hn : ¬ HasB l j := fun h => by have := hvb.2 h; cases this
      refine ⟨s, by rw [hv]; rfl, by omega, g2, fun r => ?_⟩
      rw [g3]
      exact ⟨fun h => ⟨by omega, h.2⟩, fun h => ⟨by have : r ≠ j := fun e => hn (e ▸ h.2); omega, h.2⟩⟩
    | true =>
      refine ⟨s ++ [j], ?_, by simp; omega, List.pairwise_append.2 ⟨g2, by simp, fun a ha b hb => ?_⟩, fun r => ?_⟩
      · rw [hv, Option.bind_some, if_pos rfl, appM_ok (by simp; omega)]; rfl
      · rw [List.mem_singleton.1 hb]; exact ((g3 a).1 ha).1
      · rw [List.mem_append, g3, List.mem_singleton]
        constructor
        · rintro (h | h)
          · exact ⟨by omega, h.2⟩
          · subst h; exact ⟨by omega, hvb.1 rfl⟩
        · rintro ⟨h, h2⟩
          rcases Int.lt_or_eq_of_le (show r ≤ j by omega) with h3 | h3
          · exact .inl ⟨h3, h2⟩
          · exact .inr h3) with ⟨s, h, _, h2, h3⟩ | ⟨e, _, h⟩
  · refine ⟨s, bindt h rfl, h2, fun r => ?_⟩
    rw [h3]
    exact ⟨And.right, fun h => ⟨by have h4 := hasB_iff.1 h; have := (List.getElem?_eq_some_iff.1 h4.2).1; omega, h⟩⟩
  · exact h.elim

/-- A map's keys are a list's registers where the sets are the same. -/
theorem keys_list {m : MapS Bool} {l : List Bool} (hl : l.length ≤ 1048576) (h : ∀ r, m.Has r ↔ HasB l r) : spec_l12List l = some m.keys := by
  obtain ⟨xs, h1, h2, h3⟩ := l12List_ok l hl
  rw [h1, sorted_eq h2 m.keys_sorted fun r => by rw [h3, ← h]; rfl]

end Unt
end Go.Wk
/- The places to which a function may come: the program's search and the reference's. -/
namespace Go.Wk
open Go
namespace Reach
open Fits Unt
set_option maxRecDepth 10000

def nextL (x : Mins) (k : Int) : List Int := (if jumps x then [x.n_] else []) ++ (if decide (x.op ≠ 20) && decide (x.op ≠ 22) then [k + 1] else [])
theorem nextL_len (x : Mins) (k : Int) : (nextL x k).length ≤ 2 := by
  unfold nextL
  rw [List.length_append]
  split <;> split <;> simp
theorem cnt_set : ∀ {l : List Bool} {i : Nat}, l[i]? = some false → (l.set i true).count false + 1 = l.count false
  | [], i, h => by simp at h
  | b :: l, 0, h => by simp at h; subst h; simp
  | b :: l, i + 1, h => by
    have := cnt_set (l := l) (i := i) (by simpa using h)
    simp only [List.set_cons_succ, List.count_cons]
    omega

inductive R (f : Mfn) : Int → Prop
  | zero : R f 0
  | step {k j : Int} {x : Mins} : R f k → getI f.ins k = some x → j ∈ nextL x k → R f j

section
variable {f : Mfn} (hf : fits f.ins = true) (hl : f.ins.length ≤ 1048576)
include hf
theorem ne : f.ins ≠ [] := fun e => by simp [fits, e] at hf
theorem next_in {k j : Int} {x : Mins} (hx : getI f.ins k = some x) (hj : j ∈ nextL x k) : 0 ≤ j ∧ j < (f.ins.length : Int) := by
  have hne := ne hf
  obtain ⟨h0, h1⟩ := getI_some.1 hx
  obtain ⟨h2, h3⟩ := List.getElem?_eq_some_iff.1 h1
  simp only [fits, Bool.and_eq_true, Bool.not_eq_true'] at hf
  obtain ⟨f1, f2⟩ := hf
  unfold nextL at hj
  rcases List.mem_append.1 hj with h | h
  · by_cases q : jumps x = true
    · rw [if_pos q, List.mem_singleton] at h
      have := (List.any_eq_false.1 f1) x (List.mem_of_getElem? h1)
      have hoff : off (f.ins.length : Int) x = false := by
        cases e : off (f.ins.length : Int) x
        · rfl
        · exact absurd e this
      simp only [off, q, Bool.true_and, Bool.not_eq_false'] at hoff
      simp only [Fits.inB, Bool.and_eq_true, decide_eq_true_eq] at hoff
      omega
    · rw [if_neg q] at h; simp at h
  · by_cases q : (decide (x.op ≠ 20) && decide (x.op ≠ 22)) = true
    · rw [if_pos q, List.mem_singleton] at h
      subst h
      refine ⟨by omega, ?_⟩
      by_cases e : k = (f.ins.length : Int) - 1
      · have hlast := last_ok hne
        rw [← e, hx] at hlast
        rw [List.getLast?_eq_some_getLast hne, ← Option.some.inj hlast] at f2
        simp only [Bool.and_eq_true, decide_eq_true_eq] at q
        simp only [Bool.or_eq_true, decide_eq_true_eq] at f2
        omega
      · omega
    · rw [if_neg q] at h; simp at h
include hl
omit hf in
theorem next_ok {k : Int} {x : Mins} (hx : getI f.ins k = some x) : impl_ReachedMins_1 k f = some (nextL x k) := by
  obtain ⟨h0, h1⟩ := getI_some.1 hx
  have h2 := (List.getElem?_eq_some_iff.1 h1).1
  unfold impl_ReachedMins_1
  have hw : w64 (k + 1) = k + 1 := w64_id (by omega) (by omega)
  rw [hx, Option.bind_some, jumpOp_ok, Option.bind_some, hw]
  unfold nextL
  have e1 : (if decide (x.op ≠ 20) = true then some (decide (x.op ≠ 22)) else some false : Option Bool) = some (decide (x.op ≠ 20) && decide (x.op ≠ 22)) := by
    by_cases q : x.op = 20 <;> simp [q]
  rw [e1]
  cases jumps x <;> cases (decide (x.op ≠ 20) && decide (x.op ≠ 22)) <;> rfl

theorem dfs : ∀ (N : Nat) (n : Int) (m : MapS Bool), AllT m → (∀ r, m.Has r → 0 ≤ r ∧ r < (f.ins.length : Int)) → f.ins.length - m.keys.length ≤ N → 0 ≤ n → n < (f.ins.length : Int) →
    ∃ m', impl_closure_1 n m (fun y => impl_ReachedMins_1 y f) = some m' ∧ AllT m' ∧ (∀ r, m.Has r → m'.Has r) ∧ m'.Has n ∧ (∀ r, m'.Has r → 0 ≤ r ∧ r < (f.ins.length : Int)) ∧ (R f n → ∀ r, m'.Has r → m.Has r ∨ R f r) ∧
      ∀ r x, m'.Has r → getI f.ins r = some x → m.Has r ∨ ∀ j ∈ nextL x r, m'.Has j := by
  intro N
  induction N with
  | zero =>
    intro n m ht hr hN h0 h1
    by_cases hn : m.Has n
    · refine ⟨m, ?_, ht, fun _ h => h, hn, hr, fun _ r h => .inl h, fun r x h _ => .inl h⟩
      rw [impl_closure_1, (allT_get ht n).2 hn]; rfl
    · have := nodup_len (l := n :: m.keys) (l' := (List.range f.ins.length).map fun (i : Nat) => (i : Int)) (List.nodup_cons.2 ⟨hn, m.keys_nodup⟩) (fun x hx => by
        have : 0 ≤ x ∧ x < (f.ins.length : Int) := by
          rcases List.mem_cons.1 hx with e | e
          · subst e; exact ⟨h0, h1⟩
          · exact hr x e
        exact List.mem_map.2 ⟨x.toNat, List.mem_range.2 (by omega), by omega⟩)
      simp at this
      omega
  | succ N ih =>
    intro n m ht hr hN h0 h1
    by_cases hn : m.Has n
    · refine ⟨m, ?_, ht, fun _ h => h, hn, hr, fun _ r h => .inl h, fun r x h _ => .inl h⟩
      rw [impl_closure_1, (allT_get ht n).2 hn]; rfl
    · have hg : (m.get n).getD false = false := by
        cases e : (m.get n).getD false
        · rfl
        · exact absurd ((allT_get ht n).1 e) hn
      obtain ⟨x, hx, _⟩ := getI_in (xs := f.ins) h0 h1
      have hm1 : m.keys.length + 1 ≤ (m.ins n true).keys.length := by
        have := nodup_len (l := n :: m.keys) (l' := (m.ins n true).keys) (List.nodup_cons.2 ⟨hn, m.keys_nodup⟩) (fun y hy => MapS.has_ins.2 (List.mem_cons.1 hy))
        simpa using this
      have hr1 : ∀ r, (m.ins n true).Has r → 0 ≤ r ∧ r < (f.ins.length : Int) := fun r h => by
        rcases MapS.has_ins.1 h with e | e
        · subst e; exact ⟨h0, h1⟩
        · exact hr r e
      rcases forN_list (xs := nextL x n) (body := (fun (i2_1 : Int) (xs2_1 : (MapS Bool)) => (Option.bind (getI (nextL x n) i2_1) fun x2_1 => Option.bind (impl_closure_1 x2_1 xs2_1 (fun y↦impl_ReachedMins_1 y f)) fun r2_1 => some (.inl r2_1) : Option (((MapS Bool)) ⊕ (Empty))))) (s := m.ins n true)
        (fun pre s => AllT s ∧ (∀ r, (m.ins n true).Has r → s.Has r) ∧ (∀ r, s.Has r → 0 ≤ r ∧ r < (f.ins.length : Int)) ∧ (∀ j ∈ pre, s.Has j) ∧ (R f n → ∀ r, s.Has r → (m.ins n true).Has r ∨ R f r) ∧
          ∀ r y, s.Has r → getI f.ins r = some y → (m.ins n true).Has r ∨ ∀ j ∈ nextL y r, s.Has j) (fun _ => False)
        ⟨allT_ins ht n, fun _ h => h, hr1, fun j h => by simp at h, fun _ r h => .inl h, fun r y h _ => .inl h⟩ (fun pre j post s he hI => by
          obtain ⟨i1, i2, i3, i4, i5, i6⟩ := hI
          have hjm : j ∈ nextL x n := by rw [he]; simp
          have hj := next_in hf hx hjm
          have hsl := nodup_len (l := (m.ins n true).keys) (l' := s.keys) (MapS.keys_nodup _) (fun r h => i2 r h)
          obtain ⟨s', g1, g2, g3, g4, g5, g6, g7⟩ := ih j s i1 i3 (by omega) hj.1 hj.2
          refine .inl ⟨s', ?_, g2, fun r h => g3 r (i2 r h), g5, fun k hk => ?_, fun hR r h => ?_, fun r y h hy => ?_⟩
          · rw [show getI (nextL x n) (pre.length : Int) = some j by rw [he]; exact getI_mid, Option.bind_some, g1]; rfl
          · rcases List.mem_append.1 hk with h | h
            · exact g3 k (i4 k h)
            · rw [List.mem_singleton.1 h]; exact g4
          · rcases g6 (.step hR hx hjm) r h with h | h
            · exact i5 hR r h
            · exact .inr h
          · rcases g7 r y h hy with h | h
            · rcases i6 r y h hy with h | h
              · exact .inl h
              · exact .inr fun k hk => g3 k (h k hk)
            · exact .inr h) with ⟨s, e1, e2, e3, e4, e5, e6, e7⟩ | ⟨e, _, h⟩
      rotate_left
      · exact h.elim
      refine ⟨s, ?_, e2, fun r h => e3 r (MapS.has_ins.2 (.inr h)), e3 n (MapS.has_ins.2 (.inl rfl)), e4, fun hR r h => ?_, fun r y h hy => ?_⟩
      · rw [impl_closure_1, hg]
        refine bindt (a := s) ?_ rfl
        show Option.bind (impl_ReachedMins_1 n f) _ = _
        rw [next_ok hl hx, Option.bind_some]
        exact bindt e1 rfl
      · rcases e6 hR r h with h | h
        · rcases MapS.has_ins.1 h with e | e
          · subst e; exact .inr hR
          · exact .inl e
        · exact .inr h
      · rcases e7 r y h hy with h | h
        · rcases MapS.has_ins.1 h with e | e
          · subst e
            rw [hx] at hy; cases hy
            exact .inr e5
          · exact .inl e
        · exact .inr h

theorem impl_set : ∃ m, impl_closure_1 0 MapS.mk0 (fun y => impl_ReachedMins_1 y f) = some m ∧ ∀ r, m.Has r ↔ R f r := by
  have hne := ne hf
  have hpos : 0 < f.ins.length := List.length_pos_iff.2 hne
  obtain ⟨m, g1, g2, g3, g4, g5, g6, g7⟩ := dfs hf hl f.ins.length 0 MapS.mk0 allT_mk0 (fun r h => absurd h MapS.has_mk0) (by omega) (Int.le_refl _) (by omega)
  refine ⟨m, g1, fun r => ⟨fun h => ?_, fun h => ?_⟩⟩
  · rcases g6 .zero r h with h | h
    · exact absurd h MapS.has_mk0
    · exact h
  · induction h with
    | zero => exact g4
    | step h1 hx hj ih =>
      rcases g7 _ _ ih hx with h | h
      · exact absurd h MapS.has_mk0
      · exact h _ hj

theorem spec_set : ∃ xs, spec_l24Reached f = some xs ∧ xs.length = f.ins.length ∧ ∀ r, HasB xs r ↔ R f r := by
  have hne := ne hf
  have hpos : 0 < f.ins.length := List.length_pos_iff.2 hne
  unfold spec_l24Reached
  rw [makeM_ok (by omega) (by omega), Option.bind_some, Int.toNat_natCast]
  obtain ⟨xs, e1, e2, e3, e4, e5⟩ := loopM_law (b1 := (fun (xs2_1 : (List Bool) × (List Int)) => (if decide (0 < ((xs2_1.2.length : Int))) then Option.bind (Option.bind (getI xs2_1.2 0) fun x3_1 => Option.bind (subM xs2_1.2 1 (xs2_1.2.length : Int)) fun x3_2 => Option.bind (getI xs2_1.1 x3_1) fun x3_3 => if x3_3 then some (xs2_1.1, x3_2) else Option.bind (getI f.ins x3_1) fun x3_4 => Option.bind (spec_l24Jumps x3_4) fun r3_1 => Option.bind (if r3_1 then Option.bind (appM x3_2 ([x3_4.n_] : List Int)) fun ys4_1 => some ys4_1 else some x3_2 : Option ((List Int))) fun s3_1 => Option.bind (if decide (x3_4.op ≠ 20) then some (decide (x3_4.op ≠ 22)) else some false : Option (Bool)) fun s3_2 => Option.bind (if s3_2 then Option.bind (appM s3_1 ([w64 (x3_1 + 1)] : List Int)) fun ys4_2 => some ys4_2 else some s3_1 : Option ((List Int))) fun s3_3 => some ((xs2_1.1.set (x3_1).toNat true), s3_3) : Option ((List Bool) × (List Int))) fun s2_1 => some (.inl (s2_1.1, s2_1.2)) else some (.inr xs2_1.1) : Option (((List Bool) × (List Int)) ⊕ ((List Bool)))))) (fun s : List Bool × List Int => s.1.length = f.ins.length ∧ (∀ r, HasB s.1 r → R f r) ∧ (∀ j ∈ s.2, R f j ∧ 0 ≤ j ∧ j < (f.ins.length : Int)) ∧ (HasB s.1 0 ∨ 0 ∈ s.2) ∧
      (∀ r x, HasB s.1 r → getI f.ins r = some x → ∀ j ∈ nextL x r, HasB s.1 j ∨ j ∈ s.2) ∧ 3 * s.1.count false + s.2.length ≤ 3 * f.ins.length + 1)
    (fun xs : List Bool => xs.length = f.ins.length ∧ (∀ r, HasB xs r → R f r) ∧ HasB xs 0 ∧ ∀ r x, HasB xs r → getI f.ins r = some x → ∀ j ∈ nextL x r, HasB xs j) (fun s => 3 * s.1.count false + s.2.length) (fun s hs => by
      obtain ⟨seen, todo⟩ := s
      obtain ⟨i1, i2, i3, i4, i5, i6⟩ := hs
      dsimp only at i1 i2 i3 i4 i5 i6 ⊢
      cases todo with
      | nil =>
        right
        exact ⟨seen, by simp, i1, i2, by simpa using i4, fun r x h hx j hj => by simpa using i5 r x h hx j hj⟩
      | cons k todo =>
        left
        obtain ⟨hR, hk0, hk1⟩ := i3 k (List.mem_cons_self ..)
        obtain ⟨b, hb, hb2, _⟩ := getI_in (xs := seen) (j := k) hk0 (by omega)
        obtain ⟨x, hx, _⟩ := getI_in (xs := f.ins) hk0 hk1
        have hsub : subM (k :: todo) 1 ((k :: todo).length : Int) = some todo := subM_some.2 ⟨⟨by omega, by rw [List.length_cons]; omega, Int.le_refl _⟩, by simp⟩
        have hhd : getI (k :: todo) 0 = some k := rfl
        simp only [List.length_cons] at i6
        cases b with
        | true =>
          have hkb : HasB seen k := hb
          refine ⟨(seen, todo), ?_, ⟨i1, i2, fun j hj => i3 j (List.mem_cons_of_mem _ hj), ?_, fun r y h hy j hj => ?_, by dsimp only; omega⟩, by simp⟩
          · rw [if_pos (by simp), hhd, Option.bind_some, hsub, Option.bind_some, hb]; rfl
          · rcases i4 with h | h
            · exact .inl h
            · rcases List.mem_cons.1 h with e | e
              · subst e; exact .inl hkb
              · exact .inr e
          · rcases i5 r y h hy j hj with h | h
            · exact .inl h
            · rcases List.mem_cons.1 h with e | e
              · subst e; exact .inl hkb
              · exact .inr e
        | false =>
          have hc := cnt_set hb2
          have hset : ∀ r, HasB (seen.set k.toNat true) r ↔ (r = k ∨ HasB seen r) := fun r => by
            rw [hasB_set hk0 (by omega)]
            by_cases e : r = k <;> simp [e]
          have hnl := nextL_len x k
          refine ⟨(seen.set k.toNat true, todo ++ nextL x k), ?_, ⟨by simpa using i1, fun r h => ?_, fun j hj => ?_, ?_, fun r y h hy j hj => ?_, by dsimp only; rw [List.length_append]; omega⟩, by dsimp only; rw [List.length_append, List.length_cons]; omega⟩
          · have hw : w64 (k + 1) = k + 1 := w64_id (by omega) (by omega)
            rw [if_pos (by simp), hhd, Option.bind_some, hsub, Option.bind_some, hb, Option.bind_some, if_neg (by simp), hx, Option.bind_some, l24Jumps_ok, Option.bind_some, hw]
            have e1 : (if decide (x.op ≠ 20) = true then some (decide (x.op ≠ 22)) else some false : Option Bool) = some (decide (x.op ≠ 20) && decide (x.op ≠ 22)) := by
              by_cases q : x.op = 20 <;> simp [q]
            rw [e1]
            unfold nextL
            have a1 : appM todo [x.n_] = some (todo ++ [x.n_]) := appM_ok (by simp; omega)
            have a2 : appM todo [k + 1] = some (todo ++ [k + 1]) := appM_ok (by simp; omega)
            have a3 : appM (todo ++ [x.n_]) [k + 1] = some (todo ++ [x.n_] ++ [k + 1]) := appM_ok (by simp; omega)
            cases jumps x <;> cases (decide (x.op ≠ 20) && decide (x.op ≠ 22)) <;> simp [a1, a2, a3]
          · rcases (hset r).1 h with e | e
            · subst e; exact hR
            · exact i2 r e
          · rcases List.mem_append.1 hj with h | h
            · exact i3 j (List.mem_cons_of_mem _ h)
            · exact ⟨.step hR hx h, next_in hf hx h⟩
          · rcases i4 with h | h
            · exact .inl ((hset 0).2 (.inr h))
            · rcases List.mem_cons.1 h with e | e
              · exact .inl ((hset 0).2 (.inl e))
              · exact .inr (List.mem_append.2 (.inl e))
          · rcases (hset r).1 h with e | e
            · subst e
              rw [hx] at hy; cases hy
              exact .inr (List.mem_append.2 (.inr hj))
            · rcases i5 r y e hy j hj with h | h
              · exact .inl ((hset j).2 (.inr h))
              · rcases List.mem_cons.1 h with e | e
                · exact .inl ((hset j).2 (.inl e))
                · exact .inr (List.mem_append.2 (.inl e))) (3 * f.ins.length + 2) (List.replicate f.ins.length false, [0])
    ⟨by simp, fun r h => by
      have := (hasB_iff.1 h).2
      rw [List.getElem?_replicate] at this
      split at this <;> simp at this, fun j hj => by rw [List.mem_singleton.1 hj]; exact ⟨.zero, Int.le_refl _, by omega⟩, .inr (by simp), fun r x h => by
      have := (hasB_iff.1 h).2
      rw [List.getElem?_replicate] at this
      split at this <;> simp at this, by simp⟩ (by simp)
  refine ⟨xs, bindt (bindt e1 rfl) rfl, e2, fun r => ⟨e3 r, fun h => ?_⟩⟩
  induction h with
  | zero => exact e4
  | step h1 hx hj ih => exact e5 _ _ ih hx _ hj
end

theorem core (f : Mfn) (hl : f.ins.length ≤ 1048576) : ∃ r, impl_ReachedMins f = some r ∧ spec_ReachedMins f = some r ∧ r.length ≤ 1048576 := by
  unfold impl_ReachedMins spec_ReachedMins
  rw [fits_impl f hl, fits_spec, Option.bind_some, Option.bind_some]
  cases hf : fits f.ins
  · exact ⟨[], rfl, rfl, by simp⟩
  · obtain ⟨m, h1, h2⟩ := impl_set hf hl
    obtain ⟨xs, g1, g2, g3⟩ := spec_set hf hl
    have hk : m.keys.length ≤ 1048576 := Nat.le_trans (MapS.len_le (n := f.ins.length) fun r hr => by
      have h3 := hasB_iff.1 ((g3 r).2 ((h2 r).1 hr))
      have := (List.getElem?_eq_some_iff.1 h3.2).1
      omega) hl
    refine ⟨m.keys, ?_, ?_, hk⟩
    · simp only [Bool.not_true, Bool.false_eq_true, if_false]
      refine bindt (a := m.keys) ?_ rfl
      unfold impl_closure
      refine bindt (a := Sum.inl m) ?_ ?_
      · show forN _ 1 0 MapS.mk0 = _
        rw [forN]
        rw [show getI ([0] : List Int) 0 = some 0 from rfl, Option.bind_some, h1]
        rfl
      · show Option.bind (appM [] m.keys) _ = _
        rw [keysM_ok (by omega)]; rfl
    · simp only [Bool.not_true, Bool.false_eq_true, if_false, g1, Option.bind_some]
      rw [keys_list (by omega) (fun r => (h2 r).trans (g3 r).symm)]; rfl

theorem law (aF : Mfn) (hl : aF.ins.length ≤ 140737488355328) : laws_FnExactReachedMins aF = some true := by
  unfold laws_FnExactReachedMins
  rw [szMfn_ok _ _ (by omega) (by omega) hl, Option.bind_some]
  by_cases h : (1048576 : Int) - aF.ins.length < 0
  · simp [h]
  have hl' : aF.ins.length ≤ 1048576 := by omega
  rw [if_neg h, if_neg (by simpa using h), toMfn_ok _ hl']
  obtain ⟨g, g1, g2, g3⟩ := core aF hl'
  have hm1 : laws_markMfn aF 1 = some (1 + 5 * (aF.ins.length : Int), mkL mkMins (fun _ => 5) aF.ins 1) := by
    unfold laws_markMfn
    rw [markMinsS_ok _ _ (by omega) (by omega)]; rfl
  have hm2 := markIntS_ok g 1 (by omega) (by omega)
  have hh2 := heldIntS_ok g 1 (by omega) (by omega)
  have e1 : ¬ (1 + 5 * (aF.ins.length : Int) < 0) := by omega
  have e2 : ¬ (1 + (g.length : Int) < 0) := by omega
  simp only [Option.bind_some, g1, g2, eqMfn_ok, eqIntS_ok, hm1, hm2, hh2, decide_true, Bool.not_true, Bool.false_eq_true, if_false, e1, e2, decide_false, ne_eq, not_true_eq_false]
end Reach
end Go.Wk
