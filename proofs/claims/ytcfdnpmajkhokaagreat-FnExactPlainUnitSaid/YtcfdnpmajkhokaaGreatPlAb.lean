/- A part of the proof of FnExactPlainUnitSaid. -/
import Derived.Test.YtcfdnpmajkhokaaGreatPlA
namespace Go.Wk
open Go
namespace Unt
set_option maxRecDepth 10000
section
variable {u : Unit_} {k : Int} {c : Code_} (hck : COk u k c) (hsm : ∀ b ∈ c.blocks, SmB b)
include hck
theorem spX_start : SpX c c.blocks [] := by
  have hnb := hck.nb
  refine ⟨by simp, fun j x hx => ⟨x, hx, rfl, rfl, rfl, rfl, rfl, fun i n hn => .inl hn⟩, fun t ht => by simp at ht, fun t ht => by simp at ht, fun t ht => by simp at ht, fun p y hy m hm => ?_⟩
  have := (hck.bok (getI_some.2 ⟨by omega, by simpa using hy⟩ : getI c.blocks (p : Int) = some y)).next m hm
  omega
include hsm
theorem spP_start : ∃ P, impl_phisOf c = some P ∧ SpP c c.blocks [] P := by
  obtain ⟨P, h1, h2, h3⟩ := phisOf_ok2 hck hsm
  refine ⟨P, h1, h2, fun j x hx => ?_, fun t ht => by simp at ht⟩
  obtain ⟨ms, g1, g2, g3⟩ := h3 (j : Int) x (getI_some.2 ⟨by omega, by simpa using hx⟩)
  refine ⟨ms, by simpa using (getI_some.1 g1).2, g2, fun q f M hf hM p hp => ?_⟩
  have hp' : p ∈ predsL c (j : Int) := hp
  have hpb := predsL_iff.1 hp'
  obtain ⟨y, hy, _⟩ := hpb
  have := getI_pos hy
  have hs : src c [] p = p := by unfold src; rw [if_pos this.2]
  rw [hs]
  exact (lookM_some M.nodup).2 (g3 q f M hf hM p hp')
theorem split_blocks : ∃ P0 xs S P, impl_phisOf c = some P0 ∧ forN (fun (i1_1 : Int) (xs1_1 : (List Block_) × (List (List (MapS Int)))) => (Option.bind (impl_sharpNext c i1_1) fun r1_1 => Option.bind (forN (S := (List Block_) × (List (List (MapS Int)))) (X := Empty) (fun i2_1 xs2_1 => Option.bind (getI r1_1 i2_1) fun x2_1 => Option.bind (appM xs2_1.1 ([(⟨[], [], 1, 0, ([x2_1] : List Int)⟩ : Block_)] : List Block_)) fun ys2_1 => Option.bind (appM xs2_1.2 ([[]] : List (List (MapS Int)))) fun ys2_2 => Option.bind (getI ys2_1 i1_1) fun x2_2 => Option.bind (forN (S := (List Int)) (X := Empty) (fun i3_1 xs3_1 => Option.bind (Option.bind (getI xs3_1 i3_1) fun x4_1 => Option.bind (if decide (x4_1 = x2_1) then some (xs3_1.set (i3_1).toNat (xs2_1.1.length : Int)) else some xs3_1 : Option ((List Int))) fun s4_1 => some s4_1 : Option ((List Int))) fun s3_1 => some (.inl s3_1)) (((x2_2.next_.length : Int) : Int) - 0).toNat 0 x2_2.next_) (Sum.elim (fun xs2_2 => Option.bind (getI ys2_2 x2_1) fun x2_3 => Option.bind (forN (S := (List (MapS Int))) (X := Empty) (fun i3_2 xs3_2 => Option.bind (getI xs3_2 i3_2) fun x3_1 => Option.bind (neM x3_1) fun u3_1 => some (.inl (xs3_2.set (i3_2).toNat (MapS.del (MapS.ins x3_1 (xs2_1.1.length : Int) ((MapS.get x3_1 i1_1).getD 0)) i1_1)))) (((x2_3.length : Int) : Int) - 0).toNat 0 x2_3) (Sum.elim (fun xs2_3 => some (.inl ((ys2_1.set (i1_1).toNat (⟨x2_2.phis, x2_2.ins, x2_2.jump, x2_2.on, xs2_2⟩ : Block_)), (ys2_2.set (x2_1).toNat xs2_3)))) (fun (e0 : Empty) => nomatch e0))) (fun (e0 : Empty) => nomatch e0))) (((r1_1.length : Int) : Int) - 0).toNat 0 (xs1_1.1, xs1_1.2)) (Sum.elim (fun xs1_2 => some (.inl (xs1_2.1, xs1_2.2))) (fun (e0 : Empty) => nomatch e0)) : Option (((List Block_) × (List (List (MapS Int)))) ⊕ (Empty)))) (((c.blocks.length : Int) : Int) - 0).toNat 0 (c.blocks, P0) = some (.inl (xs, P)) ∧ forN (fun (i1_1 : Int) (xs1_1 : (List Block_)) => (Option.bind (Option.bind (loopM (S := (List Block_) × Int) (X := (List Block_)) (fun xs3_1 => Option.bind (getI c.blocks i1_1) fun x3_1 => if decide (xs3_1.2 < ((x3_1.next_.length : Int))) then Option.bind (Option.bind (spec_l10Sharp c i1_1 xs3_1.2) fun r4_1 => Option.bind (if r4_1 then Option.bind (getI x3_1.next_ xs3_1.2) fun x5_1 => Option.bind (getI xs3_1.1 i1_1) fun x5_2 => Option.bind (getI x5_2.next_ xs3_1.2) fun x5_3 => Option.bind (appM (xs3_1.1.set (i1_1).toNat (⟨x5_2.phis, x5_2.ins, x5_2.jump, x5_2.on, (x5_2.next_.set (xs3_1.2).toNat (xs3_1.1.length : Int))⟩ : Block_)) ([(⟨([] : List Phi_), ([] : List Ins_), 1, 0, ([x5_1] : List Int)⟩ : Block_)] : List Block_)) fun ys5_1 => some ys5_1 else some xs3_1.1 : Option ((List Block_))) fun s4_1 => some s4_1 : Option ((List Block_))) fun s3_1 => some (.inl (s3_1, w64 (xs3_1.2 + 1))) else some (.inr xs3_1.1)) (xs1_1, 0)) (fun e0 => some e0) : Option ((List Block_))) fun s1_1 => some (.inl s1_1) : Option (((List Block_)) ⊕ (Empty)))) (((c.blocks.length : Int) : Int) - 0).toNat 0 c.blocks = some (.inl xs) ∧ SpX c xs S ∧ SpP c xs S P ∧ xs.length ≤ 480 := by
  have hnb := hck.nb
  obtain ⟨P0, hP0, hP⟩ := spP_start hck hsm
  obtain ⟨q, t, e1, e2, e3, S, e4, e5, e6, _⟩ := forN_rel (b1 := (fun (i1_1 : Int) (xs1_1 : (List Block_) × (List (List (MapS Int)))) => (Option.bind (impl_sharpNext c i1_1) fun r1_1 => Option.bind (forN (S := (List Block_) × (List (List (MapS Int)))) (X := Empty) (fun i2_1 xs2_1 => Option.bind (getI r1_1 i2_1) fun x2_1 => Option.bind (appM xs2_1.1 ([(⟨[], [], 1, 0, ([x2_1] : List Int)⟩ : Block_)] : List Block_)) fun ys2_1 => Option.bind (appM xs2_1.2 ([[]] : List (List (MapS Int)))) fun ys2_2 => Option.bind (getI ys2_1 i1_1) fun x2_2 => Option.bind (forN (S := (List Int)) (X := Empty) (fun i3_1 xs3_1 => Option.bind (Option.bind (getI xs3_1 i3_1) fun x4_1 => Option.bind (if decide (x4_1 = x2_1) then some (xs3_1.set (i3_1).toNat (xs2_1.1.length : Int)) else some xs3_1 : Option ((List Int))) fun s4_1 => some s4_1 : Option ((List Int))) fun s3_1 => some (.inl s3_1)) (((x2_2.next_.length : Int) : Int) - 0).toNat 0 x2_2.next_) (Sum.elim (fun xs2_2 => Option.bind (getI ys2_2 x2_1) fun x2_3 => Option.bind (forN (S := (List (MapS Int))) (X := Empty) (fun i3_2 xs3_2 => Option.bind (getI xs3_2 i3_2) fun x3_1 => Option.bind (neM x3_1) fun u3_1 => some (.inl (xs3_2.set (i3_2).toNat (MapS.del (MapS.ins x3_1 (xs2_1.1.length : Int) ((MapS.get x3_1 i1_1).getD 0)) i1_1)))) (((x2_3.length : Int) : Int) - 0).toNat 0 x2_3) (Sum.elim (fun xs2_3 => some (.inl ((ys2_1.set (i1_1).toNat (⟨x2_2.phis, x2_2.ins, x2_2.jump, x2_2.on, xs2_2⟩ : Block_)), (ys2_2.set (x2_1).toNat xs2_3)))) (fun (e0 : Empty) => nomatch e0))) (fun (e0 : Empty) => nomatch e0))) (((r1_1.length : Int) : Int) - 0).toNat 0 (xs1_1.1, xs1_1.2)) (Sum.elim (fun xs1_2 => some (.inl (xs1_2.1, xs1_2.2))) (fun (e0 : Empty) => nomatch e0)) : Option (((List Block_) × (List (List (MapS Int)))) ⊕ (Empty))))) (b2 := (fun (i1_1 : Int) (xs1_1 : (List Block_)) => (Option.bind (Option.bind (loopM (S := (List Block_) × Int) (X := (List Block_)) (fun xs3_1 => Option.bind (getI c.blocks i1_1) fun x3_1 => if decide (xs3_1.2 < ((x3_1.next_.length : Int))) then Option.bind (Option.bind (spec_l10Sharp c i1_1 xs3_1.2) fun r4_1 => Option.bind (if r4_1 then Option.bind (getI x3_1.next_ xs3_1.2) fun x5_1 => Option.bind (getI xs3_1.1 i1_1) fun x5_2 => Option.bind (getI x5_2.next_ xs3_1.2) fun x5_3 => Option.bind (appM (xs3_1.1.set (i1_1).toNat (⟨x5_2.phis, x5_2.ins, x5_2.jump, x5_2.on, (x5_2.next_.set (xs3_1.2).toNat (xs3_1.1.length : Int))⟩ : Block_)) ([(⟨([] : List Phi_), ([] : List Ins_), 1, 0, ([x5_1] : List Int)⟩ : Block_)] : List Block_)) fun ys5_1 => some ys5_1 else some xs3_1.1 : Option ((List Block_))) fun s4_1 => some s4_1 : Option ((List Block_))) fun s3_1 => some (.inl (s3_1, w64 (xs3_1.2 + 1))) else some (.inr xs3_1.1)) (xs1_1, 0)) (fun e0 => some e0) : Option ((List Block_))) fun s1_1 => some (.inl s1_1) : Option (((List Block_)) ⊕ (Empty))))) (k := (((c.blocks.length : Int) : Int) - 0).toNat) (i := 0) (s := (c.blocks, P0)) (t := c.blocks)
    (fun j q t => t = q.1 ∧ ∃ S, SpX c q.1 S ∧ SpP c q.1 S q.2 ∧ (q.1.length : Int) ≤ c.blocks.length + 2 * j ∧ ∀ j' : Nat, j ≤ (j' : Int) → j' < c.blocks.length → q.1[j']? = c.blocks[j']?) ⟨rfl, [], spX_start hck, hP, by dsimp only; omega, fun _ _ _ => rfl⟩ (fun j q t j0 j1 hI => by
      obtain ⟨xs, P⟩ := q
      obtain ⟨rfl, S, h1, h2, h3, h4⟩ := hI
      dsimp only at h1 h2 h3 h4 ⊢
      obtain ⟨x, hx, hx2, _⟩ := getI_in (xs := c.blocks) (j := j) j0 (by omega)
      have hjj : ((j.toNat : Nat) : Int) = j := by omega
      have hy := (h4 j.toNat (by omega) (by omega)).trans hx2
      obtain ⟨xs', S', P', f1, f2, f3, f4, f5, f6⟩ := split_block (b := j.toNat) hck h1 h2 hx2 hy rfl (by omega)
      rw [hjj] at f1 f2
      refine ⟨(xs', P'), xs', ?_, ?_, rfl, S', f3, f4, by dsimp only; omega, fun j' g1 g2 => ?_⟩
      · rw [sharpNext_ok hck hx, Option.bind_some]
        exact bindt f1 rfl
      · exact bindt (bindt f2 rfl) rfl
      · rw [f6 j' (by omega) g2]
        exact h4 j' (by omega) g2)
  obtain ⟨xs, P⟩ := q
  dsimp only at e3 e4 e5 e6
  subst e3
  exact ⟨P0, t, S, P, hP0, e1, e2, e4, e5, by omega⟩
end
def phiG (c : Code_) (xs : List Block_) (S : List Int) (j : Int) (f : Phi_) : Phi_ := ⟨f.to, (predsL (wX c xs) j).map fun p => at_ f.args (idx (src c S p) (predsL c j) 0)⟩
def finG (c : Code_) (xs : List Block_) (S : List Int) (j : Nat) (y : Block_) : Block_ := ⟨y.phis.map (phiG c xs S (j : Int)), y.ins, y.jump, y.on, y.next_⟩
def midG (c : Code_) (xs : List Block_) (S : List Int) (j : Nat) (y : Block_) (q : Nat) : Block_ := ⟨(y.phis.take q).map (phiG c xs S (j : Int)) ++ y.phis.drop q, y.ins, y.jump, y.on, y.next_⟩
def atG (c : Code_) (xs : List Block_) (S : List Int) (i : Nat) : List Block_ := xs.mapIdx fun j y => if j < i then finG c xs S j y else y
def spC (c : Code_) (xs : List Block_) (S : List Int) : Code_ := wX c (xs.mapIdx (finG c xs S))
section
variable {c : Code_} {xs : List Block_} {S : List Int}
theorem atG_len {i : Nat} : (atG c xs S i).length = xs.length := by simp [atG]
theorem atG_get {i j : Nat} {y : Block_} (h : xs[j]? = some y) : (atG c xs S i)[j]? = some (if j < i then finG c xs S j y else y) := by
  unfold atG; rw [List.getElem?_mapIdx, h]; rfl
theorem atG_zero : atG c xs S 0 = xs := by
  apply List.ext_getElem?
  intro j
  unfold atG
  rw [List.getElem?_mapIdx]
  cases xs[j]? <;> simp
theorem atG_end : atG c xs S xs.length = xs.mapIdx (finG c xs S) := by
  apply List.ext_getElem?
  intro j
  unfold atG
  rw [List.getElem?_mapIdx, List.getElem?_mapIdx]
  by_cases h : j < xs.length
  · rw [List.getElem?_eq_getElem h]; simp [h]
  · rw [List.getElem?_eq_none (by omega)]; rfl
theorem atG_succ {i : Nat} {y : Block_} (h : xs[i]? = some y) : atG c xs S (i + 1) = (atG c xs S i).set i (finG c xs S i y) := by
  have hi := (List.getElem?_eq_some_iff.1 h).1
  apply List.ext_getElem?
  intro j
  by_cases e : i = j
  · subst e
    rw [List.getElem?_set_self (by rw [atG_len]; exact hi), atG_get h, if_pos (by omega)]
  · rw [List.getElem?_set_ne e]
    unfold atG
    rw [List.getElem?_mapIdx, List.getElem?_mapIdx]
    cases xs[j]? with
    | none => rfl
    | some z =>
      simp only [Option.map_some]
      by_cases h1 : j < i
      · rw [if_pos h1, if_pos (by omega)]
      · rw [if_neg h1, if_neg (by omega)]
theorem midG_zero {j : Nat} {y : Block_} : midG c xs S j y 0 = y := by simp [midG]
theorem midG_end {j : Nat} {y : Block_} : midG c xs S j y y.phis.length = finG c xs S j y := by simp [midG, finG]
theorem next_mid {i q : Nat} {y : Block_} (h : xs[i]? = some y) : ((atG c xs S i).set i (midG c xs S i y q)).map (·.next_) = xs.map (·.next_) := by
  have hi := (List.getElem?_eq_some_iff.1 h).1
  apply List.ext_getElem?
  intro j
  rw [List.getElem?_map, List.getElem?_map]
  by_cases e : i = j
  · subst e
    rw [List.getElem?_set_self (by rw [atG_len]; exact hi), h]; rfl
  · rw [List.getElem?_set_ne e]
    unfold atG
    rw [List.getElem?_mapIdx]
    cases xs[j]? with
    | none => rfl
    | some z =>
      simp only [Option.map_some]
      split <;> rfl
theorem preds_mid {i q : Nat} {y : Block_} (h : xs[i]? = some y) (b : Int) : predsL (wX c ((atG c xs S i).set i (midG c xs S i y q))) b = predsL (wX c xs) b := predsF_next b 0 (next_mid h)
theorem src_mem (hX : SpX c xs S) {j : Nat} (hj : j < c.blocks.length) {p : Int} (hp : p ∈ predsL (wX c xs) (j : Int)) : src c S p ∈ predsL c (j : Int) := by
  obtain ⟨y, h1, h2⟩ := predsL_iff.1 hp
  obtain ⟨h0, h1⟩ := getI_some.1 h1
  have h1 : xs[p.toNat]? = some y := h1
  have hpl := (List.getElem?_eq_some_iff.1 h1).1
  have hl := hX.len
  unfold src
  by_cases e : p < (c.blocks.length : Int)
  · rw [if_pos e]
    obtain ⟨x, hx⟩ : ∃ x, c.blocks[p.toNat]? = some x := ⟨_, List.getElem?_eq_getElem (by omega)⟩
    obtain ⟨y0, g0, _, _, _, _, g5, g6⟩ := hX.old p.toNat x hx
    rw [h1] at g0; cases g0
    obtain ⟨i, hi⟩ := List.getElem?_of_mem h2
    have hil := (List.getElem?_eq_some_iff.1 hi).1
    obtain ⟨n, hn⟩ : ∃ n, x.next_[i]? = some n := ⟨_, List.getElem?_eq_getElem (by omega)⟩
    rcases g6 i n hn with h | ⟨t, _, h, _⟩
    · rw [hi] at h; cases h
      exact predsL_iff.2 ⟨x, getI_some.2 ⟨h0, hx⟩, List.mem_of_getElem? hn⟩
    · rw [hi] at h
      have := Option.some.inj h
      omega
  · rw [if_neg e]
    obtain ⟨n, j', x, g1, g2, g3, g4⟩ := hX.new (p.toNat - c.blocks.length) (by omega)
    rw [show c.blocks.length + (p.toNat - c.blocks.length) = p.toNat by omega, h1] at g1
    cases g1
    simp [newB] at h2
    subst h2
    have : at_ S (p - (c.blocks.length : Int)) = (j' : Int) := by
      unfold at_
      rw [List.getD_eq_getElem?_getD, show (p - (c.blocks.length : Int)).toNat = p.toNat - c.blocks.length by omega, g2]; rfl
    rw [this]
    exact predsL_iff.2 ⟨x, getI_some.2 ⟨by omega, by simpa using g3⟩, g4⟩
theorem new_preds (hX : SpX c xs S) {p : Int} (h0 : (c.blocks.length : Int) ≤ p) (h1 : p < (xs.length : Int)) : predsL (wX c xs) p = [src c S p] := by
  have hl := hX.len
  have ht : p.toNat - c.blocks.length < S.length := by omega
  have hpp : ((c.blocks.length + (p.toNat - c.blocks.length) : Nat) : Int) = p := by omega
  have hS : S[p.toNat - c.blocks.length]? = some (src c S p) := by
    unfold src
    rw [if_neg (by omega)]
    unfold at_
    rw [List.getD_eq_getElem?_getD, show (p - (c.blocks.length : Int)).toNat = p.toNat - c.blocks.length by omega, List.getElem?_eq_getElem ht]; rfl
  have hmem : ∀ r, r ∈ predsL (wX c xs) p → r = src c S p := fun r hr => by
    obtain ⟨y, g1, g2⟩ := predsL_iff.1 hr
    obtain ⟨r0, g1⟩ := getI_some.1 g1
    have := hX.uniq _ ht r.toNat y g1 (by rw [hpp]; exact g2)
    rw [hS] at this
    have := Option.some.inj this
    omega
  have hin : src c S p ∈ predsL (wX c xs) p := by
    obtain ⟨q, y, g1, g2⟩ := hX.led _ ht
    have g3 := hX.uniq _ ht q y g1 g2
    rw [hS] at g3
    rw [Option.some.inj g3]
    exact predsL_iff.2 ⟨y, getI_some.2 ⟨by omega, by show xs[((q : Int)).toNat]? = _; simpa using g1⟩, by rw [hpp] at g2; exact g2⟩
  have hsort := predsF_sorted p (wX c xs).blocks 0
  change (predsL (wX c xs) p).Pairwise (· < ·) at hsort
  revert hmem hin hsort
  generalize predsL (wX c xs) p = l
  intro hmem hin hsort
  match l with
  | [] => simp at hin
  | [z] => rw [hmem z (by simp)]
  | z :: w :: r =>
    have h1 := hmem z (by simp)
    have h2 := hmem w (by simp)
    have := (List.pairwise_cons.1 hsort).1 w (by simp)
    omega
end
end Unt
end Go.Wk
namespace Go.Wk
open Go
namespace Unt
set_option maxRecDepth 10000
section
variable {u : Unit_} {k : Int} {c : Code_} (hck : COk u k c)
variable {xs : List Block_} {S : List Int} {P : List (List (MapS Int))} (hX : SpX c xs S) (hbig : xs.length ≤ 500000)
include hX hbig
omit hbig in
theorem block_or {i : Nat} {y : Block_} (hy : xs[i]? = some y) : (∃ x, c.blocks[i]? = some x ∧ y.phis = x.phis ∧ y.next_.length = x.next_.length) ∨ (c.blocks.length ≤ i ∧ ∃ t n, t < S.length ∧ i = c.blocks.length + t ∧ y = newB n) := by
  have hi := (List.getElem?_eq_some_iff.1 hy).1
  have hl := hX.len
  by_cases e : i < c.blocks.length
  · obtain ⟨y0, g0, g1, _, _, _, g5, _⟩ := hX.old i _ (List.getElem?_eq_getElem e)
    rw [hy] at g0; cases g0
    exact .inl ⟨_, List.getElem?_eq_getElem e, g1, g5⟩
  · obtain ⟨n, _, _, g1, _⟩ := hX.new (i - c.blocks.length) (by omega)
    rw [show c.blocks.length + (i - c.blocks.length) = i by omega, hy] at g1
    cases g1
    exact .inr ⟨by omega, i - c.blocks.length, n, by omega, by omega, rfl⟩
include hck
omit hbig in
theorem next_small {zs : List Block_} (hz : zs.map (·.next_) = xs.map (·.next_)) : ∀ z ∈ zs, z.next_.length ≤ 1048576 := fun z hzm => by
  have : z.next_ ∈ xs.map (·.next_) := by rw [← hz]; exact List.mem_map.2 ⟨z, hzm, rfl⟩
  obtain ⟨y, hy, he⟩ := List.mem_map.1 this
  obtain ⟨i, hi⟩ := List.getElem?_of_mem hy
  rw [← he]
  rcases block_or hX hi with ⟨x, h1, _, h2⟩ | ⟨_, _, n, _, _, h⟩
  · have := (hck.bok (getI_some.2 ⟨by omega, by simpa using h1⟩ : getI c.blocks (i : Int) = some x)).jump
    show y.next_.length ≤ _
    omega
  · rw [h]; simp [newB]
theorem settle_impl (hP : SpP c xs S P) : impl_settle (wX c xs) P = some (spC c xs S) := by
  have hnb := hck.nb
  have hpl := hP.pl
  unfold impl_settle
  obtain ⟨zs, e1, e2⟩ := forN_keep (body := (fun (i1_1 : Int) (xs1_1 : (List Block_)) => (Option.bind (impl_PredsOf (⟨(wX c xs).params, (wX c xs).regs, xs1_1⟩ : Code_) i1_1) fun r1_1 => Option.bind (getI P i1_1) fun x1_1 => Option.bind (forN (S := (List Block_)) (X := Empty) (fun i2_1 xs2_1 => Option.bind (getI x1_1 i2_1) fun x2_1 => Option.bind (Option.bind (getI xs2_1 i1_1) fun x3_1 => Option.bind (impl_mapped_int_int r1_1 (fun y0 => impl_settle_1 y0 x2_1)) fun pb3_1 => Option.bind (getI x3_1.phis i2_1) fun pb3_2 => some (xs2_1.set (i1_1).toNat (⟨(x3_1.phis.set (i2_1).toNat (⟨pb3_2.to, pb3_1⟩ : Phi_)), x3_1.ins, x3_1.jump, x3_1.on, x3_1.next_⟩ : Block_)) : Option ((List Block_))) fun s2_1 => some (.inl s2_1)) (((x1_1.length : Int) : Int) - 0).toNat 0 xs1_1) (Sum.elim (fun xs1_2 => some (.inl xs1_2)) (fun (e0 : Empty) => nomatch e0)) : Option (((List Block_)) ⊕ (Empty))))) (k := (((xs.length : Int) : Int) - 0).toNat) (i := 0) (s := xs) (fun i zs => zs = atG c xs S i.toNat) atG_zero.symm (fun i zs h0 h1 hI => by
    subst hI
    obtain ⟨y, hy, hy2, _⟩ := getI_in (xs := xs) (j := i) h0 (by omega)
    have hii : ((i.toNat : Nat) : Int) = i := by omega
    have hag : (atG c xs S i.toNat)[i.toNat]? = some y := by rw [atG_get hy2, if_neg (by omega)]
    have hset0 : (atG c xs S i.toNat).set i.toNat (midG c xs S i.toNat y 0) = atG c xs S i.toNat := by rw [midG_zero]; exact set_self hag
    have hpr0 : predsL (wX c (atG c xs S i.toNat)) i = predsL (wX c xs) i := by rw [← hset0]; exact preds_mid hy2 i
    have hpo := preds_ok (wX c (atG c xs S i.toNat)) i (by show (atG c xs S i.toNat).length ≤ _; rw [atG_len]; omega) (by rw [inB_iff]; show 0 ≤ i ∧ i ≤ ((atG c xs S i.toNat).length : Int) - 1; rw [atG_len]; omega)
    rw [hpr0] at hpo
    obtain ⟨ms, hms, hml, hmg⟩ : ∃ ms, P[i.toNat]? = some ms ∧ ms.length = y.phis.length ∧ ∀ (q : Nat) f M, y.phis[q]? = some f → ms[q]? = some M → ∀ p ∈ predsL (wX c xs) i, M.get p = some (at_ f.args (idx (src c S p) (predsL c i) 0)) := by
      rcases block_or hX hy2 with ⟨x, g1, g2, _⟩ | ⟨_, t, n, g1, g2, g3⟩
      · obtain ⟨ms, a1, a2, a3⟩ := hP.po i.toNat x g1
        rw [hii] at a3
        exact ⟨ms, a1, by rw [g2]; exact a2, fun q f M hf hM p hp => a3 q f M (by rw [← g2]; exact hf) hM p hp⟩
      · have := hP.pn t g1
        rw [← g2] at this
        refine ⟨[], this, by rw [g3]; rfl, fun q f M hf => ?_⟩
        rw [g3] at hf
        simp [newB] at hf
    have hplen : (predsL (wX c xs) i).length ≤ 500000 := Nat.le_trans (predsL_len _ _) hbig
    obtain ⟨zs2, f1, f2⟩ := forN_keep (body := (fun (i2_1 : Int) (xs2_1 : (List Block_)) => (Option.bind (getI ms i2_1) fun x2_1 => Option.bind (Option.bind (getI xs2_1 i) fun x3_1 => Option.bind (impl_mapped_int_int (predsL (wX c xs) i) (fun y0 => impl_settle_1 y0 x2_1)) fun pb3_1 => Option.bind (getI x3_1.phis i2_1) fun pb3_2 => some (xs2_1.set (i).toNat (⟨(x3_1.phis.set (i2_1).toNat (⟨pb3_2.to, pb3_1⟩ : Phi_)), x3_1.ins, x3_1.jump, x3_1.on, x3_1.next_⟩ : Block_)) : Option ((List Block_))) fun s2_1 => some (.inl s2_1) : Option (((List Block_)) ⊕ (Empty))))) (k := (((ms.length : Int) : Int) - 0).toNat) (i := 0) (s := atG c xs S i.toNat) (fun q zs => zs = (atG c xs S i.toNat).set i.toNat (midG c xs S i.toNat y q.toNat)) hset0.symm (fun q zs q0 q1 hI => by
      subst hI
      obtain ⟨M, hM, hM2, _⟩ := getI_in (xs := ms) (j := q) q0 (by omega)
      obtain ⟨f, hf, hf2, _⟩ := getI_in (xs := y.phis) (j := q) q0 (by omega)
      obtain ⟨l1, l2⟩ := lmidU (f := phiG c xs S (i.toNat : Int)) hf2
      have hz : getI ((atG c xs S i.toNat).set i.toNat (midG c xs S i.toNat y q.toNat)) i = some (midG c xs S i.toNat y q.toNat) := getI_some.2 ⟨h0, List.getElem?_set_self (by rw [atG_len]; omega)⟩
      have hfm : getI (midG c xs S i.toNat y q.toNat).phis q = some f := getI_some.2 ⟨q0, l1⟩
      have hmap := mappedU (xs := predsL (wX c xs) i) (f := fun y0 => impl_settle_1 y0 M) (g := fun p => at_ f.args (idx (src c S p) (predsL c i) 0)) (by omega) (fun p hp => by
        unfold impl_settle_1
        rw [hmg q.toNat f M hf2 hM2 p hp]; rfl)
      refine ⟨_, ?_, rfl⟩
      rw [hM, Option.bind_some, hz, Option.bind_some, hmap, Option.bind_some, hfm, Option.bind_some, Option.bind_some]
      congr 2
      rw [List.set_set, show (q + 1).toNat = q.toNat + 1 by omega]
      congr 1
      unfold midG
      rw [← l2]
      unfold phiG
      rw [hii])
    refine ⟨atG c xs S (i + 1).toNat, ?_, rfl⟩
    refine bindt (a := predsL (wX c xs) i) hpo ?_
    refine bindt (a := ms) (getI_some.2 ⟨h0, hms⟩) ?_
    refine bindt f1 ?_
    rw [Sum.elim_inl, f2]
    have : ((0 : Int) + ((((ms.length : Int) - 0).toNat : Nat) : Int)).toNat = y.phis.length := by omega
    rw [this, midG_end, show (i + 1).toNat = i.toNat + 1 by omega, atG_succ hy2])
  subst e2
  refine bindt e1 ?_
  rw [Sum.elim_inl, show ((0 : Int) + ((((xs.length : Int) - 0).toNat : Nat) : Int)).toNat = xs.length by omega, atG_end]
  rfl
omit hck hbig in
theorem fin_new {i : Nat} {y : Block_} (hy : xs[i]? = some y) (hi : c.blocks.length ≤ i) : finG c xs S i y = y := by
  rcases block_or hX hy with ⟨x, g1, _⟩ | ⟨_, t, n, _, _, g⟩
  · have := (List.getElem?_eq_some_iff.1 g1).1; omega
  · rw [g]; rfl
theorem settle_spec (hsm : ∀ b ∈ c.blocks, SmB b) : forN (fun (i1_2 : Int) (xs1_2 : (List Block_)) => (Option.bind (spec_l7Preds c i1_2) fun r1_1 => Option.bind (spec_l7Preds (⟨c.params, c.regs, xs1_2⟩ : Code_) i1_2) fun r1_2 => Option.bind (Option.bind (loopM (S := (List Block_) × Int) (X := (List Block_)) (fun xs3_2 => Option.bind (getI xs3_2.1 i1_2) fun x3_2 => if decide (xs3_2.2 < ((x3_2.phis.length : Int))) then Option.bind (forN (S := (List Int)) (X := Empty) (fun i4_1 xs4_1 => Option.bind (getI r1_2 i4_1) fun x4_1 => Option.bind (if decide (((c.blocks.length : Int)) ≤ x4_1) then Option.bind (spec_l7Preds (⟨c.params, c.regs, xs3_2.1⟩ : Code_) x4_1) fun r5_1 => Option.bind (getI r5_1 0) fun x5_4 => some x5_4 else some x4_1 : Option (Int)) fun s4_2 => Option.bind (Option.bind (getI c.blocks i1_2) fun x5_5 => Option.bind (getI x5_5.phis xs3_2.2) fun pb5_1 => Option.bind (spec_l10At r1_1 s4_2) fun pb5_2 => Option.bind (getI pb5_1.args pb5_2) fun pb5_3 => Option.bind (appM xs4_1 ([pb5_3] : List Int)) fun pb5_4 => some pb5_4 : Option ((List Int))) fun s4_3 => some (.inl s4_3)) (((r1_2.length : Int) : Int) - 0).toNat 0 ([] : List Int)) (Sum.elim (fun xs3_3 => Option.bind (getI xs3_2.1 i1_2) fun x3_3 => Option.bind (getI x3_3.phis xs3_2.2) fun x3_4 => some (.inl ((xs3_2.1.set (i1_2).toNat (⟨(x3_3.phis.set (xs3_2.2).toNat (⟨x3_4.to, xs3_3⟩ : Phi_)), x3_3.ins, x3_3.jump, x3_3.on, x3_3.next_⟩ : Block_)), w64 (xs3_2.2 + 1)))) (fun (e0 : Empty) => nomatch e0)) else some (.inr xs3_2.1)) (xs1_2, 0)) (fun e0 => some e0) : Option ((List Block_))) fun s1_2 => some (.inl s1_2) : Option (((List Block_)) ⊕ (Empty)))) (((c.blocks.length : Int) : Int) - 0).toNat 0 xs = some (.inl (xs.mapIdx (finG c xs S))) := by
  have hnb := hck.nb
  have hl := hX.len
  obtain ⟨zs, e1, e2⟩ := forN_keep (body := (fun (i1_2 : Int) (xs1_2 : (List Block_)) => (Option.bind (spec_l7Preds c i1_2) fun r1_1 => Option.bind (spec_l7Preds (⟨c.params, c.regs, xs1_2⟩ : Code_) i1_2) fun r1_2 => Option.bind (Option.bind (loopM (S := (List Block_) × Int) (X := (List Block_)) (fun xs3_2 => Option.bind (getI xs3_2.1 i1_2) fun x3_2 => if decide (xs3_2.2 < ((x3_2.phis.length : Int))) then Option.bind (forN (S := (List Int)) (X := Empty) (fun i4_1 xs4_1 => Option.bind (getI r1_2 i4_1) fun x4_1 => Option.bind (if decide (((c.blocks.length : Int)) ≤ x4_1) then Option.bind (spec_l7Preds (⟨c.params, c.regs, xs3_2.1⟩ : Code_) x4_1) fun r5_1 => Option.bind (getI r5_1 0) fun x5_4 => some x5_4 else some x4_1 : Option (Int)) fun s4_2 => Option.bind (Option.bind (getI c.blocks i1_2) fun x5_5 => Option.bind (getI x5_5.phis xs3_2.2) fun pb5_1 => Option.bind (spec_l10At r1_1 s4_2) fun pb5_2 => Option.bind (getI pb5_1.args pb5_2) fun pb5_3 => Option.bind (appM xs4_1 ([pb5_3] : List Int)) fun pb5_4 => some pb5_4 : Option ((List Int))) fun s4_3 => some (.inl s4_3)) (((r1_2.length : Int) : Int) - 0).toNat 0 ([] : List Int)) (Sum.elim (fun xs3_3 => Option.bind (getI xs3_2.1 i1_2) fun x3_3 => Option.bind (getI x3_3.phis xs3_2.2) fun x3_4 => some (.inl ((xs3_2.1.set (i1_2).toNat (⟨(x3_3.phis.set (xs3_2.2).toNat (⟨x3_4.to, xs3_3⟩ : Phi_)), x3_3.ins, x3_3.jump, x3_3.on, x3_3.next_⟩ : Block_)), w64 (xs3_2.2 + 1)))) (fun (e0 : Empty) => nomatch e0)) else some (.inr xs3_2.1)) (xs1_2, 0)) (fun e0 => some e0) : Option ((List Block_))) fun s1_2 => some (.inl s1_2) : Option (((List Block_)) ⊕ (Empty))))) (k := (((c.blocks.length : Int) : Int) - 0).toNat) (i := 0) (s := xs) (fun i zs => zs = atG c xs S i.toNat) atG_zero.symm (fun i zs h0 h1 hI => by
    subst hI
    obtain ⟨x, hx, hx2, hxm⟩ := getI_in (xs := c.blocks) (j := i) h0 (by omega)
    have hii : ((i.toNat : Nat) : Int) = i := by omega
    obtain ⟨y, hy2, hph, _, _, _, _, _⟩ := hX.old i.toNat x hx2
    have hag : (atG c xs S i.toNat)[i.toNat]? = some y := by rw [atG_get hy2, if_neg (by omega)]
    have hset0 : (atG c xs S i.toNat).set i.toNat (midG c xs S i.toNat y 0) = atG c xs S i.toNat := by rw [midG_zero]; exact set_self hag
    have hnz : ∀ q : Nat, ((atG c xs S i.toNat).set i.toNat (midG c xs S i.toNat y q)).map (·.next_) = xs.map (·.next_) := fun q => next_mid hy2
    have hlz : ∀ q : Nat, ((atG c xs S i.toNat).set i.toNat (midG c xs S i.toNat y q)).length = xs.length := fun q => by rw [List.length_set, atG_len]
    have hps : ∀ (q : Nat) (b : Int), spec_l7Preds ⟨c.params, c.regs, (atG c xs S i.toNat).set i.toNat (midG c xs S i.toNat y q)⟩ b = some (predsL (wX c xs) b) := fun q b => by
      rw [l7Preds_ok _ b (by show List.length _ ≤ _; rw [hlz]; omega) (next_small hck hX (hnz q))]
      congr 1
      exact preds_mid hy2 b
    have holds := l7Preds_ok c i (by omega) (fun z hz => by
      obtain ⟨n, hn⟩ := blkOf hz
      have := (hck.bok hn).jump
      omega)
    have hphl : x.phis.length ≤ 1048576 := (hsm x hxm).phis
    obtain ⟨z, p1, p2⟩ := loopM_pre (xs := x.phis) (body := (fun (xs3_2 : (List Block_) × Int) => (Option.bind (getI xs3_2.1 i) fun x3_2 => if decide (xs3_2.2 < ((x3_2.phis.length : Int))) then Option.bind (forN (S := (List Int)) (X := Empty) (fun i4_1 xs4_1 => Option.bind (getI (predsL (wX c xs) i) i4_1) fun x4_1 => Option.bind (if decide (((c.blocks.length : Int)) ≤ x4_1) then Option.bind (spec_l7Preds (⟨c.params, c.regs, xs3_2.1⟩ : Code_) x4_1) fun r5_1 => Option.bind (getI r5_1 0) fun x5_4 => some x5_4 else some x4_1 : Option (Int)) fun s4_2 => Option.bind (Option.bind (getI c.blocks i) fun x5_5 => Option.bind (getI x5_5.phis xs3_2.2) fun pb5_1 => Option.bind (spec_l10At (predsL c i) s4_2) fun pb5_2 => Option.bind (getI pb5_1.args pb5_2) fun pb5_3 => Option.bind (appM xs4_1 ([pb5_3] : List Int)) fun pb5_4 => some pb5_4 : Option ((List Int))) fun s4_3 => some (.inl s4_3)) ((((predsL (wX c xs) i).length : Int) : Int) - 0).toNat 0 ([] : List Int)) (Sum.elim (fun xs3_3 => Option.bind (getI xs3_2.1 i) fun x3_3 => Option.bind (getI x3_3.phis xs3_2.2) fun x3_4 => some (.inl ((xs3_2.1.set (i).toNat (⟨(x3_3.phis.set (xs3_2.2).toNat (⟨x3_4.to, xs3_3⟩ : Phi_)), x3_3.ins, x3_3.jump, x3_3.on, x3_3.next_⟩ : Block_)), w64 (xs3_2.2 + 1)))) (fun (e0 : Empty) => nomatch e0)) else some (.inr xs3_2.1) : Option (((List Block_) × Int) ⊕ ((List Block_)))))) (s := (atG c xs S i.toNat, 0)) (fun pre s => s = ((atG c xs S i.toNat).set i.toNat (midG c xs S i.toNat y pre.length), (pre.length : Int))) (fun z => z = (atG c xs S i.toNat).set i.toNat (midG c xs S i.toNat y x.phis.length)) (by rw [List.length_nil, hset0]; rfl) (fun pre f post s he hI => by
      subst hI
      left
      have hlt : pre.length < x.phis.length := by rw [he]; simp
      have hf : getI x.phis (pre.length : Int) = some f := by rw [he]; exact getI_mid
      have hf2 : y.phis[pre.length]? = some f := by rw [hph, he]; simp
      have hfo := (hck.bok hx).phis f (by rw [he]; simp)
      obtain ⟨l1, l2⟩ := lmidU (f := phiG c xs S (i.toNat : Int)) hf2
      have hz : getI ((atG c xs S i.toNat).set i.toNat (midG c xs S i.toNat y pre.length)) i = some (midG c xs S i.toNat y pre.length) := getI_some.2 ⟨h0, List.getElem?_set_self (by rw [atG_len]; omega)⟩
      have hfm : getI (midG c xs S i.toNat y pre.length).phis (pre.length : Int) = some f := getI_some.2 ⟨by omega, by rw [Int.toNat_natCast]; exact l1⟩
      have hml : (midG c xs S i.toNat y pre.length).phis.length = x.phis.length := by
        show ((y.phis.take pre.length).map _ ++ y.phis.drop pre.length).length = _
        rw [List.length_append, List.length_map, List.length_take, List.length_drop, hph]; omega
      have hw : w64 ((pre.length : Int) + 1) = (pre.length : Int) + 1 := w64_id (by omega) (by omega)
      have hnl : (predsL (wX c xs) i).length ≤ 500000 := Nat.le_trans (predsL_len _ _) hbig
      have hargs := mapLoop (xs := predsL (wX c xs) i) (body := (fun (i4_1 : Int) (xs4_1 : (List Int)) => (Option.bind (getI (predsL (wX c xs) i) i4_1) fun x4_1 => Option.bind (if decide (((c.blocks.length : Int)) ≤ x4_1) then Option.bind (spec_l7Preds (⟨c.params, c.regs, ((atG c xs S i.toNat).set i.toNat (midG c xs S i.toNat y pre.length),(pre.length:Int)).1⟩ : Code_) x4_1) fun r5_1 => Option.bind (getI r5_1 0) fun x5_4 => some x5_4 else some x4_1 : Option (Int)) fun s4_2 => Option.bind (Option.bind (getI c.blocks i) fun x5_5 => Option.bind (getI x5_5.phis ((atG c xs S i.toNat).set i.toNat (midG c xs S i.toNat y pre.length),(pre.length:Int)).2) fun pb5_1 => Option.bind (spec_l10At (predsL c i) s4_2) fun pb5_2 => Option.bind (getI pb5_1.args pb5_2) fun pb5_3 => Option.bind (appM xs4_1 ([pb5_3] : List Int)) fun pb5_4 => some pb5_4 : Option ((List Int))) fun s4_3 => some (.inl s4_3) : Option (((List Int)) ⊕ (Empty))))) (fun p => at_ f.args (idx (src c S p) (predsL c i) 0)) (by omega) (fun l p r s hpe hsl => by
        have hpm : p ∈ predsL (wX c xs) i := by rw [hpe]; simp
        have hp : getI (predsL (wX c xs) i) (l.length : Int) = some p := by rw [hpe]; exact getI_mid
        have hsrc := src_mem hX (j := i.toNat) (by omega) (p := p) (by rw [hii]; exact hpm)
        rw [hii] at hsrc
        have hpr := predsL_iff.1 hpm
        obtain ⟨yp, hyp, _⟩ := hpr
        have hprg := getI_pos hyp
        have hprg2 : p < (xs.length : Int) := hprg.2
        obtain ⟨n, hn1, hn2⟩ := idx_at (i := 0) hsrc
        have hnl2 := (List.getElem?_eq_some_iff.1 hn2).1
        have hga : getI f.args (idx (src c S p) (predsL c i) 0) = some (at_ f.args (idx (src c S p) (predsL c i) 0)) := at_get (by omega) (by rw [hfo.2.2.1]; omega)
        have hfrom : (if decide ((c.blocks.length : Int) ≤ p) then Option.bind (spec_l7Preds ⟨c.params, c.regs, (atG c xs S i.toNat).set i.toNat (midG c xs S i.toNat y pre.length)⟩ p) fun r5_1 => Option.bind (getI r5_1 0) fun x5_4 => some x5_4 else some p) = some (src c S p) := by
          by_cases e : (c.blocks.length : Int) ≤ p
          · rw [if_pos (by simpa using e), hps, new_preds hX e hprg2]; rfl
          · rw [if_neg (by simpa using e)]
            unfold src
            rw [if_pos (by omega)]
        dsimp only
        rw [hp, Option.bind_some, hfrom, Option.bind_some, hx, Option.bind_some, hf, Option.bind_some, l10At_ok, Option.bind_some, hga, Option.bind_some, appM_ok (by rw [List.length_singleton]; omega)]
        rfl)
      refine ⟨_, ?_, rfl⟩
      dsimp only
      rw [hz, Option.bind_some, if_pos (by rw [hml]; simpa using hlt)]
      refine bindt hargs ?_
      rw [Sum.elim_inl, Option.bind_some, hfm, Option.bind_some, hw]
      congr 3
      · rw [List.set_set, List.length_append, List.length_singleton]
        congr 1
        unfold midG
        rw [← l2]
        unfold phiG
        rw [hii, Int.toNat_natCast]
      · simp) (fun s hI => by
      subst hI
      refine ⟨_, ?_, rfl⟩
      have hz : getI ((atG c xs S i.toNat).set i.toNat (midG c xs S i.toNat y x.phis.length)) i = some (midG c xs S i.toNat y x.phis.length) := getI_some.2 ⟨h0, List.getElem?_set_self (by rw [atG_len]; omega)⟩
      have hml : (midG c xs S i.toNat y x.phis.length).phis.length = x.phis.length := by
        show ((y.phis.take x.phis.length).map _ ++ y.phis.drop x.phis.length).length = _
        rw [List.length_append, List.length_map, List.length_take, List.length_drop, hph]; omega
      dsimp only
      rw [hz, Option.bind_some, if_neg (by rw [hml]; simp)])
    refine ⟨atG c xs S (i + 1).toNat, ?_, rfl⟩
    have hps0 := hps 0 i
    rw [hset0] at hps0
    rw [holds, Option.bind_some, hps0, Option.bind_some]
    refine bindt (bindt p1 rfl) ?_
    rw [p2, ← hph, midG_end, show (i + 1).toNat = i.toNat + 1 by omega, atG_succ hy2])
  rw [e1, e2]
  congr 2
  apply List.ext_getElem?
  intro j
  unfold atG
  rw [List.getElem?_mapIdx, List.getElem?_mapIdx]
  cases hj : xs[j]? with
  | none => rfl
  | some y =>
    simp only [Option.map_some]
    by_cases e : j < c.blocks.length
    · rw [if_pos (by omega)]
    · rw [if_neg (by omega), fin_new hX hj (by omega)]
end
section
variable {u : Unit_} {k : Int} {c : Code_} (hck : COk u k c) (hsm : ∀ b ∈ c.blocks, SmB b)
include hck hsm
theorem split_both : ∃ xs S, impl_splitCode c = some (spC c xs S) ∧ spec_l10Split c = some (spC c xs S) ∧ SpX c xs S ∧ xs.length ≤ 480 := by
  have hnb := hck.nb
  obtain ⟨P0, xs, S, P, h1, h2, h3, h4, h5, h6⟩ := split_blocks hck hsm
  refine ⟨xs, S, ?_, ?_, h4, h6⟩
  · unfold impl_splitCode
    rw [cloneCode_ok c (by omega) hsm, Option.bind_some, h1, Option.bind_some]
    refine bindt h2 ?_
    rw [Sum.elim_inl]
    refine bindt (a := spC c xs S) (settle_impl hck h4 (show xs.length ≤ 500000 by omega) h5) rfl
  · unfold spec_l10Split
    rw [l7Copy_ok c (by omega) hsm, Option.bind_some]
    refine bindt h3 ?_
    rw [Sum.elim_inl]
    exact bindt (settle_spec hck h4 (show xs.length ≤ 500000 by omega) hsm) rfl
end
end Unt
end Go.Wk
namespace Go.Wk
open Go
namespace Unt
set_option maxRecDepth 10000
theorem sums_boundU {α : Type} {f : α → Nat} {B : Nat} : ∀ {l : List α}, (∀ x ∈ l, f x ≤ B) → sums f l ≤ l.length * B
  | [], _ => Nat.zero_le _
  | x :: l, h => by
    have h1 := h x (by simp)
    have h2 := sums_boundU (l := l) fun y hy => h y (by simp [hy])
    simp only [sums, List.length_cons, Nat.add_mul, Nat.one_mul]
    omega
theorem sums_memU {α : Type} {f : α → Nat} {x : α} : ∀ {l : List α}, x ∈ l → f x ≤ sums f l
  | y :: l, h => by
    rcases List.mem_cons.1 h with e | e
    · subst e; simp only [sums]; omega
    · have := sums_memU (f := f) e
      simp only [sums]; omega
theorem argsU {u : Unit_} (hu : Ok u) {k : Int} {c : Code_} {y : Ins_} (h : insB u k c y = true) : y.args.length ≤ 3 := by
  have hi := iok h
  by_cases e : y.op = 14
  · have h1 := (hi.call e).2.2
    unfold parOf at h1
    split at h1
    · rename_i c' hc'
      have := (hu.cok hc').params
      omega
    · omega
  · have h1 := hi.plain e
    unfold nargs at h1
    split at h1
    · omega
    · split at h1 <;> omega
theorem valid_w {u : Unit_} (hu : Ok u) : (wCodeS u.codes : Int) ≤ 900000000 := by
  have hcnt : cntU u ≤ 800 := by
    have := hu.valid
    simp only [unitB, Bool.and_eq_true, decide_eq_true_eq] at this
    exact this.2.2
  have hc : ∀ c ∈ u.codes, wCode c ≤ 200000000 := fun c hcm => by
    obtain ⟨n, hn⟩ := List.getElem?_of_mem hcm
    have hck := hu.cok (getI_some.2 ⟨by omega, by simpa using hn⟩ : getI u.codes (n : Int) = some c)
    have hnb := hck.nb
    have hb : ∀ x ∈ c.blocks, wBlock x ≤ 1000000 := fun x hx => by
      obtain ⟨b, hb⟩ := blkOf hx
      have hbo := hck.bok hb
      have h1 : cntB x ≤ cntC c := sums_memU (f := cntB) hx
      have h2 : cntC c ≤ cntU u := sums_memU (f := cntC) hcm
      unfold cntB at h1
      have p1 : wPhiS x.phis ≤ x.phis.length * 161 := sums_boundU fun f hf => by
        have := (hbo.phis f hf).2.2.1
        have := predsL_len c b
        unfold wPhi; omega
      have p2 : wInsS x.ins ≤ x.ins.length * 6 := sums_boundU fun y hy => by
        have := argsU hu (hbo.ins y hy)
        unfold wIns; omega
      have p3 := hbo.jump
      unfold wBlock
      omega
    have := sums_boundU (f := wBlock) hb
    unfold wCode wBlockS
    have h3 : c.blocks.length * 1000000 ≤ 160 * 1000000 := Nat.mul_le_mul_right _ (by omega)
    omega
  have h4 := hu.codes
  have := sums_boundU (f := wCode) hc
  have h5 : u.codes.length * 200000000 ≤ 4 * 200000000 := Nat.mul_le_mul_right _ (by omega)
  unfold wCodeS
  omega
end Unt
end Go.Wk
namespace Go.Wk
open Go
namespace Unt
set_option maxRecDepth 10000
theorem sm_inv {u : Unit_} (hu : Ok u) {k : Int} {c : Code_} (hck : COk u k c) (hc : cntC c ≤ 800) : ∀ b ∈ c.blocks, SmB b := fun x hx => by
  obtain ⟨b, hb⟩ := blkOf hx
  have hbo := hck.bok hb
  have hnb := hck.nb
  have h1 : cntB x ≤ cntC c := sums_memU (f := cntB) hx
  unfold cntB at h1
  have hj := hbo.jump
  refine ⟨by omega, by omega, by omega, fun f hf => ?_, fun y hy => ?_⟩
  · have := (hbo.phis f hf).2.2.1
    have := predsL_len c b
    omega
  · have := argsU hu (hbo.ins y hy)
    omega
theorem allI_of {α : Type} {p : Int → α → Bool} : ∀ {xs : List α} {i : Int}, (∀ (j : Nat) x, xs[j]? = some x → p (i + j) x = true) → allI p xs i = true
  | [], _, _ => rfl
  | x :: r, i, h => by
    simp only [allI, Bool.and_eq_true]
    refine ⟨by simpa using h 0 x rfl, allI_of fun j y hj => ?_⟩
    have := h (j + 1) y (by simpa using hj)
    rwa [show i + ((j + 1 : Nat) : Int) = i + 1 + j by omega] at this
theorem codeB_cok {u : Unit_} {k : Int} {c : Code_} (h : COk u k c) : codeB u k c = true := by
  have h1 := h.regs
  have h2 := h.params
  simp only [codeB, Bool.and_eq_true, inB_iff]
  refine ⟨h1, ⟨h2.1, by omega⟩, h.nb, allI_of fun j x hj => h.blocks _ _ (getI_some.2 ⟨by omega, by simpa using hj⟩)⟩
theorem cok_par {u u' : Unit_} {k : Int} {c : Code_} (hp : ∀ n, parOf u' n = parOf u n) (h : COk u k c) : COk u' k c := by
  have e : insB u' k c = insB u k c := by funext y; simp only [insB, hp]
  have e2 : blockB u' k c = blockB u k c := by funext b x; simp only [blockB, e]
  exact ⟨h.regs, h.params, h.nb, fun b x hx => by rw [e2]; exact h.blocks b x hx⟩
theorem units_ok {u : Unit_} (hu : Ok u) {g : Code_ → Code_} (hg : ∀ (j : Nat) c, u.codes[j]? = some c → COk u (j : Int) (g c) ∧ cntC (g c) ≤ cntC c ∧ (g c).params = c.params) : unitB ⟨u.codes.map g⟩ = true ∧ Small ⟨u.codes.map g⟩ := by
  have hpar : ∀ n, parOf ⟨u.codes.map g⟩ n = parOf u n := fun n => by
    unfold parOf getI
    by_cases h0 : 0 ≤ n
    · rw [if_pos h0, if_pos h0]
      show (match (u.codes.map g)[n.toNat]? with | some c => _ | none => _) = _
      rw [List.getElem?_map]
      cases hq : u.codes[n.toNat]? with
      | none => rfl
      | some c =>
        have := (hg n.toNat c hq).2.2
        simp only [Option.map_some]
        rw [this]
    · rw [if_neg h0, if_neg h0]
  have hv := hu.valid
  have hcnt : cntU u ≤ 800 := by
    simp only [unitB, Bool.and_eq_true, decide_eq_true_eq] at hv
    exact hv.2.2
  have hle : cntU ⟨u.codes.map g⟩ ≤ cntU u := sums_map_le (f' := cntC) fun c hc => by
    obtain ⟨j, hj⟩ := List.getElem?_of_mem hc
    exact (hg j c hj).2.1
  constructor
  · simp only [unitB, Bool.and_eq_true, decide_eq_true_eq] at hv ⊢
    obtain ⟨h1, h2, h3⟩ := hv
    refine ⟨by simpa using h1, allI_imp (fun j c hj hc => ?_) h2, by omega⟩
    rw [show (0 : Int) + (j : Int) = j by omega]
    exact codeB_cok (cok_par hpar (hg j c hj).1)
  · intro c' hc' b hb
    obtain ⟨c, hc, rfl⟩ := List.mem_map.1 hc'
    obtain ⟨j, hj⟩ := List.getElem?_of_mem hc
    obtain ⟨g1, g2, _⟩ := hg j c hj
    have : cntC c ≤ cntU u := sums_memU (f := cntC) hc
    have := sm_inv hu g1 (by omega) b hb
    exact ⟨this.phis, this.ins, this.next⟩
end Unt
end Go.Wk
namespace Go.Wk
open Go
namespace Unt
set_option maxRecDepth 10000
theorem at_or (l : List Int) (i : Int) : at_ l i ∈ l ∨ at_ l i = 0 := by
  unfold at_
  rw [List.getD_eq_getElem?_getD]
  cases h : l[i.toNat]? with
  | none => exact .inr rfl
  | some v => exact .inl (List.mem_of_getElem? h)
theorem sums_pt {α β : Type} {f : α → Nat} {g : β → Nat} : ∀ {l : List α} {l' : List β}, (∀ (j : Nat) y, l[j]? = some y → (∃ x, l'[j]? = some x ∧ f y ≤ g x) ∨ f y = 0) → sums f l ≤ sums g l'
  | [], _, _ => Nat.zero_le _
  | y :: l, [], h => by
    have h1 := h 0 y rfl
    have h2 := sums_pt (l := l) (l' := []) (g := g) fun j z hz => by
      rcases h (j + 1) z (by simpa using hz) with ⟨x, hx, _⟩ | h
      · simp at hx
      · exact .inr h
    rcases h1 with ⟨x, hx, _⟩ | h1
    · simp at hx
    · simp only [sums] at h2 ⊢; omega
  | y :: l, x :: l', h => by
    have h1 := h 0 y rfl
    have h2 := sums_pt (l := l) (l' := l') (g := g) fun j z hz => by
      rcases h (j + 1) z (by simpa using hz) with ⟨x, hx, hl⟩ | h
      · exact .inl ⟨x, by simpa using hx, hl⟩
      · exact .inr h
    simp only [sums]
    rcases h1 with ⟨x', hx, hl⟩ | h1
    · simp at hx
      subst hx
      omega
    · omega
section
variable {u : Unit_} {k : Int} {c : Code_} (hck : COk u k c) {xs : List Block_} {S : List Int} (hX : SpX c xs S)
theorem spC_get {b : Nat} {z : Block_} (h : (spC c xs S).blocks[b]? = some z) : ∃ y, xs[b]? = some y ∧ z = finG c xs S b y := by
  unfold spC wX at h
  rw [List.getElem?_mapIdx] at h
  obtain ⟨y, hy, rfl⟩ := Option.map_eq_some_iff.1 h
  exact ⟨y, hy, rfl⟩
theorem spC_len : (spC c xs S).blocks.length = xs.length := by unfold spC wX; simp
theorem spC_preds (b : Int) : predsL (spC c xs S) b = predsL (wX c xs) b := predsF_next b 0 (by
  apply List.ext_getElem?
  intro j
  unfold spC wX
  rw [List.getElem?_map, List.getElem?_map, List.getElem?_mapIdx]
  cases xs[j]? <;> rfl)
include hX
theorem spX_blk {b : Nat} {y : Block_} (hy : xs[b]? = some y) : (∃ x, c.blocks[b]? = some x ∧ y.phis = x.phis ∧ y.ins = x.ins ∧ y.jump = x.jump ∧ y.on = x.on ∧ y.next_.length = x.next_.length ∧ ∀ (i : Nat) n, x.next_[i]? = some n → y.next_[i]? = some n ∨ ∃ t : Nat, t < S.length ∧ y.next_[i]? = some ((c.blocks.length + t : Nat) : Int)) ∨
    ∃ n x, y = newB n ∧ x ∈ c.blocks ∧ n ∈ x.next_ := by
  have hb := (List.getElem?_eq_some_iff.1 hy).1
  have hl := hX.len
  by_cases e : b < c.blocks.length
  · obtain ⟨y0, g0, g1, g2, g3, g4, g5, g6⟩ := hX.old b _ (List.getElem?_eq_getElem e)
    rw [hy] at g0; cases g0
    exact .inl ⟨_, List.getElem?_eq_getElem e, g1, g2, g3, g4, g5, fun i n hn => (g6 i n hn).imp id fun ⟨t, a1, a2, _⟩ => ⟨t, a1, a2⟩⟩
  · obtain ⟨n, j, x, g1, _, g3, g4⟩ := hX.new (b - c.blocks.length) (by omega)
    rw [show c.blocks.length + (b - c.blocks.length) = b by omega, hy] at g1
    cases g1
    exact .inr ⟨n, x, rfl, List.mem_of_getElem? g3, g4⟩
include hck
theorem spC_phis {b : Nat} {z : Block_} (h : (spC c xs S).blocks[b]? = some z) : ∀ f ∈ z.phis, (b : Int) ≠ 0 ∧ (0 ≤ f.to ∧ f.to < c.regs) ∧ f.args.length = (predsL (spC c xs S) (b : Int)).length ∧ ∀ r ∈ f.args, 0 ≤ r ∧ r < c.regs := by
  obtain ⟨y, hy, rfl⟩ := spC_get h
  intro f hf
  obtain ⟨f0, hf0, rfl⟩ := List.mem_map.1 (show f ∈ y.phis.map _ from hf)
  rcases spX_blk hX hy with ⟨x, g0, g1, _⟩ | ⟨n, x, rfl, _⟩
  · rw [g1] at hf0
    have hbo := hck.bok (getI_some.2 ⟨by omega, by simpa using g0⟩ : getI c.blocks (b : Int) = some x)
    obtain ⟨a1, a2, a3, a4⟩ := hbo.phis f0 hf0
    refine ⟨a1, a2, ?_, fun r hr => ?_⟩
    · rw [spC_preds]; unfold phiG; simp
    · obtain ⟨p, _, rfl⟩ := List.mem_map.1 (show r ∈ (predsL (wX c xs) (b : Int)).map _ from hr)
      rcases at_or f0.args (idx (src c S p) (predsL c (b : Int)) 0) with h | h
      · exact a4 _ h
      · rw [h]; omega
  · simp [newB] at hf0
theorem ps_split (hl : xs.length ≤ 480) (hcnt : ∀ b ∈ c.blocks, b.phis.length ≤ 800 ∧ b.ins.length ≤ 800 ∧ b.next_.length ≤ 2) (hsm : ∀ b ∈ c.blocks, SmB b) : PS (spC c xs S) := by
  have hb : ∀ z ∈ (spC c xs S).blocks, SmB z ∧ z.ins.length ≤ 800 := fun z hz => by
    obtain ⟨b, hb⟩ := List.getElem?_of_mem hz
    have hph := spC_phis hck hX hb
    have hpl := predsL_len (spC c xs S) (b : Int)
    rw [spC_len] at hpl
    obtain ⟨y, hy, rfl⟩ := spC_get hb
    rcases spX_blk hX hy with ⟨x, g0, g1, g2, _, _, g5, _⟩ | ⟨n, x, rfl, _⟩
    · have hxm := List.mem_of_getElem? g0
      have hc := hcnt x hxm
      have hs := hsm x hxm
      have e1 : (finG c xs S b y).ins = x.ins := g2
      refine ⟨⟨?_, by rw [e1]; exact hs.ins, ?_, fun f hf => ?_, by rw [e1]; exact hs.ia⟩, by rw [e1]; exact hc.2.1⟩
      · show (y.phis.map _).length ≤ _
        rw [List.length_map, g1]; exact hs.phis
      · show y.next_.length ≤ _
        rw [g5]; exact hs.next
      · have := (hph f hf).2.2.1; omega
    · exact ⟨⟨by simp [finG, newB], by simp [finG, newB], by simp [finG, newB], by simp [finG, newB], by simp [finG, newB]⟩, by simp [finG, newB]⟩
  exact ⟨hck.regs, by rw [spC_len]; omega, fun z hz => (hb z hz).1, fun z hz => (hb z hz).2, fun b z hz f hf => (spC_phis hck hX hz f hf).2⟩
theorem cok_split (hl : xs.length ≤ 160) : COk u k (spC c xs S) := by
  have hnb := hck.nb
  have hxl := hX.len
  have hnx : ∀ x ∈ c.blocks, ∀ n ∈ x.next_, 1 ≤ n ∧ n < (c.blocks.length : Int) := fun x hx n hn => by
    obtain ⟨b, hb⟩ := blkOf hx
    exact (hck.bok hb).next n hn
  refine ⟨hck.regs, hck.params, by rw [spC_len]; omega, fun b z hz => ?_⟩
  obtain ⟨b0, hz2⟩ := getI_some.1 hz
  have hph := spC_phis hck hX hz2
  rw [show ((b.toNat : Nat) : Int) = b by omega] at hph
  obtain ⟨y, hy, rfl⟩ := spC_get hz2
  have hphB : ∀ f ∈ (finG c xs S b.toNat y).phis, phiB (spC c xs S) b f = true := fun f hf => by
    obtain ⟨p1, p2, p3, p4⟩ := hph f hf
    simp only [phiB, regsB, Bool.and_eq_true, decide_eq_true_eq, List.all_eq_true, inB_iff]
    refine ⟨p1, ⟨p2.1, ?_⟩, p3, fun r hr => ?_⟩
    · show f.to ≤ c.regs - 1; omega
    · have := p4 r hr
      show 0 ≤ r ∧ r ≤ c.regs - 1; omega
  rcases spX_blk hX hy with ⟨x, g0, g1, g2, g3, g4, g5, g6⟩ | ⟨n, x, rfl, hx, hn⟩
  · have hbx := hck.blocks b x (getI_some.2 ⟨b0, g0⟩)
    simp only [blockB, Bool.and_eq_true, decide_eq_true_eq, List.all_eq_true] at hbx ⊢
    obtain ⟨h1, h2, h3, h4, h5⟩ := hbx
    refine ⟨?_, ?_, fun n hn => ?_, ?_, hphB⟩
    · show (y.next_.length : Int) = jumpN y.jump
      rw [g5, g3]; exact h1
    · show (if y.jump = 1 then decide (y.on = 0) else inB y.on 0 (c.regs - 1)) = true
      rw [g3, g4]; exact h2
    · obtain ⟨i, hi⟩ := List.getElem?_of_mem (show n ∈ y.next_ from hn)
      have hil := (List.getElem?_eq_some_iff.1 hi).1
      rw [inB_iff, spC_len]
      have hxi : x.next_[i]? = some x.next_[i] := List.getElem?_eq_getElem (by omega)
      have hr := hnx x (List.mem_of_getElem? g0) _ (List.getElem_mem (by omega : i < x.next_.length))
      rcases g6 i _ hxi with h | ⟨t, t1, t2⟩
      · rw [hi] at h; cases h
        omega
      · rw [hi] at t2; cases t2
        omega
    · show ∀ i ∈ y.ins, insB u k c i = true
      rw [g2]; exact h4
  · have hr := hnx x hx n hn
    simp only [blockB, Bool.and_eq_true, decide_eq_true_eq, List.all_eq_true]
    refine ⟨rfl, rfl, fun m hm => ?_, fun m hm => ?_, hphB⟩
    · rw [List.mem_singleton.1 (show m ∈ [n] from hm), inB_iff, spC_len]; omega
    · simp [finG, newB] at hm
omit hck in
theorem cnt_split : cntC (spC c xs S) ≤ cntC c := by
  refine sums_pt (f := cntB) (g := cntB) fun b z hz => ?_
  obtain ⟨y, hy, rfl⟩ := spC_get hz
  rcases spX_blk hX hy with ⟨x, g0, g1, g2, _⟩ | ⟨n, x, rfl, _⟩
  · refine .inl ⟨x, g0, ?_⟩
    unfold cntB finG
    simp only [List.length_map, g1, g2]
    exact Nat.le_refl _
  · exact .inr (by simp [cntB, finG, newB])
end
theorem few_insX {u : Unit_} (hu : Ok u) {j : Nat} {c : Code_} (hc : u.codes[j]? = some c) : COk u (j : Int) c ∧ ∀ x ∈ c.blocks, x.phis.length ≤ 800 ∧ x.ins.length ≤ 800 ∧ x.next_.length ≤ 2 := by
  have hcnt : cntU u ≤ 800 := by
    have := hu.valid
    simp only [unitB, Bool.and_eq_true, decide_eq_true_eq] at this
    exact this.2.2
  have hck := hu.cok (getI_some.2 ⟨by omega, by simpa using hc⟩ : getI u.codes (j : Int) = some c)
  refine ⟨hck, fun x hx => ?_⟩
  obtain ⟨b, hb⟩ := blkOf hx
  have hbo := hck.bok hb
  have h1 : cntB x ≤ cntC c := sums_memU (f := cntB) hx
  have h2 : cntC c ≤ cntU u := sums_memU (f := cntC) (List.mem_of_getElem? hc)
  unfold cntB at h1
  have := hbo.jump
  omega
theorem plainUnit_ok (u : Unit_) (hf : Fits u) : ∃ r b, impl_PlainUnit u = some (r, b) ∧ spec_PlainUnit u = some (r, b) ∧ (wCodeS r.codes : Int) ≤ 900000000 := by
  have hs := hf.small
  cases hv : unitB u with
  | false =>
    refine ⟨⟨[]⟩, false, ?_, ?_, by decide⟩
    · unfold impl_PlainUnit impl_SplitEdges impl_perCode
      rw [implValid_ok u hs, hv]; rfl
    · unfold spec_PlainUnit
      rw [specValid_ok u hs, hv]; rfl
  | true =>
  have hu : Ok u := ⟨hv, hs⟩
  have hcodes := hu.codes
  obtain ⟨g, hg⟩ : ∃ g : Code_ → Code_, ∀ c, g c = (impl_splitCode c).getD c := ⟨_, fun _ => rfl⟩
  have hsplit : ∀ (j : Nat) c, u.codes[j]? = some c → ∃ xs S, impl_splitCode c = some (g c) ∧ spec_l10Split c = some (g c) ∧ g c = spC c xs S ∧ SpX c xs S ∧ xs.length ≤ 480 ∧ COk u (j : Int) c ∧ PS (g c) := fun j c hc => by
    obtain ⟨hck, hcnt⟩ := few_insX hu hc
    have hsm : ∀ b ∈ c.blocks, SmB b := fun b hb => hf.smb (List.mem_of_getElem? hc) hb
    obtain ⟨xs, S, e1, e2, e3, e4⟩ := split_both hck hsm
    have hgc : g c = spC c xs S := by rw [hg, e1]; rfl
    rw [hgc]
    exact ⟨xs, S, e1, e2, rfl, e3, e4, hck, ps_split hck e3 e4 hcnt hsm⟩
  obtain ⟨iP, hiP⟩ : ∃ iP : Code_ → Code_ × Bool, ∀ c, iP c = (impl_plain (g c)).getD (c, false) := ⟨_, fun _ => rfl⟩
  obtain ⟨sP, hsP⟩ : ∃ sP : Code_ → Code_ × Bool, ∀ c, sP c = (spec_l14Plain c).getD (c, false) := ⟨_, fun _ => rfl⟩
  have hboth : ∀ c ∈ u.codes, impl_plain (g c) = some (iP c) ∧ spec_l14Plain c = some (sP c) ∧ ((sP c).2 = true → (sP c).1.blocks.length = (g c).blocks.length ∧ ∀ b ∈ (sP c).1.blocks, b.phis.length ≤ 1048576 ∧ b.ins.length ≤ 1048576 ∧ b.next_.length ≤ 1048576) ∧
      (((iP c).2 = true ∧ (sP c).2 = true ∧ (iP c).1 = (sP c).1) ∨ ((iP c).2 = false ∧ ((sP c).2 = true → (sP c).1.regs = 301))) := fun c hc => by
    obtain ⟨j, hj⟩ := List.getElem?_of_mem hc
    obtain ⟨xs, S, e1, e2, _, _, _, _, hps⟩ := hsplit j c hj
    obtain ⟨ci, bi, cs, bs, h1, h2, h3, h4⟩ := plain_both hps
    have hi : iP c = (ci, bi) := by rw [hiP, h1]; rfl
    have hspec : spec_l14Plain c = some (cs, bs) := by
      unfold spec_l14Plain
      rw [e2, Option.bind_some]; exact h2
    have hsp : sP c = (cs, bs) := by rw [hsP, hspec]; rfl
    rw [hi, hsp]
    exact ⟨h1, hspec, h3, h4⟩
  have hspec : (∀ c ∈ u.codes, (sP c).2 = true) ∧ spec_PlainUnit u = Option.bind (spec_UnitValid ⟨u.codes.map fun c => (sP c).1⟩) (fun r0_3 => if !(r0_3) then some ((⟨[]⟩ : Unit_), false) else some ((⟨u.codes.map fun c => (sP c).1⟩ : Unit_), true)) ∨ (∃ c ∈ u.codes, (sP c).2 = false) ∧ spec_PlainUnit u = some (⟨[]⟩, false) := by
    unfold spec_PlainUnit
    rw [specValid_ok u hs, hv, Option.bind_some, if_neg (by decide)]
    rcases forN_list (xs := u.codes) (body := (fun (i1_1 : Int) (xs1_1 : (List Code_)) => (Option.bind (getI u.codes i1_1) fun x1_1 => Option.bind (spec_l14Plain x1_1) fun r1_1 => if !(r1_1.2) then some (.inr ((⟨[]⟩ : Unit_), false)) else Option.bind (appM xs1_1 ([r1_1.1] : List Code_)) fun ys1_1 => some (.inl ys1_1) : Option (((List Code_)) ⊕ (Unit_ × Bool))))) (s := []) (fun l ys => ys = l.map (fun c => (sP c).1) ∧ ∀ c ∈ l, (sP c).2 = true) (fun y => y = (⟨[]⟩, false) ∧ ∃ c ∈ u.codes, (sP c).2 = false) ⟨rfl, by simp⟩ (fun l c r ys he hI => by
      obtain ⟨h1, h2⟩ := hI
      have hcm : c ∈ u.codes := by rw [he]; simp
      have hlen := congrArg List.length he
      simp at hlen
      cases hb : (sP c).2 with
      | false =>
        right
        refine ⟨_, ?_, rfl, c, hcm, hb⟩
        rw [he, getI_mid, Option.bind_some, (hboth c hcm).2.1, Option.bind_some, hb]; rfl
      | true =>
        left
        refine ⟨ys ++ [(sP c).1], ?_, by rw [h1]; simp, fun d hd => ?_⟩
        · rw [he, getI_mid, Option.bind_some, (hboth c hcm).2.1, Option.bind_some, hb, if_neg (by decide), appM_ok (by rw [h1]; simp; omega)]; rfl
        · rcases List.mem_append.1 hd with h | h
          · exact h2 d h
          · rw [List.mem_singleton.1 h]; exact hb) with ⟨ys, h1, h2, h3⟩ | ⟨y, h1, rfl, h3⟩
    · left
      refine ⟨h3, ?_⟩
      refine bindt h1 ?_
      rw [h2]; rfl
    · right
      exact ⟨h3, bindt h1 rfl⟩
  have hsmS : Small ⟨u.codes.map g⟩ := fun c' hc' b hb => by
    obtain ⟨c, hc, rfl⟩ := List.mem_map.1 hc'
    obtain ⟨j, hj⟩ := List.getElem?_of_mem hc
    obtain ⟨xs, S, _, _, _, _, _, _, hps⟩ := hsplit j c hj
    have := hps.sm b hb
    exact ⟨this.phis, this.ins, this.next⟩
  have hSE : impl_SplitEdges u = some (if unitB ⟨u.codes.map g⟩ = true then (⟨u.codes.map g⟩, true) else (⟨[]⟩, false)) := by
    unfold impl_SplitEdges impl_perCode
    rw [implValid_ok u hs, hv]
    simp only [Option.bind_some, Bool.not_true, Bool.false_eq_true, if_false]
    have h1 := mapLoop (xs := u.codes) (body := (fun (i1_1 : Int) (xs1_1 : (List Code_)) => (Option.bind (getI u.codes i1_1) fun x1_1 => Option.bind (impl_splitCode x1_1) fun r1_1 => Option.bind (appM xs1_1 ([r1_1] : List Code_)) fun ys1_1 => some (.inl ys1_1) : Option (((List Code_)) ⊕ (Empty))))) g (by omega) (fun l x r s he hz => by
      have hj : u.codes[l.length]? = some x := by rw [he]; simp
      obtain ⟨_, _, e1, _⟩ := hsplit _ _ hj
      rw [he, getI_mid, Option.bind_some, e1, Option.bind_some, appM_ok (by simpa using hz)]; rfl)
    have hm : impl_mapped_impl_Code_impl_Code u.codes (fun y0 => impl_splitCode y0) = some (u.codes.map g) := bindt h1 rfl
    rw [hm]
    unfold impl_onlyValid
    simp only [Option.bind_some, Bool.not_true, Bool.false_eq_true, if_false]
    rw [implValid_ok _ hsmS]
    cases unitB ⟨u.codes.map g⟩ <;> rfl
  have himpl : unitB ⟨u.codes.map g⟩ = true → impl_PlainUnit u = Option.bind (impl_onlyValid ⟨u.codes.map fun c => (iP c).1⟩ (u.codes.all fun c => (iP c).2)) (fun r0_3 => some (r0_3.1, r0_3.2)) := fun hq => by
    unfold impl_PlainUnit
    rw [hSE, hq]
    simp only [Option.bind_some, if_true, Bool.not_true, Bool.false_eq_true, if_false]
    have hms : impl_mappedS (fun y0 y1 => impl_PlainUnit_1 y0 y1) (u.codes.map g) true = some (u.codes.map fun c => (iP c).1, u.codes.all fun c => (iP c).2) := by
      unfold impl_mappedS
      rw [List.length_map]
      rcases forN_list (xs := u.codes) (body := fun i (xs : List Code_ × Bool) => Option.bind (getI (u.codes.map g) i) fun x => Option.bind (impl_PlainUnit_1 x xs.2) fun y => Option.bind (appM xs.1 ([y.1] : List Code_)) fun ys => (some (.inl (ys, y.2)) : Option ((List Code_ × Bool) ⊕ Empty))) (s := (([] : List Code_), true))
        (fun l s => s.1 = l.map (fun c => (iP c).1) ∧ s.2 = l.all (fun c => (iP c).2)) (fun _ => False) ⟨rfl, rfl⟩ (fun l x r s he hI => by
          left
          have hcm : x ∈ u.codes := by rw [he]; simp
          have hlen := congrArg List.length he
          simp at hlen
          have hsl : s.1.length = l.length := by rw [hI.1]; simp
          have hgx : getI (u.codes.map g) (l.length : Int) = some (g x) := by
            rw [he, List.map_append, List.map_cons, ← List.length_map (f := g), getI_mid]
          refine ⟨(s.1 ++ [(iP x).1], s.2 && (iP x).2), ?_, ?_, ?_⟩
          · rw [hgx, Option.bind_some]
            unfold impl_PlainUnit_1
            rw [(hboth x hcm).1, Option.bind_some]
            cases s.2 <;> · simp only [Bool.false_eq_true, if_true, if_false, Option.bind_some]; rw [appM_ok (by simp; omega)]; rfl
          · simp [hI.1]
          · simp [hI.2]) with ⟨z, h1, h2, h3⟩ | ⟨_, _, h⟩
      · refine bindt h1 ?_
        show some z = _
        rw [← h2, ← h3]
      · exact h.elim
    rw [hms]; rfl
  have hfalse : unitB ⟨u.codes.map g⟩ = false → impl_PlainUnit u = some (⟨[]⟩, false) := fun hq => by
    unfold impl_PlainUnit
    rw [hSE, hq]; rfl
  have honly0 : ∀ v : Unit_, impl_onlyValid v false = some (⟨[]⟩, false) := fun v => by unfold impl_onlyValid; rfl
  have hinv : ∀ c ∈ u.codes, (sP c).2 = true → unitB ⟨u.codes.map fun c => (sP c).1⟩ = true → ((sP c).1.blocks.length : Int) ≤ 160 ∧ (sP c).1.regs ≤ 300 := fun c hc _ hvv => by
    obtain ⟨j, hj⟩ := List.getElem?_of_mem hc
    have hj' : (u.codes.map fun c => (sP c).1)[j]? = some (sP c).1 := by rw [List.getElem?_map, hj]; rfl
    simp only [unitB, Bool.and_eq_true, decide_eq_true_eq] at hvv
    have := allI_get hvv.2.1 j _ hj'
    simp only [codeB, Bool.and_eq_true, inB_iff] at this
    exact ⟨this.2.2.1.2, this.1.2⟩
  rcases hspec with ⟨hall, hsp⟩ | ⟨⟨c, hc, hcf⟩, hsp⟩
  rotate_left
  · refine ⟨⟨[]⟩, false, ?_, hsp, by decide⟩
    cases hq : unitB ⟨u.codes.map g⟩ with
    | false => exact hfalse hq
    | true =>
      rw [himpl hq]
      have : (u.codes.all fun c => (iP c).2) = false := by
        rw [List.all_eq_false]
        refine ⟨c, hc, ?_⟩
        rcases (hboth c hc).2.2.2 with ⟨_, h, _⟩ | ⟨h, _⟩
        · rw [hcf] at h; cases h
        · rw [h]; decide
      rw [this, honly0]; rfl
  have hsmX : Small ⟨u.codes.map fun c => (sP c).1⟩ := fun c' hc' b hb => by
    obtain ⟨c, hc, rfl⟩ := List.mem_map.1 hc'
    exact ((hboth c hc).2.2.1 (hall c hc)).2 b hb
  rw [specValid_ok _ hsmX, Option.bind_some] at hsp
  cases hX : unitB ⟨u.codes.map fun c => (sP c).1⟩ with
  | false =>
    rw [hX] at hsp
    refine ⟨⟨[]⟩, false, ?_, hsp, by decide⟩
    cases hq : unitB ⟨u.codes.map g⟩ with
    | false => exact hfalse hq
    | true =>
      rw [himpl hq]
      cases ha : (u.codes.all fun c => (iP c).2) with
      | false => rw [honly0]; rfl
      | true =>
        have : (u.codes.map fun c => (iP c).1) = u.codes.map fun c => (sP c).1 := List.map_congr_left fun c hc => by
          rcases (hboth c hc).2.2.2 with ⟨_, _, h⟩ | ⟨h, _⟩
          · exact h
          · have := List.all_eq_true.1 ha c hc
            rw [h] at this; cases this
        rw [this]
        unfold impl_onlyValid
        rw [implValid_ok _ hsmX, hX]; rfl
  | true =>
    rw [hX] at hsp
    have hq : unitB ⟨u.codes.map g⟩ = true := (units_ok hu (g := g) fun j c hj => by
      obtain ⟨xs, S, _, _, e3, e4, _, e6, _⟩ := hsplit j c hj
      have hcm := List.mem_of_getElem? hj
      have h1 := hinv c hcm (hall c hcm) hX
      have h2 := ((hboth c hcm).2.2.1 (hall c hcm)).1
      rw [e3] at h2 ⊢
      rw [spC_len] at h2
      exact ⟨cok_split e6 e4 (by omega), cnt_split e4, rfl⟩).1
    have hi : ∀ c ∈ u.codes, (iP c).2 = true ∧ (iP c).1 = (sP c).1 := fun c hc => by
      rcases (hboth c hc).2.2.2 with ⟨h, _, h2⟩ | ⟨_, h⟩
      · exact ⟨h, h2⟩
      · have h1 := hinv c hc (hall c hc) hX
        have h2 := h (hall c hc)
        omega
    refine ⟨⟨u.codes.map fun c => (sP c).1⟩, true, ?_, hsp, valid_w ⟨hX, hsmX⟩⟩
    rw [himpl hq, List.all_eq_true.2 fun c hc => (hi c hc).1, List.map_congr_left fun c hc => (hi c hc).2]
    unfold impl_onlyValid
    rw [implValid_ok _ hsmX, hX]; rfl
theorem lawPlainUnit (u : Unit_) (hl : LUnit u) : laws_FnExactPlainUnit u = some true := by
  unfold laws_FnExactPlainUnit
  rw [szUnit_ok u hl (by decide) (by decide), Option.bind_some, lt0 (by decide)]
  by_cases hn : (nUnit u : Int) ≤ 1048576
  rotate_left
  · simp [hn]
  have hf : Fits u := by unfold Fits; omega
  have hw := w_le u
  obtain ⟨r, b, h1, h2, h3⟩ := plainUnit_ok u hf
  have hm1 := markUnit_ok u 1 (by decide) (by unfold BM; omega)
  have hm2 := markUnit_ok r 1 (by decide) (by unfold BM; omega)
  have hh2 := heldUnit_ok r 1 (by decide) (by unfold BM; omega)
  have e1 : ¬ (1 + (wCodeS u.codes : Int) < 0) := by omega
  have e2 : ¬ (1 + (wCodeS r.codes : Int) < 0) := by omega
  simp only [hn, decide_true, Bool.not_true, Bool.false_eq_true, if_false, toUnit_ok u hf, Option.bind_some, h1, h2, eqUnit_ok, hm1, hm2, hh2, e1, e2, decide_false, ne_eq, not_true_eq_false]
end Unt
end Go.Wk
