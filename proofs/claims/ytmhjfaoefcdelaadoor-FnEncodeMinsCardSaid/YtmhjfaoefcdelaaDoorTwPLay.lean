/- A part of the proof of FnEncodeMinsCardSaid. -/
import Derived.Test.YtmhjfaoefcdelaaDoorTwPBase
namespace Go.Wk
open Go
namespace Lay

/-! ### sizes and places -/
noncomputable def enc (x : Mins) : List UInt8 := (spec_l25Plain x).getD []
noncomputable def sz (x : Mins) (b : Bool) : Nat := if jumps x.op then 2 + (if b then 1 else 0) + (if x.op = 21 then 1 else 0) else (enc x).length
noncomputable def szs (xs : List Mins) (lg : List Bool) : List Nat := List.zipWith sz xs lg
def plc : Int → List Nat → List Int
  | _, [] => []
  | s, a :: r => s :: plc (s + a) r

theorem plc_length (s : Int) (l : List Nat) : (plc s l).length = l.length := by
  induction l generalizing s with
  | nil => rfl
  | cons a r ih => simp [plc, ih]
theorem plc_append (s : Int) (l r : List Nat) : plc s (l ++ r) = plc s l ++ plc (s + l.sum) r := by
  induction l generalizing s with
  | nil => simp [plc]
  | cons a l ih => simp [plc, ih]; congr 1; omega
theorem plc_bound {s v : Int} {l : List Nat} {i : Nat} (h : (plc s l)[i]? = some v) : s ≤ v ∧ v ≤ s + l.sum := by
  induction l generalizing s i with
  | nil => simp [plc] at h
  | cons a r ih =>
    cases i with
    | zero => simp [plc] at h; subst h; simp; omega
    | succ i =>
      simp only [plc, List.getElem?_cons_succ] at h
      have := ih h
      simp
      omega

structure Good (xs : List Mins) : Prop where
  len : xs.length ≤ 2000
  op : ∀ x ∈ xs, inB x.op 1 22 = true
  a : ∀ x ∈ xs, inB x.a_ 0 7 = true
  b : ∀ x ∈ xs, inB x.b 0 7 = true
  n : ∀ x ∈ xs, jumps x.op = true → 0 ≤ x.n_ ∧ x.n_ < xs.length

theorem enc_both {xs : List Mins} (hg : Good xs) {x : Mins} (hx : x ∈ xs) (hj : jumps x.op = false) : spec_l25Plain x = some (enc x) ∧ impl_encoded x = some (enc x) ∧ (enc x).length ≤ 3 := by
  obtain ⟨l, h1, h2, h3⟩ := enc_ok x (hg.op x hx) hj (hg.a x hx) (hg.b x hx)
  have : enc x = l := by simp [enc, h1]
  rw [this]
  exact ⟨h1, h2, h3⟩

theorem sz_le {xs : List Mins} (hg : Good xs) {x : Mins} (hx : x ∈ xs) (b : Bool) : sz x b ≤ 4 := by
  unfold sz
  split
  · split <;> split <;> omega
  · rename_i h
    have := (enc_both hg hx (by simpa using h)).2.2
    omega

theorem szs_length {xs : List Mins} {lg : List Bool} (hl : lg.length = xs.length) : (szs xs lg).length = xs.length := by simp [szs, hl]

theorem szs_sum {l : List Mins} {lg : List Bool} {xs : List Mins} (hg : Good xs) (hs : ∀ x ∈ l, x ∈ xs) : (szs l lg).sum ≤ 4 * l.length := by
  induction l generalizing lg with
  | nil => simp [szs]
  | cons x l ih =>
    cases lg with
    | nil => simp [szs]
    | cons b lg =>
      have h1 := sz_le hg (hs x (by simp)) b
      have h2 := ih (lg := lg) (fun y hy => hs y (by simp [hy]))
      simp [szs] at h2 ⊢
      omega

theorem szs_snoc {l : List Mins} {lg : List Bool} {x : Mins} {b : Bool} (hb : lg[l.length]? = some b) : szs (l ++ [x]) (lg.take (l ++ [x]).length) = szs l (lg.take l.length) ++ [sz x b] := by
  have hlt := (List.getElem?_eq_some_iff.1 hb).1
  have e : lg.take (l ++ [x]).length = lg.take l.length ++ [b] := by
    rw [List.length_append, List.length_singleton, List.take_add_one, hb]
    rfl
  rw [e]
  unfold szs
  rw [List.zipWith_append (by simp; omega)]
  rfl

theorem size_ok {xs : List Mins} (hg : Good xs) {x : Mins} (hx : x ∈ xs) (b : Bool) : spec_l25Size x b = some (sz x b : Int) := by
  unfold spec_l25Size sz spec_l5Truth
  rw [l24Jumps_ok]
  cases hj : jumps x.op with
  | false =>
    rw [Option.bind_some, (enc_both hg hx hj).1]
    simp
  | true =>
    simp only [Option.bind_some, Bool.not_true, Bool.false_eq_true, if_false, if_true]
    cases b <;> by_cases h : x.op = 21 <;> simp [h] <;> decide

theorem settle_ok {l : layout} (hg : Good l.f.ins) (hl : l.long.length = l.f.ins.length) :
    pimpl_layout__settle l = some ⟨l.f, l.long, (szs l.f.ins l.long).map (fun n : Nat => (n : Int)), plc 0 (szs l.f.ins l.long), ((szs l.f.ins l.long).sum : Int)⟩ := by
  obtain ⟨f, long, s0, p0, z0⟩ := l
  simp only at hg hl ⊢
  unfold pimpl_layout__settle
  simp only
  rcases forN_list (xs := f.ins) (X := Empty) (s := (([], [], 0) : List Int × List Int × Int)) (body := fun i1_1 xs1_1 => Option.bind (getI f.ins i1_1) fun x1_1 => Option.bind (impl_jumpOp x1_1.op) fun r1_1 => Option.bind (if !(r1_1) then Option.bind (impl_encoded x1_1) fun r2_1 => some (r2_1.length : Int) else Option.bind (if decide (x1_1.op = 21) then some (2 + 1) else some 2 : Option (Int)) fun s2_1 => Option.bind (getI long i1_1) fun x2_1 => Option.bind (if x2_1 then some (s2_1 + 1) else some s2_1 : Option (Int)) fun s2_2 => some s2_2 : Option (Int)) fun s1_1 => Option.bind (Option.bind (appM xs1_1.1 ([s1_1] : List Int)) fun pb2_1 => Option.bind (appM xs1_1.2.1 ([xs1_1.2.2] : List Int)) fun pb2_2 => some (pb2_1, pb2_2) : Option ((List Int) × (List Int))) fun s1_2 => some (.inl (s1_2.1, s1_2.2, w64 (xs1_1.2.2 + s1_1))))
    (fun l st => st = ((szs l (long.take l.length)).map (fun n : Nat => (n : Int)), plc 0 (szs l (long.take l.length)), ((szs l (long.take l.length)).sum : Int))) (fun _ => False) (by simp [szs, plc]) (fun l x r st he hst => by
      left
      subst hst
      have hx : x ∈ f.ins := by rw [he]; simp
      have hlen := hg.len
      have hll : l.length < long.length := by rw [hl, he]; simp
      have hsub : ∀ y ∈ l, y ∈ f.ins := fun y hy => by rw [he]; simp [hy]
      have hsum := szs_sum (lg := long.take l.length) hg hsub
      have hl2 : l.length ≤ 2000 := by omega
      have hb : long[l.length]? = some long[l.length] := List.getElem?_eq_getElem hll
      have hz := sz_le hg hx long[l.length]
      have hsz : (szs l (long.take l.length)).length = l.length := by simp [szs]; omega
      refine ⟨_, ?_, rfl⟩
      rw [szs_snoc hb]
      have hstep : (Option.bind (impl_jumpOp x.op) fun r1_1 => (if !(r1_1) then Option.bind (impl_encoded x) fun r2_1 => some (r2_1.length : Int) else Option.bind (if decide (x.op = 21) then some (2 + 1) else some 2 : Option (Int)) fun s2_1 => Option.bind (getI long l.length) fun x2_1 => Option.bind (if x2_1 then some (s2_1 + 1) else some s2_1 : Option (Int)) fun s2_2 => some s2_2 : Option (Int))) = some (sz x long[l.length] : Int) := by
        rw [jumpOp_ok, Option.bind_some]
        unfold sz
        cases hj : jumps x.op with
        | false =>
          rw [(enc_both hg hx hj).2.1]
          simp
        | true =>
          rw [getI_nat, hb]
          simp only [Bool.not_true, Bool.false_eq_true, if_false, if_true, Option.bind_some]
          cases long[l.length] <;> by_cases h : x.op = 21 <;> simp [h]
      have hb2 : ∀ {β : Type} (g : Int → Option β), (Option.bind (impl_jumpOp x.op) fun r1_1 => Option.bind (if !(r1_1) then Option.bind (impl_encoded x) fun r2_1 => some (r2_1.length : Int) else Option.bind (if decide (x.op = 21) then some (2 + 1) else some 2 : Option (Int)) fun s2_1 => Option.bind (getI long l.length) fun x2_1 => Option.bind (if x2_1 then some (s2_1 + 1) else some s2_1 : Option (Int)) fun s2_2 => some s2_2 : Option (Int)) g) = g (sz x long[l.length] : Int) := by
        intro β g
        have := congrArg (fun o => Option.bind o g) hstep
        simp only [Option.bind_some, Option.bind_assoc] at this
        simpa only [Option.bind_assoc] using this
      rw [he, getI_mid, Option.bind_some, hb2]
      rw [appM_ok (by simp; omega), appM_ok (by rw [plc_length, hsz]; simp; omega)]
      simp only [Option.bind_some]
      rw [w64_id (by omega) (by omega)]
      simp [plc_append, plc]) with ⟨st, h1, rfl⟩ | ⟨_, _, h⟩
  · rw [h1]
    simp [List.take_of_length_le (Nat.le_of_eq hl)]
  · exact h.elim

theorem places_ok {f : Mfn} {long : List Bool} (hg : Good f.ins) (hl : long.length = f.ins.length) : spec_l25Places f long = some (plc 0 (szs f.ins long), ((szs f.ins long).sum : Int)) := by
  unfold spec_l25Places
  rcases forN_list (xs := f.ins) (body := (fun (i1_1 : Int) (xs1_1 : (List Int) × Int) => (Option.bind (appM xs1_1.1 ([xs1_1.2] : List Int)) fun ys1_1 => Option.bind (getI long i1_1) fun x1_1 => Option.bind (getI f.ins i1_1) fun x1_2 => Option.bind (spec_l25Size x1_2 x1_1) fun r1_1 => some (.inl (ys1_1, w64 (xs1_1.2 + r1_1))) : Option (((List Int) × Int) ⊕ (Empty))))) (s := (([] : List Int), (0 : Int)))
    (fun l st => st = (plc 0 (szs l (long.take l.length)), ((szs l (long.take l.length)).sum : Int))) (fun _ => False) (by simp [szs, plc]) (fun l x r st he hst => by
      left
      subst hst
      have hx : x ∈ f.ins := by rw [he]; simp
      have hlen := hg.len
      have hll : l.length < long.length := by rw [hl, he]; simp
      have hsub : ∀ y ∈ l, y ∈ f.ins := fun y hy => by rw [he]; simp [hy]
      have hsum := szs_sum (lg := long.take l.length) hg hsub
      have hl2 : l.length ≤ 2000 := by omega
      have hb : long[l.length]? = some long[l.length] := List.getElem?_eq_getElem hll
      have hz := sz_le hg hx long[l.length]
      have hsz : (szs l (long.take l.length)).length = l.length := by simp [szs]; omega
      refine ⟨_, ?_, rfl⟩
      rw [szs_snoc hb, appM_ok (by rw [plc_length, hsz]; simp; omega), he, getI_mid, getI_nat, hb]
      simp only [Option.bind_some]
      rw [size_ok hg hx]
      simp only [Option.bind_some]
      rw [w64_id (by omega) (by omega)]
      simp [plc_append, plc]) with ⟨st, h1, rfl⟩ | ⟨_, _, h⟩
  · rw [h1]
    simp [List.take_of_length_le (Nat.le_of_eq hl)]
  · exact h.elim

/-! ### one round -/
noncomputable def off (xs : List Mins) (lg : List Bool) (i : Nat) (x : Mins) : Int := (plc 0 (szs xs lg)).getD x.n_.toNat 0 - (plc 0 (szs xs lg)).getD i 0 - ((szs xs lg).getD i 0 : Nat)
noncomputable def nxt (xs : List Mins) (lg : List Bool) (i : Nat) (x : Mins) (b : Bool) : Bool := b || (jumps x.op && !inB (off xs lg i x) (-128) 127)
noncomputable def nx (xs : List Mins) (lg : List Bool) : List Bool := (List.zip xs lg).zipIdx.map fun p => nxt xs lg p.2 p.1.1 p.1.2

theorem nx_length {xs : List Mins} {lg : List Bool} (hl : lg.length = xs.length) : (nx xs lg).length = xs.length := by simp [nx, hl]
theorem nx_get {xs : List Mins} {lg : List Bool} {i : Nat} {x : Mins} {b : Bool} (hx : xs[i]? = some x) (hb : lg[i]? = some b) : (nx xs lg)[i]? = some (nxt xs lg i x b) := by
  have h : (List.zip xs lg)[i]? = some (x, b) := by rw [List.getElem?_zip_eq_some]; exact ⟨hx, hb⟩
  simp only [nx, List.getElem?_map, List.getElem?_zipIdx, h, Option.map_some, Nat.zero_add]

theorem round_law {S X : Type} {body : Int → S → Option (S ⊕ X)} (mk : List Bool → Bool → S) {n : Nat} {lg nx : List Bool} (hl : lg.length = n) (hn : nx.length = n)
    (hb : ∀ (i : Nat) (b c : Bool) (cur : List Bool) (fl : Bool), i < n → lg[i]? = some b → nx[i]? = some c → cur[i]? = some b → cur.length = n → body (i : Int) (mk cur fl) = some (.inl (if b = c then mk cur fl else mk (cur.set i true) true)))
    (hup : ∀ (i : Nat) (b c : Bool), lg[i]? = some b → nx[i]? = some c → b ≠ c → c = true) : forN body n 0 (mk lg false) = some (.inl (mk nx (decide (nx ≠ lg)))) := by
  obtain ⟨s', h1, h2⟩ := forN_keep (body := body) (k := n) (i := 0) (s := mk lg false) (fun j s => ∃ i : Nat, j = i ∧ i ≤ n ∧ s = mk (nx.take i ++ lg.drop i) (decide (nx.take i ≠ lg.take i))) ⟨0, rfl, by omega, by simp⟩ (fun j s hj1 hj2 ⟨i, hji, hin, hs⟩ => by
    subst hji
    subst hs
    have hi : i < n := by omega
    obtain ⟨b, hb1⟩ : ∃ b, lg[i]? = some b := ⟨_, List.getElem?_eq_getElem (by omega)⟩
    obtain ⟨c, hc1⟩ : ∃ c, nx[i]? = some c := ⟨_, List.getElem?_eq_getElem (by omega)⟩
    have htl : (nx.take i).length = i := by simp; omega
    have hcur : (nx.take i ++ lg.drop i)[i]? = some b := by
      rw [List.getElem?_append_right (by omega), htl, Nat.sub_self, List.getElem?_drop]
      simpa using hb1
    refine ⟨_, hb i b c _ _ hi hb1 hc1 hcur (by simp; omega), i + 1, by omega, by omega, ?_⟩
    have e1 : nx.take (i + 1) = nx.take i ++ [c] := by rw [List.take_add_one, hc1]; rfl
    have e2 : lg.take (i + 1) = lg.take i ++ [b] := by rw [List.take_add_one, hb1]; rfl
    have e3 : lg.drop i = b :: lg.drop (i + 1) := by
      rw [List.drop_eq_getElem_cons (by omega)]
      congr 1
      have := List.getElem?_eq_some_iff.1 hb1
      exact this.2
    rw [e1, e2, e3]
    by_cases hbc : b = c
    · subst hbc
      rw [if_pos rfl]
      congr 1
      · simp
      · rw [decide_eq_decide]
        simp
    · rw [if_neg hbc]
      have hc := hup i b c hb1 hc1 hbc
      subst hc
      congr 1
      · rw [List.set_append_right _ _ (by omega), htl, Nat.sub_self]
        simp
      · symm
        rw [decide_eq_true_eq]
        intro h
        have := List.append_inj_right' h rfl
        simp at this
        exact hbc this)
  rw [h1]
  obtain ⟨i, hi, _, rfl⟩ := h2
  have : i = n := by omega
  subst this
  rw [List.take_of_length_le (by omega), List.take_of_length_le (by omega), List.drop_eq_nil_of_le (by omega)]
  simp

theorem cnt : ∀ (a b : List Bool), a.length = b.length → (∀ i : Nat, a[i]? = some true → b[i]? = some true) → b.count false ≤ a.count false ∧ (b ≠ a → b.count false < a.count false)
  | [], [], _, _ => by simp
  | [], _ :: _, h, _ => by simp at h
  | _ :: _, [], h, _ => by simp at h
  | x :: a, y :: b, hl, hi => by
    obtain ⟨h1, h2⟩ := cnt a b (by simpa using hl) (fun i h => by simpa using hi (i + 1) (by simpa using h))
    have h0 := hi 0
    simp only [List.getElem?_cons_zero, Option.some.injEq] at h0
    simp only [List.count_cons]
    cases x <;> cases y <;> simp_all
    · omega

theorem getD_some {α : Type} {l : List α} {i : Nat} {d : α} (h : i < l.length) : l[i]? = some (l.getD i d) := by
  rw [List.getElem?_eq_getElem h, List.getD_eq_getElem?_getD, List.getElem?_eq_getElem h]
  rfl

section
variable {f : Mfn} {lg : List Bool} (hg : Good f.ins) (hl : lg.length = f.ins.length)
include hg hl

theorem plc_in {i : Nat} (hi : i < f.ins.length) : (plc 0 (szs f.ins lg))[i]? = some ((plc 0 (szs f.ins lg)).getD i 0) ∧ 0 ≤ (plc 0 (szs f.ins lg)).getD i 0 ∧ (plc 0 (szs f.ins lg)).getD i 0 ≤ 8000 := by
  have h := getD_some (l := plc 0 (szs f.ins lg)) (d := 0) (i := i) (by rw [plc_length, szs_length hl]; exact hi)
  have h2 := plc_bound h
  have h3 := szs_sum (lg := lg) hg (fun x hx => hx)
  have h4 := hg.len
  exact ⟨h, h2.1, by omega⟩

theorem szs_in {i : Nat} {x : Mins} {b : Bool} (hx : f.ins[i]? = some x) (hb : lg[i]? = some b) : (szs f.ins lg)[i]? = some (sz x b) ∧ (szs f.ins lg).getD i 0 = sz x b := by
  have _ := hg
  have _ := hl
  have h : (szs f.ins lg)[i]? = some (sz x b) := by
    unfold szs
    rw [List.getElem?_zipWith, hx, hb]
  exact ⟨h, by rw [List.getD_eq_getElem?_getD, h]; rfl⟩

theorem off_ok {i : Nat} {x : Mins} {b : Bool} (hx : f.ins[i]? = some x) (hb : lg[i]? = some b) (hj : jumps x.op = true) (f' : Mfn) (hf : f'.ins = f.ins) (cur : List Bool) (z : Int) :
    pimpl_layout__offset ⟨f', cur, (szs f.ins lg).map (fun n : Nat => (n : Int)), plc 0 (szs f.ins lg), z⟩ (i : Int) = some (off f.ins lg i x) := by
  have hi := (List.getElem?_eq_some_iff.1 hx).1
  have hxm : x ∈ f.ins := List.mem_of_getElem? hx
  obtain ⟨n0, n1⟩ := hg.n x hxm hj
  obtain ⟨p1, p2, p3⟩ := plc_in hg hl hi
  obtain ⟨q1, q2, q3⟩ := plc_in hg hl (i := x.n_.toNat) (by omega)
  obtain ⟨s1, s2⟩ := szs_in hg hl hx hb
  have hz := sz_le hg hxm b
  unfold pimpl_layout__offset off
  simp only [hf]
  rw [getI_nat, hx, Option.bind_some, getI, if_pos n0, q1, getI_nat, p1, getI_nat, List.getElem?_map, s1]
  simp only [Option.bind_some, Option.map_some]
  rw [s2, w64_id (n := (plc 0 (szs f.ins lg)).getD x.n_.toNat 0 - (plc 0 (szs f.ins lg)).getD i 0) (by omega) (by omega), w64_id (by omega) (by omega)]

theorem up_ok : ∀ (i : Nat) (b c : Bool), lg[i]? = some b → (nx f.ins lg)[i]? = some c → b ≠ c → c = true := by
  have _ := hg
  intro i b c hb hc hbc
  have hi := (List.getElem?_eq_some_iff.1 hb).1
  have := nx_get (List.getElem?_eq_getElem (by omega)) hb (xs := f.ins)
  rw [this] at hc
  simp only [Option.some.injEq, nxt] at hc
  cases b <;> simp_all

theorem up_true (i : Nat) (h : lg[i]? = some true) : (nx f.ins lg)[i]? = some true := by
  have _ := hg
  have hi := (List.getElem?_eq_some_iff.1 h).1
  rw [nx_get (List.getElem?_eq_getElem (by omega)) h]
  simp [nxt]

theorem impl_round (r : layout) (hr : r = ⟨⟨f.params, f.slots, f.ins⟩, lg, (szs f.ins lg).map (fun n : Nat => (n : Int)), plc 0 (szs f.ins lg), ((szs f.ins lg).sum : Int)⟩) :
    forN (S := (List Bool) × Bool) (X := Empty) (fun i3_1 xs3_1 => Option.bind (Option.bind (getI f.ins i3_1) fun x4_1 => Option.bind (Option.bind (impl_jumpOp x4_1.op) fun r5_1 => if r5_1 then Option.bind (getI xs3_1.1 i3_1) fun x5_1 => if !(x5_1) then Option.bind (pimpl_layout__offset (⟨(⟨r.f.params, r.f.slots, f.ins⟩ : Mfn), xs3_1.1, r.sizes, r.places, r.size⟩ : layout) i3_1) fun r5_2 => Option.bind (impl_within r5_2 (-128) 127) fun r5_3 => some (!(r5_3)) else some false else some false : Option (Bool)) fun s4_1 => Option.bind (if s4_1 then Option.bind (getI xs3_1.1 i3_1) fun x5_2 => some ((xs3_1.1.set (i3_1).toNat true), true) else some (xs3_1.1, xs3_1.2) : Option ((List Bool) × Bool)) fun s4_2 => some (s4_2.1, s4_2.2) : Option ((List Bool) × Bool)) fun s3_1 => some (.inl (s3_1.1, s3_1.2))) (((f.ins.length : Int) : Int) - 0).toNat 0 (r.long, false) = some (.inl (nx f.ins lg, decide (nx f.ins lg ≠ lg))) := by
  subst hr
  have e : (((f.ins.length : Int) : Int) - 0).toNat = f.ins.length := by omega
  rw [e]
  refine round_law (fun cur fl => (cur, fl)) hl (nx_length hl) ?_ (up_ok hg hl)
  intro i b c cur fl hi hb hc hcur hcl
  obtain ⟨x, hx⟩ : ∃ x, f.ins[i]? = some x := ⟨_, List.getElem?_eq_getElem hi⟩
  rw [nx_get hx hb] at hc
  simp only [Option.some.injEq, nxt] at hc
  simp only [getI_nat, hx, hcur, Option.bind_some, jumpOp_ok, within_ok, Int.toNat_natCast]
  cases hj : jumps x.op with
  | false =>
    simp only [hj, Bool.false_and, Bool.or_false] at hc
    simp [hc]
  | true =>
    rw [off_ok hg hl hx hb hj _ rfl]
    simp only [hj, Bool.true_and] at hc
    cases b with
    | true => simp at hc; simp [hc]
    | false =>
      simp only [Bool.false_or] at hc
      cases hin : inB (off f.ins lg i x) (-128) 127 <;> simp [hin] at hc <;> simp [hin, hc]

theorem spec_round : forN (S := Bool × (List Bool)) (X := Empty) (fun i3_1 xs3_1 => Option.bind (Option.bind (Option.bind (getI f.ins i3_1) fun x5_1 => Option.bind (spec_l24Jumps x5_1) fun r5_1 => if !(r5_1) then some true else Option.bind (getI lg i3_1) fun x5_2 => some x5_2 : Option (Bool)) fun s4_1 => if s4_1 then some (xs3_1.1, xs3_1.2) else Option.bind (getI (plc 0 (szs f.ins lg)) i3_1) fun x4_1 => Option.bind (getI f.ins i3_1) fun x4_2 => Option.bind (getI (plc 0 (szs f.ins lg)) x4_2.n_) fun x4_3 => Option.bind (spec_l25Size x4_2 false) fun r4_1 => Option.bind (spec_l1In (w64 ((w64 (x4_3 - x4_1)) - r4_1)) (-128) 127) fun r4_2 => Option.bind (if !(r4_2) then Option.bind (getI xs3_1.2 i3_1) fun x5_3 => some (true, (xs3_1.2.set (i3_1).toNat true)) else some (xs3_1.1, xs3_1.2) : Option (Bool × (List Bool))) fun s4_2 => some (s4_2.1, s4_2.2) : Option (Bool × (List Bool))) fun s3_1 => some (.inl (s3_1.1, s3_1.2))) (((f.ins.length : Int) : Int) - 0).toNat 0 (false, lg) = some (.inl (decide (nx f.ins lg ≠ lg), nx f.ins lg)) := by
  have e : (((f.ins.length : Int) : Int) - 0).toNat = f.ins.length := by omega
  rw [e]
  refine round_law (fun cur fl => (fl, cur)) hl (nx_length hl) ?_ (up_ok hg hl)
  intro i b c cur fl hi hb hc hcur hcl
  obtain ⟨x, hx⟩ : ∃ x, f.ins[i]? = some x := ⟨_, List.getElem?_eq_getElem hi⟩
  have hxm : x ∈ f.ins := List.mem_of_getElem? hx
  rw [nx_get hx hb] at hc
  simp only [Option.some.injEq, nxt] at hc
  simp only [getI_nat, hx, hcur, hb, Option.bind_some, l24Jumps_ok, l1In_ok, Int.toNat_natCast, size_ok hg hxm]
  cases hj : jumps x.op with
  | false =>
    simp only [hj, Bool.false_and, Bool.or_false] at hc
    simp [hc]
  | true =>
    simp only [hj, Bool.true_and] at hc
    cases b with
    | true => simp at hc; simp [hc]
    | false =>
      obtain ⟨n0, n1⟩ := hg.n x hxm hj
      obtain ⟨p1, p2, p3⟩ := plc_in hg hl hi
      obtain ⟨q1, q2, q3⟩ := plc_in hg hl (i := x.n_.toNat) (by omega)
      obtain ⟨s1, s2⟩ := szs_in hg hl hx hb
      have hz := sz_le hg hxm false
      have ho : w64 (w64 ((plc 0 (szs f.ins lg)).getD x.n_.toNat 0 - (plc 0 (szs f.ins lg)).getD i 0) - (sz x false : Int)) = off f.ins lg i x := by
        unfold off
        rw [s2, w64_id (n := (plc 0 (szs f.ins lg)).getD x.n_.toNat 0 - (plc 0 (szs f.ins lg)).getD i 0) (by omega) (by omega), w64_id (by omega) (by omega)]
      rw [getI, if_pos n0, q1, p1]
      simp only [Option.bind_some, ho]
      simp only [Bool.false_or] at hc
      cases hin : inB (off f.ins lg i x) (-128) 127 <;> simp [hin] at hc <;> simp [hin, hc]
end

/-! ### again and again -/
theorem impl_step {f : Mfn} {lg : List Bool} (hg : Good f.ins) (hl : lg.length = f.ins.length) (s p : List Int) (z : Int) :
    (fun (xs2_1 : Int × Int × (List Bool) × (List Int) × (List Int) × Int × Bool) => (if xs2_1.2.2.2.2.2.2 then Option.bind (pimpl_layout__settle (⟨(⟨xs2_1.1, xs2_1.2.1, f.ins⟩ : Mfn), xs2_1.2.2.1, xs2_1.2.2.2.1, xs2_1.2.2.2.2.1, xs2_1.2.2.2.2.2.1⟩ : layout)) fun r2_1 => Option.bind (forN (S := (List Bool) × Bool) (X := Empty) (fun i3_1 xs3_1 => Option.bind (Option.bind (getI f.ins i3_1) fun x4_1 => Option.bind (Option.bind (impl_jumpOp x4_1.op) fun r5_1 => if r5_1 then Option.bind (getI xs3_1.1 i3_1) fun x5_1 => if !(x5_1) then Option.bind (pimpl_layout__offset (⟨(⟨r2_1.f.params, r2_1.f.slots, f.ins⟩ : Mfn), xs3_1.1, r2_1.sizes, r2_1.places, r2_1.size⟩ : layout) i3_1) fun r5_2 => Option.bind (impl_within r5_2 (-128) 127) fun r5_3 => some (!(r5_3)) else some false else some false : Option (Bool)) fun s4_1 => Option.bind (if s4_1 then Option.bind (getI xs3_1.1 i3_1) fun x5_2 => some ((xs3_1.1.set (i3_1).toNat true), true) else some (xs3_1.1, xs3_1.2) : Option ((List Bool) × Bool)) fun s4_2 => some (s4_2.1, s4_2.2) : Option ((List Bool) × Bool)) fun s3_1 => some (.inl (s3_1.1, s3_1.2))) (((f.ins.length : Int) : Int) - 0).toNat 0 (r2_1.long, false)) (Sum.elim (fun xs2_2 => some (.inl (r2_1.f.params, r2_1.f.slots, xs2_2.1, r2_1.sizes, r2_1.places, r2_1.size, xs2_2.2))) (fun (e0 : Empty) => nomatch e0)) else some (.inr (xs2_1.1, xs2_1.2.1, xs2_1.2.2.1, xs2_1.2.2.2.1, xs2_1.2.2.2.2.1, xs2_1.2.2.2.2.2.1)) : Option ((Int × Int × (List Bool) × (List Int) × (List Int) × Int × Bool) ⊕ (Int × Int × (List Bool) × (List Int) × (List Int) × Int)))) (f.params, f.slots, lg, s, p, z, true) = some (.inl (f.params, f.slots, nx f.ins lg, (szs f.ins lg).map (fun n : Nat => (n : Int)), plc 0 (szs f.ins lg), ((szs f.ins lg).sum : Int), decide (nx f.ins lg ≠ lg))) := by
  simp only [if_true]
  rw [settle_ok (l := ⟨⟨f.params, f.slots, f.ins⟩, lg, s, p, z⟩) hg hl]
  simp only [Option.bind_some]
  have h := impl_round hg hl _ rfl
  simp only at h
  rw [h]
  rfl

theorem spec_step {f : Mfn} {lg : List Bool} (hg : Good f.ins) (hl : lg.length = f.ins.length) :
    (fun (xs2_1 : (List Bool) × Bool) => (if xs2_1.2 then Option.bind (spec_l25Places f xs2_1.1) fun r2_1 => Option.bind (appM ([] : List Bool) xs2_1.1) fun ys2_1 => Option.bind (forN (S := Bool × (List Bool)) (X := Empty) (fun i3_1 xs3_1 => Option.bind (Option.bind (Option.bind (getI f.ins i3_1) fun x5_1 => Option.bind (spec_l24Jumps x5_1) fun r5_1 => if !(r5_1) then some true else Option.bind (getI xs2_1.1 i3_1) fun x5_2 => some x5_2 : Option (Bool)) fun s4_1 => if s4_1 then some (xs3_1.1, xs3_1.2) else Option.bind (getI r2_1.1 i3_1) fun x4_1 => Option.bind (getI f.ins i3_1) fun x4_2 => Option.bind (getI r2_1.1 x4_2.n_) fun x4_3 => Option.bind (spec_l25Size x4_2 false) fun r4_1 => Option.bind (spec_l1In (w64 ((w64 (x4_3 - x4_1)) - r4_1)) (-128) 127) fun r4_2 => Option.bind (if !(r4_2) then Option.bind (getI xs3_1.2 i3_1) fun x5_3 => some (true, (xs3_1.2.set (i3_1).toNat true)) else some (xs3_1.1, xs3_1.2) : Option (Bool × (List Bool))) fun s4_2 => some (s4_2.1, s4_2.2) : Option (Bool × (List Bool))) fun s3_1 => some (.inl (s3_1.1, s3_1.2))) (((f.ins.length : Int) : Int) - 0).toNat 0 (false, ys2_1)) (Sum.elim (fun xs2_2 => some (.inl (xs2_2.2, xs2_2.1))) (fun (e0 : Empty) => nomatch e0)) else some (.inr xs2_1.1) : Option (((List Bool) × Bool) ⊕ ((List Bool))))) (lg, true) = some (.inl (nx f.ins lg, decide (nx f.ins lg ≠ lg))) := by
  have hlen := hg.len
  simp only [if_true]
  rw [places_ok hg hl, Option.bind_some, appM_ok (by simp; omega), Option.bind_some, List.nil_append]
  rw [spec_round hg hl]
  rfl

theorem fix {f : Mfn} (hg : Good f.ins) : ∀ (n : Nat) (lg : List Bool) (s p : List Int) (z : Int), lg.length = f.ins.length → lg.count false < n →
    ∃ lg' : List Bool, lg'.length = f.ins.length ∧
      loopM (fun (xs2_1 : Int × Int × (List Bool) × (List Int) × (List Int) × Int × Bool) => (if xs2_1.2.2.2.2.2.2 then Option.bind (pimpl_layout__settle (⟨(⟨xs2_1.1, xs2_1.2.1, f.ins⟩ : Mfn), xs2_1.2.2.1, xs2_1.2.2.2.1, xs2_1.2.2.2.2.1, xs2_1.2.2.2.2.2.1⟩ : layout)) fun r2_1 => Option.bind (forN (S := (List Bool) × Bool) (X := Empty) (fun i3_1 xs3_1 => Option.bind (Option.bind (getI f.ins i3_1) fun x4_1 => Option.bind (Option.bind (impl_jumpOp x4_1.op) fun r5_1 => if r5_1 then Option.bind (getI xs3_1.1 i3_1) fun x5_1 => if !(x5_1) then Option.bind (pimpl_layout__offset (⟨(⟨r2_1.f.params, r2_1.f.slots, f.ins⟩ : Mfn), xs3_1.1, r2_1.sizes, r2_1.places, r2_1.size⟩ : layout) i3_1) fun r5_2 => Option.bind (impl_within r5_2 (-128) 127) fun r5_3 => some (!(r5_3)) else some false else some false : Option (Bool)) fun s4_1 => Option.bind (if s4_1 then Option.bind (getI xs3_1.1 i3_1) fun x5_2 => some ((xs3_1.1.set (i3_1).toNat true), true) else some (xs3_1.1, xs3_1.2) : Option ((List Bool) × Bool)) fun s4_2 => some (s4_2.1, s4_2.2) : Option ((List Bool) × Bool)) fun s3_1 => some (.inl (s3_1.1, s3_1.2))) (((f.ins.length : Int) : Int) - 0).toNat 0 (r2_1.long, false)) (Sum.elim (fun xs2_2 => some (.inl (r2_1.f.params, r2_1.f.slots, xs2_2.1, r2_1.sizes, r2_1.places, r2_1.size, xs2_2.2))) (fun (e0 : Empty) => nomatch e0)) else some (.inr (xs2_1.1, xs2_1.2.1, xs2_1.2.2.1, xs2_1.2.2.2.1, xs2_1.2.2.2.2.1, xs2_1.2.2.2.2.2.1)) : Option ((Int × Int × (List Bool) × (List Int) × (List Int) × Int × Bool) ⊕ (Int × Int × (List Bool) × (List Int) × (List Int) × Int)))) (f.params, f.slots, lg, s, p, z, true) = some (f.params, f.slots, lg', (szs f.ins lg').map (fun n : Nat => (n : Int)), plc 0 (szs f.ins lg'), ((szs f.ins lg').sum : Int)) ∧
      loopM (fun (xs2_1 : (List Bool) × Bool) => (if xs2_1.2 then Option.bind (spec_l25Places f xs2_1.1) fun r2_1 => Option.bind (appM ([] : List Bool) xs2_1.1) fun ys2_1 => Option.bind (forN (S := Bool × (List Bool)) (X := Empty) (fun i3_1 xs3_1 => Option.bind (Option.bind (Option.bind (getI f.ins i3_1) fun x5_1 => Option.bind (spec_l24Jumps x5_1) fun r5_1 => if !(r5_1) then some true else Option.bind (getI xs2_1.1 i3_1) fun x5_2 => some x5_2 : Option (Bool)) fun s4_1 => if s4_1 then some (xs3_1.1, xs3_1.2) else Option.bind (getI r2_1.1 i3_1) fun x4_1 => Option.bind (getI f.ins i3_1) fun x4_2 => Option.bind (getI r2_1.1 x4_2.n_) fun x4_3 => Option.bind (spec_l25Size x4_2 false) fun r4_1 => Option.bind (spec_l1In (w64 ((w64 (x4_3 - x4_1)) - r4_1)) (-128) 127) fun r4_2 => Option.bind (if !(r4_2) then Option.bind (getI xs3_1.2 i3_1) fun x5_3 => some (true, (xs3_1.2.set (i3_1).toNat true)) else some (xs3_1.1, xs3_1.2) : Option (Bool × (List Bool))) fun s4_2 => some (s4_2.1, s4_2.2) : Option (Bool × (List Bool))) fun s3_1 => some (.inl (s3_1.1, s3_1.2))) (((f.ins.length : Int) : Int) - 0).toNat 0 (false, ys2_1)) (Sum.elim (fun xs2_2 => some (.inl (xs2_2.2, xs2_2.1))) (fun (e0 : Empty) => nomatch e0)) else some (.inr xs2_1.1) : Option (((List Bool) × Bool) ⊕ ((List Bool))))) (lg, true) = some lg' := by
  intro n
  induction n with
  | zero => intro lg s p z hl hc; omega
  | succ n ih =>
    intro lg s p z hl hc
    have hi := impl_step hg hl s p z
    have hs := spec_step hg hl
    by_cases h : nx f.ins lg = lg
    · have hd : decide (nx f.ins lg ≠ lg) = false := by simp [h]
      rw [hd, h] at hi hs
      exact ⟨lg, hl, (loopM_inl hi).trans (loopM_inr rfl), (loopM_inl hs).trans (loopM_inr rfl)⟩
    · have hd : decide (nx f.ins lg ≠ lg) = true := by simp [h]
      rw [hd] at hi hs
      obtain ⟨lg', h1, h2, h3⟩ := ih (nx f.ins lg) ((szs f.ins lg).map (fun n : Nat => (n : Int))) (plc 0 (szs f.ins lg)) ((szs f.ins lg).sum : Int) (nx_length hl)
        (by have := (cnt lg (nx f.ins lg) (by rw [nx_length hl, hl]) (up_true hg hl)).2 h; omega)
      exact ⟨lg', h1, (loopM_inl hi).trans h2, (loopM_inl hs).trans h3⟩

/-! ### the machine that a function is tried in -/
def mini : Mfn := ⟨0, 0, [⟨22, 0, 0, 0, 0⟩]⟩
def alone (k : Nat) (f : Mfn) : Mach := ⟨List.replicate k mini ++ [f]⟩

theorem mini_ok (k : Int) : okFn k mini = true := by
  simp [okFn, mini, inB, okIns, mask, rest, Nat.testBit]

theorem minis_ok (k : Int) (n : Nat) : okFns k (List.replicate n mini) = true := by
  induction n generalizing k with
  | zero => rfl
  | succ n ih => simp [List.replicate_succ, okFns, mini_ok, ih]

theorem alone_valid (k : Nat) (f : Mfn) : validM (alone k f) = (decide (k ≤ 3) && okFn k f && decide (k + f.ins.length ≤ 2000)) := by
  unfold validM alone
  simp only [okFns_append, minis_ok, List.length_append, List.length_replicate, List.length_singleton, okFns, Bool.true_and, Bool.and_true, Int.zero_add, total_append]
  have h1 : inB ((k + 1 : Nat) : Int) 1 4 = decide (k ≤ 3) := by
    simp only [inB]
    by_cases h : k ≤ 3
    · simp [h]; omega
    · simp [h]; omega
  have h2 : total (List.replicate k mini) = k := by simp [total, mini]
  have h3 : total [f] = f.ins.length := by simp [total]
  rw [h1, h2, h3]

theorem alone_good {k : Nat} {f : Mfn} (h : validM (alone k f) = true) : Good f.ins := by
  rw [alone_valid] at h
  simp only [Bool.and_eq_true, decide_eq_true_eq, okFn, List.all_eq_true] at h
  obtain ⟨⟨h1, h2⟩, h3⟩ := h
  have hx : ∀ x ∈ f.ins, okIns k f.slots f.params f.ins.length x = true := h2.2
  simp only [okIns, Bool.and_eq_true] at hx
  refine ⟨by omega, fun x h => (hx x h).1.1.1, fun x h => (hx x h).1.2.1.1, fun x h => (hx x h).1.2.1.2, fun x h hj => ?_⟩
  have hn := (hx x h).2
  have hm : (mask x.op).testBit 3 = true ∧ lim k f.slots f.params f.ins.length x.op = f.ins.length - 1 := by
    simp only [jumps, Bool.or_eq_true, decide_eq_true_eq] at hj
    rcases hj with hj | hj <;> rw [hj] <;> simp [mask, lim, Nat.testBit]
  rw [hm.1, hm.2] at hn
  simp only [Bool.not_true, Bool.false_or] at hn
  have := range_cases.1 hn
  omega

/-- how many functions the two put ahead -/
theorem spec_most (f : Mfn) (hl : f.ins.length ≤ 1048576) : ∃ s : Nat, s ≤ 4 ∧ (∀ x ∈ f.ins, x.op = 14 → x.n_ < 4 → x.n_ < s) ∧ (s = 0 ∨ ∃ x ∈ f.ins, x.op = 14 ∧ x.n_ = (s : Int) - 1) ∧
    forN (fun (i1_1 : Int) (xs1_1 : Int) => (Option.bind (Option.bind (Option.bind (getI f.ins i1_1) fun x3_1 => if decide (x3_1.op = 14) then if decide (xs1_1 ≤ x3_1.n_) then some (decide (x3_1.n_ < 4)) else some false else some false : Option (Bool)) fun s2_1 => Option.bind (if s2_1 then Option.bind (getI f.ins i1_1) fun x3_2 => some (w64 (x3_2.n_ + 1)) else some xs1_1 : Option (Int)) fun s2_2 => some s2_2 : Option (Int)) fun s1_1 => some (.inl s1_1) : Option ((Int) ⊕ (Empty)))) (((f.ins.length : Int) : Int) - 0).toNat 0 0 = some (.inl (s : Int)) := by
  rcases forN_list (xs := f.ins) (X := Empty) (s := (0 : Int)) (body := (fun (i1_1 : Int) (xs1_1 : Int) => (Option.bind (Option.bind (Option.bind (getI f.ins i1_1) fun x3_1 => if decide (x3_1.op = 14) then if decide (xs1_1 ≤ x3_1.n_) then some (decide (x3_1.n_ < 4)) else some false else some false : Option (Bool)) fun s2_1 => Option.bind (if s2_1 then Option.bind (getI f.ins i1_1) fun x3_2 => some (w64 (x3_2.n_ + 1)) else some xs1_1 : Option (Int)) fun s2_2 => some s2_2 : Option (Int)) fun s1_1 => some (.inl s1_1) : Option ((Int) ⊕ (Empty))))) (fun l st => ∃ s : Nat, st = s ∧ s ≤ 4 ∧ (∀ x ∈ l, x.op = 14 → x.n_ < 4 → x.n_ < s) ∧ (s = 0 ∨ ∃ x ∈ l, x.op = 14 ∧ x.n_ = (s : Int) - 1)) (fun _ => False) ⟨0, rfl, by omega, by simp, .inl rfl⟩ (fun l x r st he ⟨s, h1, h2, h3, h4⟩ => by
      left
      subst h1
      rw [he, getI_mid]
      simp only [Option.bind_some]
      by_cases c : x.op = 14 ∧ (s : Int) ≤ x.n_ ∧ x.n_ < 4
      · obtain ⟨c1, c2, c3⟩ := c
        refine ⟨w64 (x.n_ + 1), by simp [c1, c2, c3], (x.n_ + 1).toNat, by rw [w64_id (by omega) (by omega)]; omega, by omega, ?_, .inr ⟨x, by simp, c1, by omega⟩⟩
        intro y hy h5 h6
        simp only [List.mem_append, List.mem_singleton] at hy
        rcases hy with hy | rfl
        · have := h3 y hy h5 h6; omega
        · omega
      · refine ⟨s, ?_, s, rfl, h2, ?_, ?_⟩
        · by_cases c1 : x.op = 14 <;> by_cases c2 : (s : Int) ≤ x.n_ <;> by_cases c3 : x.n_ < 4 <;> simp [c1, c2, c3]
          exact absurd ⟨c1, c2, c3⟩ c
        · intro y hy h5 h6
          simp only [List.mem_append, List.mem_singleton] at hy
          rcases hy with hy | rfl
          · exact h3 y hy h5 h6
          · rcases Int.lt_or_le y.n_ s with h | h
            · exact h
            · exact absurd ⟨h5, h, h6⟩ c
        · rcases h4 with h4 | ⟨y, hy, h5, h6⟩
          · exact .inl h4
          · exact .inr ⟨y, by simp [hy], h5, h6⟩) with ⟨st, h1, s, rfl, h2, h3, h4⟩ | ⟨_, _, h⟩
  · exact ⟨s, h2, h3, h4, h1⟩
  · exact h.elim

theorem impl_most (f : Mfn) : ∃ s : Nat, s ≤ 5 ∧ (∀ x ∈ f.ins, x.op = 14 → min x.n_ 4 + 1 ≤ s) ∧ (s = 0 ∨ ∃ x ∈ f.ins, x.op = 14 ∧ (s : Int) = min x.n_ 4 + 1) ∧
    ((∀ x ∈ f.ins, -9223372036854775808 ≤ x.n_) → forN (fun (i1_1 : Int) (xs1_1 : Int) => (Option.bind (Option.bind (getI f.ins i1_1) fun x2_1 => Option.bind (if decide (x2_1.op = 14) then some (maxI xs1_1 (w64 (((minI x2_1.n_ 4)) + 1))) else some xs1_1 : Option (Int)) fun s2_1 => some s2_1 : Option (Int)) fun s1_1 => some (.inl s1_1) : Option ((Int) ⊕ (Empty)))) (((f.ins.length : Int) : Int) - 0).toNat 0 0 = some (.inl (s : Int))) := by
  have key : ∀ (l : List Mins) , ∃ s : Nat, s ≤ 5 ∧ (∀ x ∈ l, x.op = 14 → min x.n_ 4 + 1 ≤ s) ∧ (s = 0 ∨ ∃ x ∈ l, x.op = 14 ∧ (s : Int) = min x.n_ 4 + 1) := by
    intro l
    induction l with
    | nil => exact ⟨0, by omega, by simp, .inl rfl⟩
    | cons x l ih =>
      obtain ⟨s, h1, h2, h3⟩ := ih
      by_cases c : x.op = 14 ∧ (s : Int) < min x.n_ 4 + 1
      · refine ⟨(min x.n_ 4 + 1).toNat, by omega, ?_, .inr ⟨x, by simp, c.1, by omega⟩⟩
        intro y hy h5
        rcases List.mem_cons.1 hy with rfl | hy
        · omega
        · have := h2 y hy h5; omega
      · refine ⟨s, h1, ?_, ?_⟩
        · intro y hy h5
          rcases List.mem_cons.1 hy with rfl | hy
          · rcases Int.lt_or_le s (min y.n_ 4 + 1) with h | h
            · exact absurd ⟨h5, h⟩ c
            · exact h
          · exact h2 y hy h5
        · rcases h3 with h3 | ⟨y, hy, h5, h6⟩
          · exact .inl h3
          · exact .inr ⟨y, by simp [hy], h5, h6⟩
  obtain ⟨s, h1, h2, h3⟩ := key f.ins
  refine ⟨s, h1, h2, h3, fun hr => ?_⟩
  rcases forN_list (xs := f.ins) (X := Empty) (s := (0 : Int)) (body := (fun (i1_1 : Int) (xs1_1 : Int) => (Option.bind (Option.bind (getI f.ins i1_1) fun x2_1 => Option.bind (if decide (x2_1.op = 14) then some (maxI xs1_1 (w64 (((minI x2_1.n_ 4)) + 1))) else some xs1_1 : Option (Int)) fun s2_1 => some s2_1 : Option (Int)) fun s1_1 => some (.inl s1_1) : Option ((Int) ⊕ (Empty))))) (fun l st => 0 ≤ st ∧ (∀ x ∈ l, x.op = 14 → min x.n_ 4 + 1 ≤ st) ∧ (st = 0 ∨ ∃ x ∈ l, x.op = 14 ∧ st = min x.n_ 4 + 1)) (fun _ => False) ⟨by omega, by simp, .inl rfl⟩ (fun l x r st he ⟨g1, g2, g3⟩ => by
      left
      have hx : x ∈ f.ins := by rw [he]; simp
      have hn := hr x hx
      rw [he, getI_mid]
      simp only [Option.bind_some]
      by_cases c : x.op = 14
      · refine ⟨maxI st (w64 (minI x.n_ 4 + 1)), by simp [c], ?_⟩
        rw [maxI_eq, minI_eq, w64_id (by omega) (by omega)]
        refine ⟨by omega, ?_, ?_⟩
        · intro y hy h5
          simp only [List.mem_append, List.mem_singleton] at hy
          rcases hy with hy | rfl
          · have := g2 y hy h5; omega
          · omega
        · by_cases h : min x.n_ 4 + 1 ≤ st
          · rcases g3 with g3 | ⟨y, hy, h5, h6⟩
            · exact .inl (by omega)
            · exact .inr ⟨y, by simp [hy], h5, by omega⟩
          · exact .inr ⟨x, by simp, c, by omega⟩
      · refine ⟨st, by simp [c], g1, ?_, ?_⟩
        · intro y hy h5
          simp only [List.mem_append, List.mem_singleton] at hy
          rcases hy with hy | rfl
          · exact g2 y hy h5
          · exact absurd h5 c
        · rcases g3 with g3 | ⟨y, hy, h5, h6⟩
          · exact .inl g3
          · exact .inr ⟨y, by simp [hy], h5, h6⟩) with ⟨st, e1, e2, e3, e4⟩ | ⟨_, _, h⟩
  · rw [e1]
    congr 2
    rcases h3 with h3 | ⟨x, hx, h5, h6⟩ <;> rcases e4 with e4 | ⟨y, hy, e5, e6⟩
    · omega
    · have := h2 y hy e5; omega
    · have := e3 x hx h5; omega
    · have := h2 y hy e5; have := e3 x hx h5; omega
  · exact h.elim

theorem both_valid (f : Mfn) {s e : Nat} (hs : s ≤ 4) (hs1 : ∀ x ∈ f.ins, x.op = 14 → x.n_ < 4 → x.n_ < s) (hs2 : s = 0 ∨ ∃ x ∈ f.ins, x.op = 14 ∧ x.n_ = (s : Int) - 1)
    (he1 : ∀ x ∈ f.ins, x.op = 14 → min x.n_ 4 + 1 ≤ (e : Int)) (he2 : e = 0 ∨ ∃ x ∈ f.ins, x.op = 14 ∧ (e : Int) = min x.n_ 4 + 1) : validM (alone e f) = validM (alone s f) := by
  by_cases hbig : ∃ x ∈ f.ins, x.op = 14 ∧ 4 ≤ x.n_
  · obtain ⟨x, hx, h1, h2⟩ := hbig
    have := he1 x hx h1
    rw [alone_valid, alone_valid]
    have e1 : ¬ e ≤ 3 := by omega
    have e2 : okFn s f = false ∨ ¬ s ≤ 3 := by
      rcases Nat.lt_or_ge 3 s with h | h
      · exact .inr (by omega)
      · left
        cases hok : okFn s f with
        | false => rfl
        | true =>
          simp only [okFn, Bool.and_eq_true, List.all_eq_true] at hok
          have h3 := hok.2 x hx
          simp only [okIns, Bool.and_eq_true] at h3
          have h4 := h3.2
          rw [h1] at h4
          simp [mask, lim, Nat.testBit, inB] at h4
          omega
    rcases e2 with e2 | e2 <;> simp [e1, e2]
  · have hsm : ∀ x ∈ f.ins, x.op = 14 → x.n_ < 4 := fun x hx h1 => by
      rcases Int.lt_or_le x.n_ 4 with h | h
      · exact h
      · exact absurd ⟨x, hx, h1, h⟩ hbig
    have : e = s := by
      rcases hs2 with h1 | ⟨x, hx, h1, h2⟩ <;> rcases he2 with h3 | ⟨y, hy, h3, h4⟩
      · omega
      · have := hs1 y hy h3 (hsm y hy h3); have := hsm y hy h3; omega
      · have := he1 x hx h1; omega
      · have := hs1 y hy h3 (hsm y hy h3); have := hsm y hy h3; have := he1 x hx h1; have := hsm x hx h1; omega
    rw [this]

theorem spec_alone (f : Mfn) (hl : f.ins.length ≤ 1048576) {s : Nat} (hs : s ≤ 4) (hr : forN (fun (i1_1 : Int) (xs1_1 : Int) => (Option.bind (Option.bind (Option.bind (getI f.ins i1_1) fun x3_1 => if decide (x3_1.op = 14) then if decide (xs1_1 ≤ x3_1.n_) then some (decide (x3_1.n_ < 4)) else some false else some false : Option (Bool)) fun s2_1 => Option.bind (if s2_1 then Option.bind (getI f.ins i1_1) fun x3_2 => some (w64 (x3_2.n_ + 1)) else some xs1_1 : Option (Int)) fun s2_2 => some s2_2 : Option (Int)) fun s1_1 => some (.inl s1_1) : Option ((Int) ⊕ (Empty)))) (((f.ins.length : Int) : Int) - 0).toNat 0 0 = some (.inl (s : Int))) :
    spec_l25Alone f = some (alone s f) := by
  unfold spec_l25Alone
  have h2 : forN (S := (List Mfn)) (X := Empty) (fun i1_2 xs1_2 => Option.bind (appM xs1_2 ([(⟨0, 0, ([(⟨22, 0, 0, 0, 0⟩ : Mins)] : List Mins)⟩ : Mfn)] : List Mfn)) fun ys1_1 => some (.inl ys1_1)) (((s : Int) : Int) - 0).toNat 0 [] = some (.inl (List.replicate s mini)) := by
    have : s = 0 ∨ s = 1 ∨ s = 2 ∨ s = 3 ∨ s = 4 := by omega
    rcases this with rfl | rfl | rfl | rfl | rfl <;> rfl
  have hfit : fitI (s : Int) = some () := fitI_some.2 (by omega)
  have h3 : appM (List.replicate s mini) [f] = some (List.replicate s mini ++ [f]) := appM_ok (by simp; omega)
  refine (bindc hr).trans ?_
  show Option.bind (fitI (s : Int)) _ = _
  rw [hfit]
  refine (bindc h2).trans ?_
  show Option.bind (appM (List.replicate s mini) [f]) _ = _
  rw [h3]
  rfl

theorem mul_ok : ∀ c ∈ ([0, 1, 2, 3, 4, 5] : List Int), math_bits_Mul 1 c = some (0, c) := by decide

theorem repeat_ok {e : Nat} (he : e ≤ 5) : slices_Repeat_S_impl_Mfn_impl_Mfn [mini] e = some (List.replicate e mini) := by
  have : e = 0 ∨ e = 1 ∨ e = 2 ∨ e = 3 ∨ e = 4 ∨ e = 5 := by omega
  unfold slices_Repeat_S_impl_Mfn_impl_Mfn
  rcases this with rfl | rfl | rfl | rfl | rfl | rfl
  · refine (if_neg (by decide)).trans ((bindc (show math_bits_Mul (IntKind.u64.wrap ((1 : Nat) : Int)) (IntKind.u64.wrap ((0 : Nat) : Int)) = some (0, 0) from by decide)).trans ?_)
    show Option.bind (Option.bind (loopM _ (([] : List Mfn), (0 : Int))) _) _ = _
    rw [loopM_inr rfl]
    rfl
  · refine (if_neg (by decide)).trans ((bindc (show math_bits_Mul (IntKind.u64.wrap ((1 : Nat) : Int)) (IntKind.u64.wrap ((1 : Nat) : Int)) = some (0, 1) from by decide)).trans ?_)
    show Option.bind (Option.bind (loopM _ (([mini] : List Mfn), (1 : Int))) _) _ = _
    rw [loopM_inr rfl]
    rfl
  · refine (if_neg (by decide)).trans ((bindc (show math_bits_Mul (IntKind.u64.wrap ((1 : Nat) : Int)) (IntKind.u64.wrap ((2 : Nat) : Int)) = some (0, 2) from by decide)).trans ?_)
    show Option.bind (Option.bind (loopM _ (([mini, ⟨0, 0, []⟩] : List Mfn), (1 : Int))) _) _ = _
    rw [loopM_inl (s' := (([mini, mini] : List Mfn), (2 : Int))) rfl]
    rw [loopM_inr rfl]
    rfl
  · refine (if_neg (by decide)).trans ((bindc (show math_bits_Mul (IntKind.u64.wrap ((1 : Nat) : Int)) (IntKind.u64.wrap ((3 : Nat) : Int)) = some (0, 3) from by decide)).trans ?_)
    show Option.bind (Option.bind (loopM _ (([mini, ⟨0, 0, []⟩, ⟨0, 0, []⟩] : List Mfn), (1 : Int))) _) _ = _
    rw [loopM_inl (s' := (([mini, mini, ⟨0, 0, []⟩] : List Mfn), (2 : Int))) rfl]
    rw [loopM_inl (s' := (([mini, mini, mini] : List Mfn), (3 : Int))) rfl]
    rw [loopM_inr rfl]
    rfl
  · refine (if_neg (by decide)).trans ((bindc (show math_bits_Mul (IntKind.u64.wrap ((1 : Nat) : Int)) (IntKind.u64.wrap ((4 : Nat) : Int)) = some (0, 4) from by decide)).trans ?_)
    show Option.bind (Option.bind (loopM _ (([mini, ⟨0, 0, []⟩, ⟨0, 0, []⟩, ⟨0, 0, []⟩] : List Mfn), (1 : Int))) _) _ = _
    rw [loopM_inl (s' := (([mini, mini, ⟨0, 0, []⟩, ⟨0, 0, []⟩] : List Mfn), (2 : Int))) rfl]
    rw [loopM_inl (s' := (([mini, mini, mini, mini] : List Mfn), (4 : Int))) rfl]
    rw [loopM_inr rfl]
    rfl
  · refine (if_neg (by decide)).trans ((bindc (show math_bits_Mul (IntKind.u64.wrap ((1 : Nat) : Int)) (IntKind.u64.wrap ((5 : Nat) : Int)) = some (0, 5) from by decide)).trans ?_)
    show Option.bind (Option.bind (loopM _ (([mini, ⟨0, 0, []⟩, ⟨0, 0, []⟩, ⟨0, 0, []⟩, ⟨0, 0, []⟩] : List Mfn), (1 : Int))) _) _ = _
    rw [loopM_inl (s' := (([mini, mini, ⟨0, 0, []⟩, ⟨0, 0, []⟩, ⟨0, 0, []⟩] : List Mfn), (2 : Int))) rfl]
    rw [loopM_inl (s' := (([mini, mini, mini, mini, ⟨0, 0, []⟩] : List Mfn), (4 : Int))) rfl]
    rw [loopM_inl (s' := (([mini, mini, mini, mini, mini] : List Mfn), (5 : Int))) rfl]
    rw [loopM_inr rfl]
    rfl

/-! ### what the two come to -/
structure Laid (f : Mfn) where
  lg : List Bool
  len : lg.length = f.ins.length

theorem both (f : Mfn) (hl : f.ins.length ≤ 1048576) (hr : ∀ x ∈ f.ins, -9223372036854775808 ≤ x.n_) :
    (spec_l25Can f = some false ∧ impl_layoutOf f = some none) ∨
    ∃ lg : List Bool, Good f.ins ∧ lg.length = f.ins.length ∧ spec_l25Can f = some true ∧ spec_l25Long f = some lg ∧ spec_l25Places f lg = some (plc 0 (szs f.ins lg), ((szs f.ins lg).sum : Int)) ∧
      impl_layoutOf f = some (some ⟨f, lg, (szs f.ins lg).map (fun n : Nat => (n : Int)), plc 0 (szs f.ins lg), ((szs f.ins lg).sum : Int)⟩) := by
  obtain ⟨s, hs, hs1, hs2, hs3⟩ := spec_most f hl
  obtain ⟨e, he, he1, he2, he3⟩ := impl_most f
  have hv := both_valid f hs hs1 hs2 he1 he2
  have hsv : spec_MachValid (alone s f) = some (validM (alone s f)) := spec_valid (fun g hg => by
    simp only [alone, List.mem_append, List.mem_replicate, List.mem_singleton] at hg
    rcases hg with ⟨_, rfl⟩ | rfl
    · simp [mini]
    · exact hl)
  have hiv : impl_MachValid (alone e f) = some (validM (alone s f)) := by
    rw [← hv]
    exact impl_valid (fun g hg => by
      simp only [alone, List.mem_append, List.mem_replicate, List.mem_singleton] at hg
      rcases hg with ⟨_, rfl⟩ | rfl
      · simp [mini]
      · exact hl)
  have happ : appM (List.replicate e mini) [f] = some (List.replicate e mini ++ [f]) := appM_ok (by simp; omega)
  have hspec : ∀ {b : Option Bool}, _ → spec_l25Can f = b := fun {b} h => bindt (spec_alone f hl hs hs3) (bindt hsv h)
  have himpl : ∀ {b : Option (Option layout)}, _ → impl_layoutOf f = b := fun {b} h => bindt (he3 hr) (bindt (bindt (repeat_ok he) (bindt happ rfl)) (bindt hiv h))
  cases hval : validM (alone s f) with
  | false =>
    rw [hval] at hspec himpl
    exact .inl ⟨hspec rfl, himpl rfl⟩
  | true =>
    rw [hval] at hspec himpl
    have hg := alone_good hval
    have hlen := hg.len
    have hmk : makeM false (f.ins.length : Int) = some (List.replicate f.ins.length false) := by rw [makeM_ok (by omega) (by omega)]; simp
    obtain ⟨lg, h1, h2, h3⟩ := fix hg (f.ins.length + 1) (List.replicate f.ins.length false) [] [] 0 (by simp) (by simp)
    have hlong : spec_l25Long f = some lg := bindt hmk (bindt (bindt h3 rfl) rfl)
    have hpl := places_ok hg h1
    have hsum := szs_sum (lg := lg) hg (fun x hx => hx)
    refine .inr ⟨lg, hg, h1, ?_, hlong, hpl, ?_⟩
    · refine hspec ((if_neg (by decide)).trans (bindt hlong (bindt hpl ?_)))
      rw [decide_eq_true]
      show (((szs f.ins lg).sum : Int)) ≤ 8000
      omega
    · refine himpl ((if_neg (by decide)).trans (bindt hmk (bindt (bindt h2 rfl) ?_)))
      show (if decide (8000 < ((szs f.ins lg).sum : Int)) then some none else some (some _)) = _
      rw [decide_eq_false (by omega)]
      rfl
end Lay
end Go.Wk
