/- A part of the proof of FnExactReachedMinsSaid. -/
import Derived.Test.YthfeimbpjeijpaaRmTypes
namespace Go.Wk
open Go

noncomputable def laws_szMinsS (a_ : List Mins) (left : Int) : Option (Int) :=
  if decide ((w64 (left - ((a_.length : Int)))) < 0) then some (-1) else some (w64 (left - ((a_.length : Int))))

noncomputable def laws_szMfn (a_ : Mfn) (left : Int) : Option (Int) :=
  Option.bind (laws_szMinsS a_.ins left) fun r0_1 => if decide (r0_1 < 0) then some (-1) else some r0_1

noncomputable def laws_toMins (a_ : Mins) : Option (Mins) :=
  some a_

noncomputable def laws_toMinsS (a_ : List Mins) : Option ((List Mins)) :=
  Option.bind (makeM ((⟨0, 0, 0, 0, 0⟩ : Mins) : Mins) (a_.length : Int)) fun ys0_1 => Option.bind (forN (S := (List Mins)) (X := Empty) (fun i1_1 xs1_1 => Option.bind (getI a_ i1_1) fun x1_1 => Option.bind (laws_toMins x1_1) fun r1_1 => Option.bind (getI xs1_1 i1_1) fun x1_2 => some (.inl (xs1_1.set (i1_1).toNat r1_1))) (((a_.length : Int) : Int) - 0).toNat 0 ys0_1) (Sum.elim (fun xs0_1 => some xs0_1) (fun (e0 : Empty) => nomatch e0))

noncomputable def laws_toMfn (a_ : Mfn) : Option (Mfn) :=
  Option.bind (laws_toMinsS a_.ins) fun r0_1 => some (⟨a_.params, a_.slots, r0_1⟩ : Mfn)

noncomputable def spec_l24Jumps (x_ : Mins) : Option (Bool) :=
  Option.bind (if decide (x_.op = 20) then some true else some (decide (x_.op = 21)) : Option (Bool)) fun s0_1 => some s0_1

noncomputable def spec_l1In (n_ : Int) (low : Int) (high : Int) : Option (Bool) :=
  Option.bind (if decide (low ≤ n_) then some (decide (n_ ≤ high)) else some false : Option (Bool)) fun s0_1 => some s0_1

noncomputable def spec_l24Fits (f : Mfn) : Option (Bool) :=
  Option.bind (forN (S := Unit) (X := Bool) (fun i1_1 xs1_1 => Option.bind (Option.bind (getI f.ins i1_1) fun x2_1 => Option.bind (spec_l24Jumps x2_1) fun r2_1 => if r2_1 then Option.bind (spec_l1In x2_1.n_ 0 (((f.ins.length : Int)) - 1)) fun r2_2 => some (!(r2_2)) else some false : Option (Bool)) fun s1_1 => if s1_1 then some (.inr false) else some (.inl ())) (((f.ins.length : Int) : Int) - 0).toNat 0 ()) (Sum.elim (fun xs0_1 => if decide (((f.ins.length : Int)) = 0) then some false else Option.bind (getI f.ins (((f.ins.length : Int)) - 1)) fun x0_1 => Option.bind (if decide (x0_1.op = 20) then some true else some (decide (x0_1.op = 22)) : Option (Bool)) fun s0_1 => some s0_1) (fun e0 => some e0))

noncomputable def spec_l24Reached (f : Mfn) : Option ((List Bool)) :=
  Option.bind (makeM (false : Bool) (f.ins.length : Int)) fun ys0_1 => Option.bind (Option.bind (loopM (S := (List Bool) × (List Int)) (X := (List Bool)) (fun xs2_1 => if decide (0 < ((xs2_1.2.length : Int))) then Option.bind (Option.bind (getI xs2_1.2 0) fun x3_1 => Option.bind (subM xs2_1.2 1 (xs2_1.2.length : Int)) fun x3_2 => Option.bind (getI xs2_1.1 x3_1) fun x3_3 => if x3_3 then some (xs2_1.1, x3_2) else Option.bind (getI f.ins x3_1) fun x3_4 => Option.bind (spec_l24Jumps x3_4) fun r3_1 => Option.bind (if r3_1 then Option.bind (appM x3_2 ([x3_4.n_] : List Int)) fun ys4_1 => some ys4_1 else some x3_2 : Option ((List Int))) fun s3_1 => Option.bind (if decide (x3_4.op ≠ 20) then some (decide (x3_4.op ≠ 22)) else some false : Option (Bool)) fun s3_2 => Option.bind (if s3_2 then Option.bind (appM s3_1 ([w64 (x3_1 + 1)] : List Int)) fun ys4_2 => some ys4_2 else some s3_1 : Option ((List Int))) fun s3_3 => some ((xs2_1.1.set (x3_1).toNat true), s3_3) : Option ((List Bool) × (List Int))) fun s2_1 => some (.inl (s2_1.1, s2_1.2)) else some (.inr xs2_1.1)) (ys0_1, ([0] : List Int))) (fun e0 => some e0) : Option ((List Bool))) fun s0_1 => some s0_1

noncomputable def spec_l12List (set_ : List Bool) : Option ((List Int)) :=
  Option.bind (forN (S := (List Int)) (X := Empty) (fun i1_1 xs1_1 => Option.bind (Option.bind (getI set_ i1_1) fun x2_1 => Option.bind (if x2_1 then Option.bind (appM xs1_1 ([i1_1] : List Int)) fun ys3_1 => some ys3_1 else some xs1_1 : Option ((List Int))) fun s2_1 => some s2_1 : Option ((List Int))) fun s1_1 => some (.inl s1_1)) (((set_.length : Int) : Int) - 0).toNat 0 ([] : List Int)) (Sum.elim (fun xs0_1 => some xs0_1) (fun (e0 : Empty) => nomatch e0))

noncomputable def spec_ReachedMins (f : Mfn) : Option ((List Int)) :=
  Option.bind (spec_l24Fits f) fun r0_1 => if !(r0_1) then some ([] : List Int) else Option.bind (spec_l24Reached f) fun r0_2 => Option.bind (spec_l12List r0_2) fun r0_3 => some r0_3

noncomputable def impl_jumpOp (op : Int) : Option (Bool) :=
  Option.bind (if decide (op = 20) then some true else some (decide (op = 21)) : Option (Bool)) fun s0_1 => some s0_1

noncomputable def impl_within (n_ : Int) (low : Int) (high : Int) : Option (Bool) :=
  Option.bind (if decide (low ≤ n_) then some (decide (n_ ≤ high)) else some false : Option (Bool)) fun s0_1 => some s0_1

noncomputable def impl_peepable_1 (x_ : Mins) (c0_ : Int) : Option (Bool) :=
  Option.bind (Option.bind (impl_jumpOp x_.op) fun r1_1 => if r1_1 then Option.bind (impl_within x_.n_ 0 (w64 (c0_ - 1))) fun r1_2 => some (!(r1_2)) else some false : Option (Bool)) fun s0_1 => some s0_1

noncomputable def slices_IndexFunc_S_impl_Mins_impl_Mins (s_ : List Mins) (f : Mins → Option Bool) : Option (Int) :=
  Option.bind (forN (S := Unit) (X := Int) (fun i1_1 xs1_1 => Option.bind (getI s_ i1_1) fun x1_1 => Option.bind (f x1_1) fun r1_1 => if r1_1 then some (.inr i1_1) else some (.inl ())) (((s_.length : Int) : Int) - 0).toNat 0 ()) (Sum.elim (fun xs0_1 => some (-1)) (fun e0 => some e0))

noncomputable def slices_ContainsFunc_S_impl_Mins_impl_Mins (s_ : List Mins) (f : Mins → Option Bool) : Option (Bool) :=
  Option.bind (slices_IndexFunc_S_impl_Mins_impl_Mins s_ f) fun r0_1 => some (decide (0 ≤ r0_1))

noncomputable def impl_peepable (f : Mfn) : Option (Bool) :=
  Option.bind (if decide (0 < ((f.ins.length : Int))) then Option.bind (getI f.ins (((f.ins.length : Int)) - 1)) fun x1_1 => if decide (x1_1.op = 20) then Option.bind (slices_ContainsFunc_S_impl_Mins_impl_Mins f.ins (fun y0 => impl_peepable_1 y0 (f.ins.length : Int))) fun r1_1 => some (!(r1_1)) else if decide (x1_1.op = 22) then Option.bind (slices_ContainsFunc_S_impl_Mins_impl_Mins f.ins (fun y0 => impl_peepable_1 y0 (f.ins.length : Int))) fun r1_2 => some (!(r1_2)) else some false else some false : Option (Bool)) fun s0_1 => some s0_1

noncomputable def impl_ReachedMins_1 (at_ : Int) (c0_ : Mfn) : Option ((List Int)) :=
  Option.bind (getI c0_.ins at_) fun x0_1 => Option.bind (impl_jumpOp x0_1.op) fun r0_1 => Option.bind (if r0_1 then Option.bind (appM ([] : List Int) ([x0_1.n_] : List Int)) fun ys1_1 => some ys1_1 else some [] : Option ((List Int))) fun s0_1 => Option.bind (if decide (x0_1.op ≠ 20) then some (decide (x0_1.op ≠ 22)) else some false : Option (Bool)) fun s0_2 => Option.bind (if s0_2 then Option.bind (appM s0_1 ([w64 (at_ + 1)] : List Int)) fun ys1_2 => some ys1_2 else some s0_1 : Option ((List Int))) fun s0_3 => some s0_3

noncomputable def impl_closure_1 (n_ : Int) (c0_ : MapS Bool) (c1_ : Int → Option (List Int)) : Option ((MapS Bool)) :=
  Option.bind (if !(((MapS.get c0_ n_).getD false)) then Option.bind (c1_ n_) fun r1_1 => Option.bind (forN (S := (MapS Bool)) (X := Empty) (fun i2_1 xs2_1 => Option.bind (getI r1_1 i2_1) fun x2_1 => Option.bind (impl_closure_1 x2_1 xs2_1 c1_) fun r2_1 => some (.inl r2_1)) (((r1_1.length : Int) : Int) - 0).toNat 0 (MapS.ins c0_ n_ true)) (Sum.elim (fun xs1_1 => some xs1_1) (fun (e0 : Empty) => nomatch e0)) else some c0_ : Option ((MapS Bool))) fun s0_1 => some s0_1
partial_fixpoint

def impl_sortedKeys_bool (m : MapS Bool) : Option (List Int) := appM [] (MapS.keys m)

noncomputable def impl_closure (start : List Int) (leads : Int → Option (List Int)) : Option ((List Int)) :=
  Option.bind (forN (S := (MapS Bool)) (X := Empty) (fun i1_1 xs1_1 => Option.bind (getI start i1_1) fun x1_1 => Option.bind (impl_closure_1 x1_1 xs1_1 leads) fun r1_1 => some (.inl r1_1)) (((start.length : Int) : Int) - 0).toNat 0 (MapS.mk0 : MapS Bool)) (Sum.elim (fun xs0_1 => Option.bind (impl_sortedKeys_bool xs0_1) fun r0_2 => some r0_2) (fun (e0 : Empty) => nomatch e0))

noncomputable def impl_ReachedMins (f : Mfn) : Option ((List Int)) :=
  Option.bind (impl_peepable f) fun r0_1 => if !(r0_1) then some [] else Option.bind (impl_closure ([0] : List Int) (fun y0 => impl_ReachedMins_1 y0 f)) fun r0_2 => some r0_2

noncomputable def laws_eqIntS (a_ : List Int) (b_ : List Int) : Option (Bool) :=
  if decide (((a_.length : Int)) ≠ ((b_.length : Int))) then some false else Option.bind (forN (S := Unit) (X := Bool) (fun i1_1 xs1_1 => Option.bind (getI a_ i1_1) fun x1_1 => Option.bind (getI b_ i1_1) fun x1_2 => if decide (x1_1 ≠ x1_2) then some (.inr false) else some (.inl ())) (((a_.length : Int) : Int) - 0).toNat 0 ()) (Sum.elim (fun xs0_1 => some true) (fun e0 => some e0))

noncomputable def laws_eqMins (a_ : Mins) (b_ : Mins) : Option (Bool) :=
  if decide (a_.op ≠ b_.op) then some false else if decide (a_.a_ ≠ b_.a_) then some false else if decide (a_.b ≠ b_.b) then some false else if decide (a_.c ≠ b_.c) then some false else if decide (a_.n_ ≠ b_.n_) then some false else some true

noncomputable def laws_eqMinsS (a_ : List Mins) (b_ : List Mins) : Option (Bool) :=
  if decide (((a_.length : Int)) ≠ ((b_.length : Int))) then some false else Option.bind (forN (S := Unit) (X := Bool) (fun i1_1 xs1_1 => Option.bind (getI a_ i1_1) fun x1_1 => Option.bind (getI b_ i1_1) fun x1_2 => Option.bind (laws_eqMins x1_1 x1_2) fun r1_1 => if !(r1_1) then some (.inr false) else some (.inl ())) (((a_.length : Int) : Int) - 0).toNat 0 ()) (Sum.elim (fun xs0_1 => some true) (fun e0 => some e0))

noncomputable def laws_eqMfn (a_ : Mfn) (b_ : Mfn) : Option (Bool) :=
  if decide (a_.params ≠ b_.params) then some false else if decide (a_.slots ≠ b_.slots) then some false else Option.bind (laws_eqMinsS a_.ins b_.ins) fun r0_1 => if !(r0_1) then some false else some true

noncomputable def laws_markMinsS (a_ : List Mins) (k_ : Int) : Option (Int × (List Mins)) :=
  Option.bind (forN (S := (List Mins) × Int) (X := Empty) (fun i1_1 xs1_1 => Option.bind (getI xs1_1.1 i1_1) fun x1_1 => some (.inl ((xs1_1.1.set (i1_1).toNat (⟨xs1_1.2, w64 (xs1_1.2 + 1), w64 ((w64 (xs1_1.2 + 1)) + 1), w64 ((w64 ((w64 (xs1_1.2 + 1)) + 1)) + 1), w64 ((w64 ((w64 ((w64 (xs1_1.2 + 1)) + 1)) + 1)) + 1)⟩ : Mins)), w64 ((w64 ((w64 ((w64 ((w64 (xs1_1.2 + 1)) + 1)) + 1)) + 1)) + 1)))) (((a_.length : Int) : Int) - 0).toNat 0 (a_, k_)) (Sum.elim (fun xs0_1 => some (xs0_1.2, xs0_1.1)) (fun (e0 : Empty) => nomatch e0))

noncomputable def laws_markMfn (a_ : Mfn) (k_ : Int) : Option (Int × (List Mins)) :=
  Option.bind (laws_markMinsS a_.ins k_) fun r0_1 => some (r0_1.1, r0_1.2)

noncomputable def laws_markIntS (a_ : List Int) (k_ : Int) : Option (Int × (List Int)) :=
  Option.bind (forN (S := (List Int) × Int) (X := Empty) (fun i1_1 xs1_1 => Option.bind (getI xs1_1.1 i1_1) fun x1_1 => some (.inl ((xs1_1.1.set (i1_1).toNat xs1_1.2), w64 (xs1_1.2 + 1)))) (((a_.length : Int) : Int) - 0).toNat 0 (a_, k_)) (Sum.elim (fun xs0_1 => some (xs0_1.2, xs0_1.1)) (fun (e0 : Empty) => nomatch e0))

noncomputable def laws_heldIntS (a_ : List Int) (k_ : Int) : Option (Int) :=
  Option.bind (forN (S := Int) (X := Int) (fun i1_1 xs1_1 => Option.bind (getI a_ i1_1) fun x1_1 => if decide (x1_1 ≠ xs1_1) then some (.inr (-1)) else some (.inl (w64 (xs1_1 + 1)))) (((a_.length : Int) : Int) - 0).toNat 0 k_) (Sum.elim (fun xs0_1 => some xs0_1) (fun e0 => some e0))

noncomputable def laws_FnExactReachedMins (aF : Mfn) : Option (Bool) :=
  Option.bind (laws_szMfn aF 1048576) fun r0_1 => if decide (r0_1 < 0) then some true else Option.bind (laws_toMfn aF) fun r0_2 => Option.bind (spec_ReachedMins r0_2) fun r0_3 => Option.bind (laws_toMfn aF) fun r0_4 => Option.bind (impl_ReachedMins r0_4) fun r0_5 => Option.bind (laws_eqIntS r0_5 r0_3) fun r0_6 => if !(r0_6) then some false else Option.bind (laws_toMfn aF) fun r0_7 => Option.bind (laws_eqMfn r0_4 r0_7) fun r0_8 => if !(r0_8) then some false else Option.bind (laws_markMfn r0_4 1) fun r0_9 => Option.bind (if decide (r0_9.1 < 0) then some true else Option.bind (laws_eqIntS r0_5 r0_3) fun r1_1 => some (!(r1_1)) : Option (Bool)) fun s0_1 => if s0_1 then some false else Option.bind (laws_markIntS r0_5 1) fun r0_10 => Option.bind (laws_heldIntS r0_10.2 1) fun r0_11 => if decide (r0_11 < 0) then some false else if decide (r0_11 ≠ r0_10.1) then some false else Option.bind (laws_toMfn aF) fun r0_12 => Option.bind (impl_ReachedMins r0_12) fun r0_13 => Option.bind (laws_eqIntS r0_13 r0_3) fun r0_14 => if !(r0_14) then some false else Option.bind (laws_heldIntS r0_10.2 1) fun r0_15 => if decide (r0_15 < 0) then some false else if decide (r0_15 ≠ r0_10.1) then some false else some true

end Go.Wk
