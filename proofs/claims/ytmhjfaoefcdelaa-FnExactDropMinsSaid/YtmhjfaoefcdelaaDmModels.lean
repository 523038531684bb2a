/- A part of the proof of FnExactDropMinsSaid. -/
import Derived.Test.YtmhjfaoefcdelaaDmTypes
namespace Go.Wk
open Go

noncomputable def laws_szMinsS (a_ : List Mins) (left : Int) : Option (Int) :=
  if decide ((w64 (left - ((a_.length : Int)))) < 0) then some (-1) else some (w64 (left - ((a_.length : Int))))

noncomputable def laws_szMfn (a_ : Mfn) (left : Int) : Option (Int) :=
  Option.bind (laws_szMinsS a_.ins left) fun r0_1 => if decide (r0_1 < 0) then some (-1) else some r0_1

noncomputable def laws_toMins (a_ : Mins) : Option (Mins) :=
  some a_

noncomputable def laws_toMinsS (a_ : List Mins) : Option ((List Mins)) :=
  Option.bind (makeM ((⟨0, 0, 0, 0, 0⟩ : Mins) : Mins) (a_.length : Int)) fun ys0_1 => Option.bind (forN (S := (List Mins)) (X := Empty) (fun i1_1 xs1_1 => Option.bind (getI a_ i1_1) fun x1_1 => Option.bind (laws_toMins x1_1) fun r1_1 => Option.bind (getI xs1_1 i1_1) fun x1_2 => some (.inl (xs1_1.set (i1_1).toNat r1_1))) ((a_.length : Int) - 0).toNat 0 ys0_1) (Sum.elim (fun xs0_1 => some xs0_1) (fun (e0 : Empty) => nomatch e0))

noncomputable def laws_toMfn (a_ : Mfn) : Option (Mfn) :=
  Option.bind (laws_toMinsS a_.ins) fun r0_1 => some (⟨a_.params, a_.slots, r0_1⟩ : Mfn)

noncomputable def laws_toIntS (a_ : List Int) : Option ((List Int)) :=
  Option.bind (makeM (0 : Int) (a_.length : Int)) fun ys0_1 => Option.bind (forN (S := (List Int)) (X := Empty) (fun i1_1 xs1_1 => Option.bind (getI a_ i1_1) fun x1_1 => Option.bind (getI xs1_1 i1_1) fun x1_2 => some (.inl (xs1_1.set (i1_1).toNat x1_1))) ((a_.length : Int) - 0).toNat 0 ys0_1) (Sum.elim (fun xs0_1 => some xs0_1) (fun (e0 : Empty) => nomatch e0))

noncomputable def spec_l24Jumps (x_ : Mins) : Option (Bool) :=
  Option.bind (if decide (x_.op = 20) then some true else some (decide (x_.op = 21)) : Option (Bool)) fun s0_1 => some s0_1

noncomputable def spec_l1In (n_ : Int) (low : Int) (high : Int) : Option (Bool) :=
  Option.bind (if decide (low ≤ n_) then some (decide (n_ ≤ high)) else some false : Option (Bool)) fun s0_1 => some s0_1

noncomputable def spec_l24Fits (f : Mfn) : Option (Bool) :=
  Option.bind (forN (S := Unit) (X := Bool) (fun i1_1 xs1_1 => Option.bind (Option.bind (getI f.ins i1_1) fun x2_1 => Option.bind (spec_l24Jumps x2_1) fun r2_1 => if r2_1 then Option.bind (spec_l1In x2_1.n_ 0 (((f.ins.length : Int)) - 1)) fun r2_2 => some (!(r2_2)) else some false : Option (Bool)) fun s1_1 => if s1_1 then some (.inr false) else some (.inl ())) ((f.ins.length : Int) - 0).toNat 0 ()) (Sum.elim (fun xs0_1 => if decide (((f.ins.length : Int)) = 0) then some false else Option.bind (getI f.ins (((f.ins.length : Int)) - 1)) fun x0_1 => Option.bind (if decide (x0_1.op = 20) then some true else some (decide (x0_1.op = 22)) : Option (Bool)) fun s0_1 => some s0_1) (fun e0 => some e0))

noncomputable def spec_l24Copy (f : Mfn) : Option (Mfn) :=
  Option.bind (appM ([] : List Mins) f.ins) fun ys0_1 => some (⟨f.params, f.slots, ys0_1⟩ : Mfn)

noncomputable def spec_l24Drop (f : Mfn) (gone : List Bool) : Option (Mfn) :=
  Option.bind (makeM (0 : Int) (f.ins.length : Int)) fun ys0_1 => Option.bind (forN (S := (List Int) × (List Mins)) (X := Empty) (fun i1_1 xs1_1 => Option.bind (Option.bind (getI xs1_1.1 i1_1) fun x2_1 => Option.bind (getI gone i1_1) fun x2_2 => Option.bind (if !(x2_2) then Option.bind (getI f.ins i1_1) fun x3_1 => Option.bind (appM xs1_1.2 ([x3_1] : List Mins)) fun ys3_1 => some ys3_1 else some xs1_1.2 : Option ((List Mins))) fun s2_1 => some s2_1 : Option ((List Mins))) fun s1_1 => some (.inl ((xs1_1.1.set (i1_1).toNat (xs1_1.2.length : Int)), s1_1))) ((f.ins.length : Int) - 0).toNat 0 (ys0_1, ([] : List Mins))) (Sum.elim (fun xs0_1 => Option.bind (forN (S := (List Mins)) (X := Empty) (fun i1_2 xs1_2 => Option.bind (Option.bind (getI xs1_2 i1_2) fun x2_3 => Option.bind (spec_l24Jumps x2_3) fun r2_1 => Option.bind (if r2_1 then Option.bind (getI xs0_1.1 x2_3.n_) fun x3_2 => some (xs1_2.set (i1_2).toNat (⟨x2_3.op, x2_3.a_, x2_3.b, x2_3.c, x3_2⟩ : Mins)) else some xs1_2 : Option ((List Mins))) fun s2_2 => some s2_2 : Option ((List Mins))) fun s1_2 => some (.inl s1_2)) ((xs0_1.2.length : Int) - 0).toNat 0 xs0_1.2) (Sum.elim (fun xs0_2 => some (⟨f.params, f.slots, xs0_2⟩ : Mfn)) (fun (e0 : Empty) => nomatch e0))) (fun (e0 : Empty) => nomatch e0))

noncomputable def spec_DropMins (f : Mfn) (list : List Int) : Option (Mfn) :=
  Option.bind (spec_l24Fits f) fun r0_1 => if !(r0_1) then Option.bind (spec_l24Copy f) fun r0_2 => some r0_2 else Option.bind (makeM (false : Bool) (f.ins.length : Int)) fun ys0_1 => Option.bind (forN (S := (List Bool)) (X := Empty) (fun i1_1 xs1_1 => Option.bind (Option.bind (getI list i1_1) fun x2_1 => Option.bind (spec_l1In x2_1 0 (((f.ins.length : Int)) - 2)) fun r2_1 => Option.bind (if r2_1 then Option.bind (getI xs1_1 x2_1) fun x3_1 => some (xs1_1.set (x2_1).toNat true) else some xs1_1 : Option ((List Bool))) fun s2_1 => some s2_1 : Option ((List Bool))) fun s1_1 => some (.inl s1_1)) ((list.length : Int) - 0).toNat 0 ys0_1) (Sum.elim (fun xs0_1 => Option.bind (spec_l24Drop f xs0_1) fun r0_4 => some r0_4) (fun (e0 : Empty) => nomatch e0))

noncomputable def impl_jumpOp (op : Int) : Option (Bool) :=
  Option.bind (if decide (op = 20) then some true else some (decide (op = 21)) : Option (Bool)) fun s0_1 => some s0_1

noncomputable def impl_within (n_ : Int) (low : Int) (high : Int) : Option (Bool) :=
  Option.bind (if decide (low ≤ n_) then some (decide (n_ ≤ high)) else some false : Option (Bool)) fun s0_1 => some s0_1

noncomputable def impl_peepable_1 (x_ : Mins) (c0_ : Int) : Option (Bool) :=
  Option.bind (Option.bind (impl_jumpOp x_.op) fun r1_1 => if r1_1 then Option.bind (impl_within x_.n_ 0 (w64 (c0_ - 1))) fun r1_2 => some (!(r1_2)) else some false : Option (Bool)) fun s0_1 => some s0_1

noncomputable def slices_IndexFunc_S_impl_Mins_impl_Mins (s_ : List Mins) (f : Mins → Option Bool) : Option (Int) :=
  Option.bind (forN (S := Unit) (X := Int) (fun i1_1 xs1_1 => Option.bind (getI s_ i1_1) fun x1_1 => Option.bind (f x1_1) fun r1_1 => if r1_1 then some (.inr i1_1) else some (.inl ())) ((s_.length : Int) - 0).toNat 0 ()) (Sum.elim (fun xs0_1 => some (-1)) (fun e0 => some e0))

noncomputable def slices_ContainsFunc_S_impl_Mins_impl_Mins (s_ : List Mins) (f : Mins → Option Bool) : Option (Bool) :=
  Option.bind (slices_IndexFunc_S_impl_Mins_impl_Mins s_ f) fun r0_1 => some (decide (0 ≤ r0_1))

noncomputable def impl_peepable (f : Mfn) : Option (Bool) :=
  Option.bind (if decide (0 < ((f.ins.length : Int))) then Option.bind (getI f.ins (((f.ins.length : Int)) - 1)) fun x1_1 => if decide (x1_1.op = 20) then Option.bind (slices_ContainsFunc_S_impl_Mins_impl_Mins f.ins (fun y0 => impl_peepable_1 y0 (f.ins.length : Int))) fun r1_1 => some (!(r1_1)) else if decide (x1_1.op = 22) then Option.bind (slices_ContainsFunc_S_impl_Mins_impl_Mins f.ins (fun y0 => impl_peepable_1 y0 (f.ins.length : Int))) fun r1_2 => some (!(r1_2)) else some false else some false : Option (Bool)) fun s0_1 => some s0_1

noncomputable def slices_Clone_S_impl_Mins_impl_Mins (s_ : List Mins) : Option ((List Mins)) :=
  Option.bind (appM ([] : List Mins) s_) fun ys0_1 => some ys0_1

noncomputable def impl_cloneMfn (f : Mfn) : Option (Mfn) :=
  Option.bind (slices_Clone_S_impl_Mins_impl_Mins f.ins) fun r0_1 => some (⟨f.params, f.slots, r0_1⟩ : Mfn)

noncomputable def slices_Index_S_int_int (s_ : List Int) (v_ : Int) : Option (Int) :=
  Option.bind (forN (S := Unit) (X := Int) (fun i1_1 xs1_1 => Option.bind (getI s_ i1_1) fun x1_1 => if decide (v_ = x1_1) then some (.inr i1_1) else some (.inl ())) ((s_.length : Int) - 0).toNat 0 ()) (Sum.elim (fun xs0_1 => some (-1)) (fun e0 => some e0))

noncomputable def slices_Contains_S_int_int (s_ : List Int) (v_ : Int) : Option (Bool) :=
  Option.bind (slices_Index_S_int_int s_ v_) fun r0_1 => some (decide (0 ≤ r0_1))

noncomputable def impl_DropMins (f : Mfn) (list : List Int) : Option (Mfn) :=
  Option.bind (impl_peepable f) fun r0_1 => if !(r0_1) then Option.bind (impl_cloneMfn f) fun r0_2 => some r0_2 else Option.bind (makeM (0 : Int) (f.ins.length : Int)) fun ys0_1 => Option.bind (forN (S := (List Mins) × (List Int)) (X := Empty) (fun i1_1 xs1_1 => Option.bind (Option.bind (getI f.ins i1_1) fun x2_1 => Option.bind (getI xs1_1.2 i1_1) fun x2_2 => Option.bind (if decide (i1_1 = (((f.ins.length : Int)) - 1)) then some true else Option.bind (slices_Contains_S_int_int list i1_1) fun r3_1 => some (!(r3_1)) : Option (Bool)) fun s2_1 => Option.bind (if s2_1 then Option.bind (appM xs1_1.1 ([x2_1] : List Mins)) fun ys3_1 => some ys3_1 else some xs1_1.1 : Option ((List Mins))) fun s2_2 => some s2_2 : Option ((List Mins))) fun s1_1 => some (.inl (s1_1, (xs1_1.2.set (i1_1).toNat (xs1_1.1.length : Int))))) ((f.ins.length : Int) - 0).toNat 0 ([], ys0_1)) (Sum.elim (fun xs0_1 => Option.bind (forN (S := (List Mins)) (X := Empty) (fun i1_2 xs1_2 => Option.bind (Option.bind (getI xs1_2 i1_2) fun x2_3 => Option.bind (impl_jumpOp x2_3.op) fun r2_1 => Option.bind (if r2_1 then Option.bind (getI xs0_1.2 x2_3.n_) fun x3_1 => some (xs1_2.set (i1_2).toNat (⟨x2_3.op, x2_3.a_, x2_3.b, x2_3.c, x3_1⟩ : Mins)) else some xs1_2 : Option ((List Mins))) fun s2_3 => some s2_3 : Option ((List Mins))) fun s1_2 => some (.inl s1_2)) ((xs0_1.1.length : Int) - 0).toNat 0 xs0_1.1) (Sum.elim (fun xs0_2 => some (⟨f.params, f.slots, xs0_2⟩ : Mfn)) (fun (e0 : Empty) => nomatch e0))) (fun (e0 : Empty) => nomatch e0))

noncomputable def laws_eqMins (a_ : Mins) (b_ : Mins) : Option (Bool) :=
  if decide (a_.op ≠ b_.op) then some false else if decide (a_.a_ ≠ b_.a_) then some false else if decide (a_.b ≠ b_.b) then some false else if decide (a_.c ≠ b_.c) then some false else if decide (a_.n_ ≠ b_.n_) then some false else some true

noncomputable def laws_eqMinsS (a_ : List Mins) (b_ : List Mins) : Option (Bool) :=
  if decide (((a_.length : Int)) ≠ ((b_.length : Int))) then some false else Option.bind (forN (S := Unit) (X := Bool) (fun i1_1 xs1_1 => Option.bind (getI a_ i1_1) fun x1_1 => Option.bind (getI b_ i1_1) fun x1_2 => Option.bind (laws_eqMins x1_1 x1_2) fun r1_1 => if !(r1_1) then some (.inr false) else some (.inl ())) ((a_.length : Int) - 0).toNat 0 ()) (Sum.elim (fun xs0_1 => some true) (fun e0 => some e0))

noncomputable def laws_eqMfn (a_ : Mfn) (b_ : Mfn) : Option (Bool) :=
  if decide (a_.params ≠ b_.params) then some false else if decide (a_.slots ≠ b_.slots) then some false else Option.bind (laws_eqMinsS a_.ins b_.ins) fun r0_1 => if !(r0_1) then some false else some true

noncomputable def laws_eqIntS (a_ : List Int) (b_ : List Int) : Option (Bool) :=
  if decide (((a_.length : Int)) ≠ ((b_.length : Int))) then some false else Option.bind (forN (S := Unit) (X := Bool) (fun i1_1 xs1_1 => Option.bind (getI a_ i1_1) fun x1_1 => Option.bind (getI b_ i1_1) fun x1_2 => if decide (x1_1 ≠ x1_2) then some (.inr false) else some (.inl ())) ((a_.length : Int) - 0).toNat 0 ()) (Sum.elim (fun xs0_1 => some true) (fun e0 => some e0))

noncomputable def laws_markMinsS (a_ : List Mins) (k_ : Int) : Option (Int × (List Mins)) :=
  Option.bind (forN (S := (List Mins) × Int) (X := Empty) (fun i1_1 xs1_1 => Option.bind (getI xs1_1.1 i1_1) fun x1_1 => some (.inl ((xs1_1.1.set (i1_1).toNat (⟨xs1_1.2, w64 (xs1_1.2 + 1), w64 ((w64 (xs1_1.2 + 1)) + 1), w64 ((w64 ((w64 (xs1_1.2 + 1)) + 1)) + 1), w64 ((w64 ((w64 ((w64 (xs1_1.2 + 1)) + 1)) + 1)) + 1)⟩ : Mins)), w64 ((w64 ((w64 ((w64 ((w64 (xs1_1.2 + 1)) + 1)) + 1)) + 1)) + 1)))) ((a_.length : Int) - 0).toNat 0 (a_, k_)) (Sum.elim (fun xs0_1 => some (xs0_1.2, xs0_1.1)) (fun (e0 : Empty) => nomatch e0))

noncomputable def laws_markMfn (a_ : Mfn) (k_ : Int) : Option (Int × (List Mins)) :=
  Option.bind (laws_markMinsS a_.ins k_) fun r0_1 => some (r0_1.1, r0_1.2)

noncomputable def laws_markIntS (a_ : List Int) (k_ : Int) : Option (Int × (List Int)) :=
  Option.bind (forN (S := (List Int) × Int) (X := Empty) (fun i1_1 xs1_1 => Option.bind (getI xs1_1.1 i1_1) fun x1_1 => some (.inl ((xs1_1.1.set (i1_1).toNat xs1_1.2), w64 (xs1_1.2 + 1)))) ((a_.length : Int) - 0).toNat 0 (a_, k_)) (Sum.elim (fun xs0_1 => some (xs0_1.2, xs0_1.1)) (fun (e0 : Empty) => nomatch e0))

noncomputable def laws_heldMinsS (a_ : List Mins) (k_ : Int) : Option (Int) :=
  Option.bind (forN (S := Int) (X := Int) (fun i1_1 xs1_1 => Option.bind (getI a_ i1_1) fun x1_1 => if decide (x1_1.op ≠ xs1_1) then some (.inr (-1)) else if decide (x1_1.a_ ≠ (w64 (xs1_1 + 1))) then some (.inr (-1)) else if decide (x1_1.b ≠ (w64 ((w64 (xs1_1 + 1)) + 1))) then some (.inr (-1)) else if decide (x1_1.c ≠ (w64 ((w64 ((w64 (xs1_1 + 1)) + 1)) + 1))) then some (.inr (-1)) else if decide (x1_1.n_ ≠ (w64 ((w64 ((w64 ((w64 (xs1_1 + 1)) + 1)) + 1)) + 1))) then some (.inr (-1)) else some (.inl (w64 ((w64 ((w64 ((w64 ((w64 (xs1_1 + 1)) + 1)) + 1)) + 1)) + 1)))) ((a_.length : Int) - 0).toNat 0 k_) (Sum.elim (fun xs0_1 => some xs0_1) (fun e0 => some e0))

noncomputable def laws_heldMfn (a_ : Mfn) (k_ : Int) : Option (Int) :=
  Option.bind (laws_heldMinsS a_.ins k_) fun r0_1 => if decide (r0_1 < 0) then some (-1) else some r0_1

noncomputable def laws_FnExactDropMins (aF : Mfn) (aList : List Int) : Option (Bool) :=
  if decide (1048576 < ((aList.length : Int))) then some true else Option.bind (laws_szMfn aF 1048576) fun r0_1 => if decide (r0_1 < 0) then some true else Option.bind (laws_toMfn aF) fun r0_2 => Option.bind (laws_toIntS aList) fun r0_3 => Option.bind (spec_DropMins r0_2 r0_3) fun r0_4 => Option.bind (laws_toMfn aF) fun r0_5 => Option.bind (laws_toIntS aList) fun r0_6 => Option.bind (impl_DropMins r0_5 r0_6) fun r0_7 => Option.bind (laws_eqMfn r0_7 r0_4) fun r0_8 => if !(r0_8) then some false else Option.bind (laws_toMfn aF) fun r0_9 => Option.bind (laws_eqMfn r0_5 r0_9) fun r0_10 => if !(r0_10) then some false else Option.bind (laws_toIntS aList) fun r0_11 => Option.bind (laws_eqIntS r0_6 r0_11) fun r0_12 => if !(r0_12) then some false else Option.bind (laws_markMfn r0_5 1) fun r0_13 => Option.bind (laws_markIntS r0_6 r0_13.1) fun r0_14 => Option.bind (if decide (r0_14.1 < 0) then some true else Option.bind (laws_eqMfn r0_7 r0_4) fun r1_1 => some (!(r1_1)) : Option (Bool)) fun s0_1 => if s0_1 then some false else Option.bind (laws_markMfn r0_7 1) fun r0_15 => Option.bind (laws_heldMfn (⟨r0_7.params, r0_7.slots, r0_15.2⟩ : Mfn) 1) fun r0_16 => if decide (r0_16 < 0) then some false else if decide (r0_16 ≠ r0_15.1) then some false else Option.bind (laws_toMfn aF) fun r0_17 => Option.bind (laws_toIntS aList) fun r0_18 => Option.bind (impl_DropMins r0_17 r0_18) fun r0_19 => Option.bind (laws_eqMfn r0_19 r0_4) fun r0_20 => if !(r0_20) then some false else Option.bind (laws_heldMfn (⟨r0_7.params, r0_7.slots, r0_15.2⟩ : Mfn) 1) fun r0_21 => if decide (r0_21 < 0) then some false else if decide (r0_21 ≠ r0_15.1) then some false else some true

end Go.Wk
