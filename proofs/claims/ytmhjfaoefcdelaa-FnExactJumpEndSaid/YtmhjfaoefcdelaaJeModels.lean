/- A part of the proof of FnExactJumpEndSaid. -/
import Derived.Test.YtmhjfaoefcdelaaJeTypes
namespace Go.Wk
open Go

noncomputable def laws_szMinsS (a_ : List Mins) (left : Int) : Option (Int) :=
  if decide ((w64 (left - ((a_.length : Int)))) < 0) then some (-1) else some (w64 (left - ((a_.length : Int))))

noncomputable def laws_szMfn (a_ : Mfn) (left : Int) : Option (Int) :=
  Option.bind (laws_szMinsS a_.ins left) fun r0_1 => if decide (r0_1 < 0) then some (-1) else some r0_1

noncomputable def laws_toMins (a_ : Mins) : Option (Mins) :=
  some a_

noncomputable def laws_toMinsS (a_ : List Mins) : Option ((List Mins)) :=
  Option.bind (makeM ((⟨0, 0, 0, 0, 0⟩ : Mins) : Mins) (a_.length : Int)) fun ys0_1 => Option.bind (forN (S := (List Mins)) (X := Empty) (fun i1_1 xs1_1 => Option.bind (getI a_ i1_1) fun x1_1 => Option.bind (laws_toMins x1_1) fun r1_1 => Option.bind (getI xs1_1 i1_1) fun x1_2 => some (.inl (xs1_1.set (i1_1).toNat r1_1))) ((a_.length : Int) - 0).toNat 0 ys0_1) (Sum.elim (fun xs1_1 => some xs1_1) (fun (e0 : Empty) => nomatch e0))

noncomputable def laws_toMfn (a_ : Mfn) : Option (Mfn) :=
  Option.bind (laws_toMinsS a_.ins) fun r0_1 => some (⟨a_.params, a_.slots, r0_1⟩ : Mfn)

noncomputable def spec_l24Jumps (x_ : Mins) : Option (Bool) :=
  Option.bind (if decide (x_.op = 20) then some true else some (decide (x_.op = 21)) : Option (Bool)) fun s0_1 => some s0_1

noncomputable def spec_l1In (n_ : Int) (low : Int) (high : Int) : Option (Bool) :=
  Option.bind (if decide (low ≤ n_) then some (decide (n_ ≤ high)) else some false : Option (Bool)) fun s0_1 => some s0_1

noncomputable def spec_l24Fits (f : Mfn) : Option (Bool) :=
  Option.bind (forN (S := Unit) (X := Bool) (fun i1_1 xs1_1 => Option.bind (Option.bind (getI f.ins i1_1) fun x2_1 => Option.bind (spec_l24Jumps x2_1) fun r2_1 => if r2_1 then Option.bind (getI f.ins i1_1) fun x2_2 => Option.bind (spec_l1In x2_2.n_ 0 (((f.ins.length : Int)) - 1)) fun r2_2 => some (!(r2_2)) else some false : Option (Bool)) fun s1_1 => if s1_1 then some (.inr false) else some (.inl ())) ((f.ins.length : Int) - 0).toNat 0 ()) (Sum.elim (fun xs1_1 => if decide (((f.ins.length : Int)) = 0) then some false else Option.bind (getI f.ins (((f.ins.length : Int)) - 1)) fun x0_1 => Option.bind (if decide (x0_1.op = 20) then some true else some (decide (x0_1.op = 22)) : Option (Bool)) fun s0_1 => some s0_1) (fun e0 => some e0))

noncomputable def spec_l24End (f : Mfn) (at_ : Int) : Option (Int) :=
  Option.bind (forN (S := Int) (X := Int) (fun i1_1 xs1_1 => Option.bind (getI f.ins xs1_1) fun x1_1 => if decide (x1_1.op ≠ 20) then some (.inr xs1_1) else Option.bind (getI f.ins xs1_1) fun x1_2 => some (.inl x1_2.n_)) ((((f.ins.length : Int)) + 1) - 0).toNat 0 at_) (Sum.elim (fun xs1_1 => some (-1)) (fun e0 => some e0))

noncomputable def spec_JumpEnd (f : Mfn) (at_ : Int) : Option (Int) :=
  Option.bind (Option.bind (spec_l24Fits f) fun r1_1 => if !(r1_1) then some true else Option.bind (spec_l1In at_ 0 (((f.ins.length : Int)) - 1)) fun r1_2 => some (!(r1_2)) : Option (Bool)) fun s0_1 => if s0_1 then some (-1) else Option.bind (spec_l24End f at_) fun r0_1 => some r0_1

noncomputable def impl_jumpOp (op : Int) : Option (Bool) :=
  Option.bind (if decide (op = 20) then some true else some (decide (op = 21)) : Option (Bool)) fun s0_1 => some s0_1

noncomputable def impl_within (n_ : Int) (low : Int) (high : Int) : Option (Bool) :=
  Option.bind (if decide (low ≤ n_) then some (decide (n_ ≤ high)) else some false : Option (Bool)) fun s0_1 => some s0_1

noncomputable def impl_peepable_1 (x_ : Mins) (c0_ : Int) : Option (Bool) :=
  Option.bind (Option.bind (impl_jumpOp x_.op) fun r1_1 => if r1_1 then Option.bind (impl_within x_.n_ 0 (w64 (c0_ - 1))) fun r1_2 => some (!(r1_2)) else some false : Option (Bool)) fun s0_1 => some s0_1

noncomputable def slices_IndexFunc_S_impl_Mins_impl_Mins (s_ : List Mins) (f : Mins → Option Bool) : Option (Int) :=
  Option.bind (forN (S := Unit) (X := Int) (fun i1_1 xs1_1 => Option.bind (getI s_ i1_1) fun x1_1 => Option.bind (f x1_1) fun r1_1 => if r1_1 then some (.inr i1_1) else some (.inl ())) ((s_.length : Int) - 0).toNat 0 ()) (Sum.elim (fun xs1_1 => some (-1)) (fun e0 => some e0))

noncomputable def slices_ContainsFunc_S_impl_Mins_impl_Mins (s_ : List Mins) (f : Mins → Option Bool) : Option (Bool) :=
  Option.bind (slices_IndexFunc_S_impl_Mins_impl_Mins s_ f) fun r0_1 => some (decide (0 ≤ r0_1))

noncomputable def impl_peepable (f : Mfn) : Option (Bool) :=
  Option.bind (if decide (0 < ((f.ins.length : Int))) then Option.bind (getI f.ins (((f.ins.length : Int)) - 1)) fun x1_1 => if decide (x1_1.op = 20) then Option.bind (slices_ContainsFunc_S_impl_Mins_impl_Mins f.ins (fun y0 => impl_peepable_1 y0 (f.ins.length : Int))) fun r1_1 => some (!(r1_1)) else Option.bind (getI f.ins (((f.ins.length : Int)) - 1)) fun x1_2 => if decide (x1_2.op = 22) then Option.bind (slices_ContainsFunc_S_impl_Mins_impl_Mins f.ins (fun y0 => impl_peepable_1 y0 (f.ins.length : Int))) fun r1_2 => some (!(r1_2)) else some false else some false : Option (Bool)) fun s0_1 => some s0_1

noncomputable def impl_jumpEnd (f : Mfn) (at_ : Int) : Option (Int) :=
  Option.bind (forN (S := Int) (X := Int) (fun i1_1 xs1_1 => Option.bind (getI f.ins xs1_1) fun x1_1 => if decide (x1_1.op ≠ 20) then some (.inr xs1_1) else Option.bind (getI f.ins xs1_1) fun x1_2 => some (.inl x1_2.n_)) ((((f.ins.length : Int)) + 1) - 0).toNat 0 at_) (Sum.elim (fun xs1_1 => some (-1)) (fun e0 => some e0))

noncomputable def impl_JumpEnd (f : Mfn) (at_ : Int) : Option (Int) :=
  Option.bind (Option.bind (impl_peepable f) fun r1_1 => if !(r1_1) then some true else Option.bind (impl_within at_ 0 (((f.ins.length : Int)) - 1)) fun r1_2 => some (!(r1_2)) : Option (Bool)) fun s0_1 => if s0_1 then some (-1) else Option.bind (impl_jumpEnd f at_) fun r0_1 => some r0_1

noncomputable def laws_eqMins (a_ : Mins) (b_ : Mins) : Option (Bool) :=
  if decide (a_.op ≠ b_.op) then some false else if decide (a_.a_ ≠ b_.a_) then some false else if decide (a_.b ≠ b_.b) then some false else if decide (a_.c ≠ b_.c) then some false else if decide (a_.n_ ≠ b_.n_) then some false else some true

noncomputable def laws_eqMinsS (a_ : List Mins) (b_ : List Mins) : Option (Bool) :=
  if decide (((a_.length : Int)) ≠ ((b_.length : Int))) then some false else Option.bind (forN (S := Unit) (X := Bool) (fun i1_1 xs1_1 => Option.bind (getI a_ i1_1) fun x1_1 => Option.bind (getI b_ i1_1) fun x1_2 => Option.bind (laws_eqMins x1_1 x1_2) fun r1_1 => if !(r1_1) then some (.inr false) else some (.inl ())) ((a_.length : Int) - 0).toNat 0 ()) (Sum.elim (fun xs1_1 => some true) (fun e0 => some e0))

noncomputable def laws_eqMfn (a_ : Mfn) (b_ : Mfn) : Option (Bool) :=
  if decide (a_.params ≠ b_.params) then some false else if decide (a_.slots ≠ b_.slots) then some false else Option.bind (laws_eqMinsS a_.ins b_.ins) fun r0_1 => if !(r0_1) then some false else some true

noncomputable def laws_FnExactJumpEnd (aF : Mfn) (aAt : Int) : Option (Bool) :=
  Option.bind (laws_szMfn aF 1048576) fun r0_1 => if decide (r0_1 < 0) then some true else Option.bind (laws_toMfn aF) fun r0_2 => Option.bind (spec_JumpEnd r0_2 aAt) fun r0_3 => Option.bind (laws_toMfn aF) fun r0_4 => Option.bind (impl_JumpEnd r0_4 aAt) fun r0_5 => if decide (r0_5 ≠ r0_3) then some false else Option.bind (laws_toMfn aF) fun r0_6 => Option.bind (laws_eqMfn r0_4 r0_6) fun r0_7 => if !(r0_7) then some false else some true

end Go.Wk
