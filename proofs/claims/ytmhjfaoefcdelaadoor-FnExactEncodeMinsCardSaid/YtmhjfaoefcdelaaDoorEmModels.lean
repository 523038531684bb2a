/- A part of the proof of FnExactEncodeMinsCardSaid. -/
import Derived.Test.YtmhjfaoefcdelaaDoorEmTypes
namespace Go.Wk
open Go

def glob_impl_forms : List form :=
  [⟨mkS [], 0⟩, ⟨mkS [115, 101, 116], 9⟩, ⟨mkS [109, 111, 118, 101], 3⟩, ⟨mkS [97, 100, 100], 7⟩, ⟨mkS [115, 117, 98], 7⟩, ⟨mkS [109, 117, 108], 7⟩, ⟨mkS [100, 105, 118], 7⟩, ⟨mkS [114, 101, 109], 7⟩, ⟨mkS [108, 101, 115, 115], 7⟩, ⟨mkS [115, 97, 109, 101], 7⟩, ⟨mkS [110, 111, 116], 3⟩, ⟨mkS [108, 111, 97, 100], 3⟩, ⟨mkS [115, 116, 111, 114, 101], 3⟩, ⟨mkS [115, 97, 121], 1⟩, ⟨mkS [99, 97, 108, 108], 8⟩, ⟨mkS [107, 101, 101, 112], 9⟩, ⟨mkS [116, 97, 107, 101], 9⟩, ⟨mkS [103, 105, 118, 101], 9⟩, ⟨mkS [102, 101, 116, 99, 104], 9⟩, ⟨mkS [114, 101, 115, 117, 108, 116], 1⟩, ⟨mkS [106, 117, 109, 112], 8⟩, ⟨mkS [98, 114, 97, 110, 99, 104], 9⟩, ⟨mkS [98, 97, 99, 107], 1⟩]

noncomputable def laws_toMins (a_ : Mins) : Option (Mins) :=
  some a_

noncomputable def spec_l1In (n_ : Int) (low : Int) (high : Int) : Option (Bool) :=
  Option.bind (if decide (low ≤ n_) then some (decide (n_ ≤ high)) else some false : Option (Bool)) fun s0_1 => some s0_1

noncomputable def spec_l22Word (op : Int) : Option (Str × Str) :=
  Option.bind (spec_l1In op 1 22) fun r0_1 => if !(r0_1) then some ((mkS []), (mkS [])) else Option.bind (getI ([(mkS []), (mkS [115, 101, 116]), (mkS [109, 111, 118, 101]), (mkS [97, 100, 100]), (mkS [115, 117, 98]), (mkS [109, 117, 108]), (mkS [100, 105, 118]), (mkS [114, 101, 109]), (mkS [108, 101, 115, 115]), (mkS [115, 97, 109, 101]), (mkS [110, 111, 116]), (mkS [108, 111, 97, 100]), (mkS [115, 116, 111, 114, 101]), (mkS [115, 97, 121]), (mkS [99, 97, 108, 108]), (mkS [107, 101, 101, 112]), (mkS [116, 97, 107, 101]), (mkS [103, 105, 118, 101]), (mkS [102, 101, 116, 99, 104]), (mkS [114, 101, 115, 117, 108, 116]), (mkS [106, 117, 109, 112]), (mkS [98, 114, 97, 110, 99, 104]), (mkS [98, 97, 99, 107])] : List Str) op) fun x0_1 => Option.bind (getI ([(mkS []), (mkS [65, 78]), (mkS [65, 66]), (mkS [65, 66, 67]), (mkS [65, 66, 67]), (mkS [65, 66, 67]), (mkS [65, 66, 67]), (mkS [65, 66, 67]), (mkS [65, 66, 67]), (mkS [65, 66, 67]), (mkS [65, 66]), (mkS [65, 66]), (mkS [65, 66]), (mkS [65]), (mkS [78]), (mkS [65, 78]), (mkS [65, 78]), (mkS [65, 78]), (mkS [65, 78]), (mkS [65]), (mkS [78]), (mkS [65, 78]), (mkS [65])] : List Str) op) fun x0_2 => some (x0_1, x0_2)

noncomputable def spec_l24Jumps (x_ : Mins) : Option (Bool) :=
  Option.bind (if decide (x_.op = 20) then some true else some (decide (x_.op = 21)) : Option (Bool)) fun s0_1 => some s0_1

noncomputable def spec_l22Field (x_ : Mins) (f : UInt8) : Option (Int) :=
  if decide (f = (65 : UInt8)) then some x_.a_ else if decide (f = (66 : UInt8)) then some x_.b else if decide (f = (67 : UInt8)) then some x_.c else some x_.n_

noncomputable def spec_l22Rest (x_ : Mins) (fields : Str) : Option (Bool) :=
  Option.bind (forN (S := Unit) (X := Bool) (fun i1_1 xs1_1 => Option.bind (getI ((mkS [65, 66, 67, 78])).b i1_1) fun x1_1 => Option.bind (forN (S := Bool) (X := Empty) (fun i2_1 xs2_1 => Option.bind (if xs2_1 then some true else Option.bind (getI (fields).b i2_1) fun x3_1 => some (decide (x3_1 = x1_1)) : Option (Bool)) fun s2_1 => some (.inl s2_1)) ((((fields).b.length : Int) : Int) - 0).toNat 0 false) (Sum.elim (fun xs1_2 => Option.bind (if !(xs1_2) then Option.bind (spec_l22Field x_ x1_1) fun r2_1 => some (decide (r2_1 ≠ 0)) else some false : Option (Bool)) fun s1_1 => if s1_1 then some (.inr false) else some (.inl ())) (fun (e0 : Empty) => nomatch e0))) ((4 : Int) - 0).toNat 0 ()) (Sum.elim (fun xs0_1 => some true) (fun e0 => some e0))

noncomputable def spec_l25Plain (x_ : Mins) : Option ((List UInt8)) :=
  Option.bind (if decide (x_.op = 1) then some true else Option.bind (spec_l1In x_.op 15 18) fun r1_1 => some r1_1 : Option (Bool)) fun s0_1 => if s0_1 then some ([(byteI x_.op), (byteI x_.a_), (byteI x_.n_)] : List UInt8) else Option.bind (spec_l1In x_.op 3 9) fun r0_1 => if r0_1 then some ([(byteI x_.op), (byteI (w64 (x_.a_ + (w64 (8 * x_.b))))), (byteI x_.c)] : List UInt8) else Option.bind (if decide (x_.op = 2) then some true else Option.bind (spec_l1In x_.op 10 12) fun r1_2 => some r1_2 : Option (Bool)) fun s0_2 => if s0_2 then some ([(byteI x_.op), (byteI (w64 (x_.a_ + (w64 (8 * x_.b)))))] : List UInt8) else if decide (x_.op = 14) then some ([(byteI x_.op), (byteI x_.n_)] : List UInt8) else some ([(byteI x_.op), (byteI x_.a_)] : List UInt8)

noncomputable def spec_EncodeMins (x_ : Mins) : Option ((List UInt8) × Bool) :=
  Option.bind (spec_l22Word x_.op) fun r0_1 => Option.bind (if decide (r0_1.2 = (mkS [])) then some true else Option.bind (spec_l24Jumps x_) fun r1_1 => if r1_1 then some true else Option.bind (spec_l22Rest x_ r0_1.2) fun r1_2 => if !(r1_2) then some true else Option.bind (spec_l1In x_.n_ 0 255) fun r1_3 => some (!(r1_3)) : Option (Bool)) fun s0_1 => if s0_1 then some (([] : List UInt8), false) else Option.bind (Option.bind (spec_l1In x_.a_ 0 7) fun r1_4 => if !(r1_4) then some true else Option.bind (spec_l1In x_.b 0 7) fun r1_5 => if !(r1_5) then some true else Option.bind (spec_l1In x_.c 0 7) fun r1_6 => some (!(r1_6)) : Option (Bool)) fun s0_2 => if s0_2 then some (([] : List UInt8), false) else Option.bind (spec_l25Plain x_) fun r0_2 => some (r0_2, true)

noncomputable def impl_within (n_ : Int) (low : Int) (high : Int) : Option (Bool) :=
  Option.bind (if decide (low ≤ n_) then some (decide (n_ ≤ high)) else some false : Option (Bool)) fun s0_1 => some s0_1

noncomputable def impl_formOf (x_ : Mins) : Option (form × Bool) :=
  Option.bind (impl_within x_.op 1 22) fun r0_1 => if !(r0_1) then some ((⟨(mkS []), 0⟩ : form), false) else Option.bind (getI glob_impl_forms x_.op) fun x0_1 => Option.bind (forN (S := Unit) (X := form × Bool) (fun i1_1 xs1_1 => Option.bind (getI ([x_.a_, x_.b, x_.c, x_.n_] : List Int) i1_1) fun x1_1 => Option.bind (if decide ((andI x0_1.fields (shlI 1 i1_1)) = 0) then some (decide (x1_1 ≠ 0)) else some false : Option (Bool)) fun s1_1 => if s1_1 then some (.inr ((⟨(mkS []), 0⟩ : form), false)) else some (.inl ())) ((4 : Int) - 0).toNat 0 ()) (Sum.elim (fun xs0_1 => some (x0_1, true)) (fun e0 => some e0))

noncomputable def impl_jumpOp (op : Int) : Option (Bool) :=
  Option.bind (if decide (op = 20) then some true else some (decide (op = 21)) : Option (Bool)) fun s0_1 => some s0_1

noncomputable def impl_isByte (n_ : Int) : Option (Bool) :=
  Option.bind (impl_within n_ 0 255) fun r0_1 => some r0_1

noncomputable def impl_shapeOf (op : Int) : Option (Int) :=
  Option.bind (if decide (op = 1) then some (decide (op = 1)) else Option.bind (if decide (op = 15) then some (decide (op = 15)) else Option.bind (if decide (op = 16) then some (decide (op = 16)) else Option.bind (if decide (op = 17) then some (decide (op = 17)) else some (decide (op = 18)) : Option (Bool)) fun s3_1 => some s3_1 : Option (Bool)) fun s2_1 => some s2_1 : Option (Bool)) fun s1_1 => some s1_1 : Option (Bool)) fun s0_1 => if s0_1 then some 0 else Option.bind (if decide (op = 2) then some (decide (op = 2)) else Option.bind (if decide (op = 10) then some (decide (op = 10)) else Option.bind (if decide (op = 11) then some (decide (op = 11)) else some (decide (op = 12)) : Option (Bool)) fun s2_2 => some s2_2 : Option (Bool)) fun s1_2 => some s1_2 : Option (Bool)) fun s0_2 => if s0_2 then some 1 else Option.bind (if decide (op = 13) then some (decide (op = 13)) else Option.bind (if decide (op = 19) then some (decide (op = 19)) else some (decide (op = 22)) : Option (Bool)) fun s1_3 => some s1_3 : Option (Bool)) fun s0_3 => if s0_3 then some 3 else if decide (op = 14) then some 4 else Option.bind (if decide (op = 20) then some (decide (op = 20)) else some (decide (op = 21)) : Option (Bool)) fun s0_4 => if s0_4 then some 5 else some 2

noncomputable def impl_encoded (x_ : Mins) : Option ((List UInt8)) :=
  Option.bind (impl_shapeOf x_.op) fun r0_1 => if decide (r0_1 = 0) then some ([(byteI x_.op), (byteI x_.a_), (byteI x_.n_)] : List UInt8) else if decide (r0_1 = 1) then some ([(byteI x_.op), ((byteI x_.a_) + ((8 : UInt8) * (byteI x_.b)))] : List UInt8) else if decide (r0_1 = 2) then some ([(byteI x_.op), ((byteI x_.a_) + ((8 : UInt8) * (byteI x_.b))), (byteI x_.c)] : List UInt8) else if decide (r0_1 = 4) then some ([(byteI x_.op), (byteI x_.n_)] : List UInt8) else some ([(byteI x_.op), (byteI x_.a_)] : List UInt8)

noncomputable def impl_EncodeMins (x_ : Mins) : Option ((List UInt8) × Bool) :=
  Option.bind (impl_formOf x_) fun r0_1 => Option.bind (if !(r0_1.2) then some true else Option.bind (impl_jumpOp x_.op) fun r1_1 => if r1_1 then some true else Option.bind (impl_within x_.a_ 0 7) fun r1_2 => if !(r1_2) then some true else Option.bind (impl_within x_.b 0 7) fun r1_3 => if !(r1_3) then some true else Option.bind (impl_within x_.c 0 7) fun r1_4 => if !(r1_4) then some true else Option.bind (impl_isByte x_.n_) fun r1_5 => some (!(r1_5)) : Option (Bool)) fun s0_1 => if s0_1 then some ([], false) else Option.bind (impl_encoded x_) fun r0_2 => some (r0_2, true)

noncomputable def laws_eqByteS (a_ : List UInt8) (b_ : List UInt8) : Option (Bool) :=
  if decide (((a_.length : Int)) ≠ ((b_.length : Int))) then some false else Option.bind (forN (S := Unit) (X := Bool) (fun i1_1 xs1_1 => Option.bind (getI a_ i1_1) fun x1_1 => Option.bind (getI b_ i1_1) fun x1_2 => if decide (x1_1 ≠ x1_2) then some (.inr false) else some (.inl ())) (((a_.length : Int) : Int) - 0).toNat 0 ()) (Sum.elim (fun xs0_1 => some true) (fun e0 => some e0))

noncomputable def laws_markByteS (a_ : List UInt8) (k_ : Int) : Option (Int × (List UInt8)) :=
  Option.bind (forN (S := (List UInt8) × Int) (X := Empty) (fun i1_1 xs1_1 => Option.bind (getI xs1_1.1 i1_1) fun x1_1 => some (.inl ((xs1_1.1.set (i1_1).toNat (byteI xs1_1.2)), w64 (xs1_1.2 + 1)))) (((a_.length : Int) : Int) - 0).toNat 0 (a_, k_)) (Sum.elim (fun xs0_1 => some (xs0_1.2, xs0_1.1)) (fun (e0 : Empty) => nomatch e0))

noncomputable def laws_heldByteS (a_ : List UInt8) (k_ : Int) : Option (Int) :=
  Option.bind (forN (S := Int) (X := Int) (fun i1_1 xs1_1 => Option.bind (getI a_ i1_1) fun x1_1 => if decide (x1_1 ≠ (byteI xs1_1)) then some (.inr (-1)) else some (.inl (w64 (xs1_1 + 1)))) (((a_.length : Int) : Int) - 0).toNat 0 k_) (Sum.elim (fun xs0_1 => some xs0_1) (fun e0 => some e0))

noncomputable def laws_FnExactEncodeMins (aX : Mins) : Option (Bool) :=
  Option.bind (laws_toMins aX) fun r0_1 => Option.bind (spec_EncodeMins r0_1) fun r0_2 => Option.bind (laws_toMins aX) fun r0_3 => Option.bind (impl_EncodeMins r0_3) fun r0_4 => Option.bind (Option.bind (laws_eqByteS r0_4.1 r0_2.1) fun r1_1 => if !(r1_1) then some true else some (decide (r0_4.2 ≠ r0_2.2)) : Option (Bool)) fun s0_1 => if s0_1 then some false else Option.bind (laws_markByteS r0_4.1 1) fun r0_5 => Option.bind (laws_heldByteS r0_5.2 1) fun r0_6 => if decide (r0_6 < 0) then some false else if decide (r0_6 ≠ r0_5.1) then some false else Option.bind (laws_toMins aX) fun r0_7 => Option.bind (impl_EncodeMins r0_7) fun r0_8 => Option.bind (Option.bind (laws_eqByteS r0_8.1 r0_2.1) fun r1_2 => if !(r1_2) then some true else some (decide (r0_8.2 ≠ r0_2.2)) : Option (Bool)) fun s0_2 => if s0_2 then some false else Option.bind (laws_heldByteS r0_5.2 1) fun r0_9 => if decide (r0_9 < 0) then some false else if decide (r0_9 ≠ r0_5.1) then some false else some true

end Go.Wk
