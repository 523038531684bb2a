/- A part of the proof of FnExactIsColouringSaid. -/
import Derived.Test.YtpllkdbmgcmklaaGreatCiTypes
namespace Go.Wk
open Go

noncomputable def laws_szIntS (a_ : List Int) (left : Int) : Option (Int) :=
  if decide ((w64 (left - ((a_.length : Int)))) < 0) then some (-1) else some (w64 (left - ((a_.length : Int))))

noncomputable def laws_szPhi (a_ : Phi_) (left : Int) : Option (Int) :=
  Option.bind (laws_szIntS a_.args left) fun r0_1 => if decide (r0_1 < 0) then some (-1) else some r0_1

noncomputable def laws_szPhiS (a_ : List Phi_) (left : Int) : Option (Int) :=
  if decide ((w64 (left - ((a_.length : Int)))) < 0) then some (-1) else Option.bind (forN (S := Int) (X := Int) (fun i1_1 xs1_1 => Option.bind (getI a_ i1_1) fun x1_1 => Option.bind (laws_szPhi x1_1 xs1_1) fun r1_1 => if decide (r1_1 < 0) then some (.inr (-1)) else some (.inl r1_1)) (((a_.length : Int) : Int) - 0).toNat 0 (w64 (left - ((a_.length : Int))))) (Sum.elim (fun xs0_1 => some xs0_1) (fun e0 => some e0))

noncomputable def laws_szIns (a_ : Ins_) (left : Int) : Option (Int) :=
  Option.bind (laws_szIntS a_.args left) fun r0_1 => if decide (r0_1 < 0) then some (-1) else some r0_1

noncomputable def laws_szInsS (a_ : List Ins_) (left : Int) : Option (Int) :=
  if decide ((w64 (left - ((a_.length : Int)))) < 0) then some (-1) else Option.bind (forN (S := Int) (X := Int) (fun i1_1 xs1_1 => Option.bind (getI a_ i1_1) fun x1_1 => Option.bind (laws_szIns x1_1 xs1_1) fun r1_1 => if decide (r1_1 < 0) then some (.inr (-1)) else some (.inl r1_1)) (((a_.length : Int) : Int) - 0).toNat 0 (w64 (left - ((a_.length : Int))))) (Sum.elim (fun xs0_1 => some xs0_1) (fun e0 => some e0))

noncomputable def laws_szBlock (a_ : Block_) (left : Int) : Option (Int) :=
  Option.bind (laws_szPhiS a_.phis left) fun r0_1 => if decide (r0_1 < 0) then some (-1) else Option.bind (laws_szInsS a_.ins r0_1) fun r0_2 => if decide (r0_2 < 0) then some (-1) else Option.bind (laws_szIntS a_.next_ r0_2) fun r0_3 => if decide (r0_3 < 0) then some (-1) else some r0_3

noncomputable def laws_szBlockS (a_ : List Block_) (left : Int) : Option (Int) :=
  if decide ((w64 (left - ((a_.length : Int)))) < 0) then some (-1) else Option.bind (forN (S := Int) (X := Int) (fun i1_1 xs1_1 => Option.bind (getI a_ i1_1) fun x1_1 => Option.bind (laws_szBlock x1_1 xs1_1) fun r1_1 => if decide (r1_1 < 0) then some (.inr (-1)) else some (.inl r1_1)) (((a_.length : Int) : Int) - 0).toNat 0 (w64 (left - ((a_.length : Int))))) (Sum.elim (fun xs0_1 => some xs0_1) (fun e0 => some e0))

noncomputable def laws_szCode (a_ : Code_) (left : Int) : Option (Int) :=
  Option.bind (laws_szBlockS a_.blocks left) fun r0_1 => if decide (r0_1 < 0) then some (-1) else some r0_1

noncomputable def laws_szCodeS (a_ : List Code_) (left : Int) : Option (Int) :=
  if decide ((w64 (left - ((a_.length : Int)))) < 0) then some (-1) else Option.bind (forN (S := Int) (X := Int) (fun i1_1 xs1_1 => Option.bind (getI a_ i1_1) fun x1_1 => Option.bind (laws_szCode x1_1 xs1_1) fun r1_1 => if decide (r1_1 < 0) then some (.inr (-1)) else some (.inl r1_1)) (((a_.length : Int) : Int) - 0).toNat 0 (w64 (left - ((a_.length : Int))))) (Sum.elim (fun xs0_1 => some xs0_1) (fun e0 => some e0))

noncomputable def laws_szUnit (a_ : Unit_) (left : Int) : Option (Int) :=
  Option.bind (laws_szCodeS a_.codes left) fun r0_1 => if decide (r0_1 < 0) then some (-1) else some r0_1

noncomputable def laws_toIntS (a_ : List Int) : Option ((List Int)) :=
  Option.bind (makeM (0 : Int) (a_.length : Int)) fun ys0_1 => Option.bind (forN (S := (List Int)) (X := Empty) (fun i1_1 xs1_1 => Option.bind (getI a_ i1_1) fun x1_1 => Option.bind (getI xs1_1 i1_1) fun x1_2 => some (.inl (xs1_1.set (i1_1).toNat x1_1))) (((a_.length : Int) : Int) - 0).toNat 0 ys0_1) (Sum.elim (fun xs0_1 => some xs0_1) (fun (e0 : Empty) => nomatch e0))

noncomputable def laws_toPhi (a_ : Phi_) : Option (Phi_) :=
  Option.bind (laws_toIntS a_.args) fun r0_1 => some (⟨a_.to, r0_1⟩ : Phi_)

noncomputable def laws_toPhiS (a_ : List Phi_) : Option ((List Phi_)) :=
  Option.bind (makeM ((⟨0, []⟩ : Phi_) : Phi_) (a_.length : Int)) fun ys0_1 => Option.bind (forN (S := (List Phi_)) (X := Empty) (fun i1_1 xs1_1 => Option.bind (getI a_ i1_1) fun x1_1 => Option.bind (laws_toPhi x1_1) fun r1_1 => Option.bind (getI xs1_1 i1_1) fun x1_2 => some (.inl (xs1_1.set (i1_1).toNat r1_1))) (((a_.length : Int) : Int) - 0).toNat 0 ys0_1) (Sum.elim (fun xs0_1 => some xs0_1) (fun (e0 : Empty) => nomatch e0))

noncomputable def laws_toIns (a_ : Ins_) : Option (Ins_) :=
  Option.bind (laws_toIntS a_.args) fun r0_1 => some (⟨a_.op, a_.to, r0_1, a_.n_⟩ : Ins_)

noncomputable def laws_toInsS (a_ : List Ins_) : Option ((List Ins_)) :=
  Option.bind (makeM ((⟨0, 0, [], 0⟩ : Ins_) : Ins_) (a_.length : Int)) fun ys0_1 => Option.bind (forN (S := (List Ins_)) (X := Empty) (fun i1_1 xs1_1 => Option.bind (getI a_ i1_1) fun x1_1 => Option.bind (laws_toIns x1_1) fun r1_1 => Option.bind (getI xs1_1 i1_1) fun x1_2 => some (.inl (xs1_1.set (i1_1).toNat r1_1))) (((a_.length : Int) : Int) - 0).toNat 0 ys0_1) (Sum.elim (fun xs0_1 => some xs0_1) (fun (e0 : Empty) => nomatch e0))

noncomputable def laws_toBlock (a_ : Block_) : Option (Block_) :=
  Option.bind (laws_toPhiS a_.phis) fun r0_1 => Option.bind (laws_toInsS a_.ins) fun r0_2 => Option.bind (laws_toIntS a_.next_) fun r0_3 => some (⟨r0_1, r0_2, a_.jump, a_.on, r0_3⟩ : Block_)

noncomputable def laws_toBlockS (a_ : List Block_) : Option ((List Block_)) :=
  Option.bind (makeM ((⟨[], [], 0, 0, []⟩ : Block_) : Block_) (a_.length : Int)) fun ys0_1 => Option.bind (forN (S := (List Block_)) (X := Empty) (fun i1_1 xs1_1 => Option.bind (getI a_ i1_1) fun x1_1 => Option.bind (laws_toBlock x1_1) fun r1_1 => Option.bind (getI xs1_1 i1_1) fun x1_2 => some (.inl (xs1_1.set (i1_1).toNat r1_1))) (((a_.length : Int) : Int) - 0).toNat 0 ys0_1) (Sum.elim (fun xs0_1 => some xs0_1) (fun (e0 : Empty) => nomatch e0))

noncomputable def laws_toCode (a_ : Code_) : Option (Code_) :=
  Option.bind (laws_toBlockS a_.blocks) fun r0_1 => some (⟨a_.params, a_.regs, r0_1⟩ : Code_)

noncomputable def laws_toCodeS (a_ : List Code_) : Option ((List Code_)) :=
  Option.bind (makeM ((⟨0, 0, []⟩ : Code_) : Code_) (a_.length : Int)) fun ys0_1 => Option.bind (forN (S := (List Code_)) (X := Empty) (fun i1_1 xs1_1 => Option.bind (getI a_ i1_1) fun x1_1 => Option.bind (laws_toCode x1_1) fun r1_1 => Option.bind (getI xs1_1 i1_1) fun x1_2 => some (.inl (xs1_1.set (i1_1).toNat r1_1))) (((a_.length : Int) : Int) - 0).toNat 0 ys0_1) (Sum.elim (fun xs0_1 => some xs0_1) (fun (e0 : Empty) => nomatch e0))

noncomputable def laws_toUnit (a_ : Unit_) : Option (Unit_) :=
  Option.bind (laws_toCodeS a_.codes) fun r0_1 => some (⟨r0_1⟩ : Unit_)

noncomputable def spec_l1In (n_ : Int) (low : Int) (high : Int) : Option (Bool) :=
  Option.bind (if decide (low ≤ n_) then some (decide (n_ ≤ high)) else some false : Option (Bool)) fun s0_1 => some s0_1

noncomputable def spec_l7Regs (c_ : Code_) (list : List Int) : Option (Bool) :=
  Option.bind (forN (S := Unit) (X := Bool) (fun i1_1 xs1_1 => Option.bind (getI list i1_1) fun x1_1 => Option.bind (spec_l1In x1_1 0 (w64 (c_.regs - 1))) fun r1_1 => if !(r1_1) then some (.inr false) else some (.inl ())) (((list.length : Int) : Int) - 0).toNat 0 ()) (Sum.elim (fun xs0_1 => some true) (fun e0 => some e0))

noncomputable def spec_l7Makes (op : Int) : Option (Bool) :=
  Option.bind (Option.bind (spec_l1In op 1 14) fun r1_1 => if r1_1 then if decide (op ≠ 12) then some (decide (op ≠ 13)) else some false else some false : Option (Bool)) fun s0_1 => some s0_1

noncomputable def spec_l7Args (op : Int) : Option (Int) :=
  if decide (op = 1) then some 0 else Option.bind (if decide (op = 2) then some true else if decide (op = 10) then some true else if decide (op = 11) then some true else some (decide (op = 13)) : Option (Bool)) fun s0_1 => if s0_1 then some 1 else Option.bind (Option.bind (spec_l1In op 3 9) fun r1_1 => if r1_1 then some true else some (decide (op = 12)) : Option (Bool)) fun s0_2 => if s0_2 then some 2 else some (-1)

noncomputable def spec_l7Ins (u : Unit_) (k_ : Int) (x_ : Ins_) : Option (Bool) :=
  Option.bind (getI u.codes k_) fun x0_1 => Option.bind (Option.bind (spec_l1In x_.op 1 14) fun r1_1 => if !(r1_1) then some true else Option.bind (spec_l7Regs x0_1 x_.args) fun r1_2 => some (!(r1_2)) : Option (Bool)) fun s0_1 => if s0_1 then some false else Option.bind (Option.bind (spec_l7Makes x_.op) fun r1_3 => Option.bind (spec_l1In x_.to 0 (w64 (x0_1.regs - 1))) fun r1_4 => if decide (r1_3 ≠ r1_4) then some true else Option.bind (spec_l7Makes x_.op) fun r1_5 => if !(r1_5) then some (decide (x_.to ≠ (-1))) else some false : Option (Bool)) fun s0_2 => if s0_2 then some false else if decide (x_.op = 14) then Option.bind (Option.bind (spec_l1In x_.n_ 0 (w64 (k_ - 1))) fun r1_6 => if r1_6 then Option.bind (getI u.codes x_.n_) fun x1_1 => some (decide (((x_.args.length : Int)) = x1_1.params)) else some false : Option (Bool)) fun s0_3 => some s0_3 else Option.bind (Option.bind (spec_l7Args x_.op) fun r1_7 => if decide (((x_.args.length : Int)) = r1_7) then Option.bind (spec_l1In x_.n_ 0 255) fun r1_8 => if r1_8 then if decide (x_.n_ = 0) then some true else some (decide (x_.op = 1)) else some false else some false : Option (Bool)) fun s0_4 => some s0_4

noncomputable def spec_l7Preds (c_ : Code_) (b_ : Int) : Option ((List Int)) :=
  Option.bind (forN (S := (List Int)) (X := Empty) (fun i1_1 xs1_1 => Option.bind (Option.bind (loopM (S := Int) (X := (List Int)) (fun xs3_1 => Option.bind (getI c_.blocks i1_1) fun x3_1 => if decide (xs3_1 < ((x3_1.next_.length : Int))) then Option.bind (getI x3_1.next_ xs3_1) fun x3_2 => if decide (x3_2 = b_) then Option.bind (appM xs1_1 ([i1_1] : List Int)) fun ys3_1 => some (.inr ys3_1) else some (.inl (w64 (xs3_1 + 1))) else some (.inr xs1_1)) 0) (fun e0 => some e0) : Option ((List Int))) fun s1_1 => some (.inl s1_1)) (((c_.blocks.length : Int) : Int) - 0).toNat 0 ([] : List Int)) (Sum.elim (fun xs0_1 => some xs0_1) (fun (e0 : Empty) => nomatch e0))

noncomputable def spec_l7Block (u : Unit_) (k_ : Int) (b_ : Int) : Option (Bool) :=
  Option.bind (getI u.codes k_) fun x0_1 => Option.bind (getI x0_1.blocks b_) fun x0_2 => Option.bind (Option.bind (if decide (x0_2.jump = 1) then if decide (x0_2.on ≠ 0) then some (.inr false) else some (.inl 1) else Option.bind (if decide (x0_2.jump = 2) then some (.inl 2) else if decide (x0_2.jump = 3) then some (.inl 0) else some (.inr false) : Option ((Int) ⊕ (Bool))) (Sum.elim (fun s2_1 => some (.inl s2_1)) (fun e0 => some (.inr e0))) : Option ((Int) ⊕ (Bool))) (Sum.elim (fun s1_1 => some (.inl s1_1)) (fun e0 => some (.inr e0))) : Option ((Int) ⊕ (Bool))) (Sum.elim (fun s0_1 => Option.bind (if decide (((x0_2.next_.length : Int)) ≠ s0_1) then some true else if decide (x0_2.jump ≠ 1) then Option.bind (spec_l1In x0_2.on 0 (w64 (x0_1.regs - 1))) fun r1_1 => some (!(r1_1)) else some false : Option (Bool)) fun s0_2 => if s0_2 then some false else Option.bind (forN (S := Unit) (X := Bool) (fun i1_1 xs1_1 => Option.bind (getI x0_2.next_ i1_1) fun x1_1 => Option.bind (spec_l1In x1_1 1 (((x0_1.blocks.length : Int)) - 1)) fun r1_2 => if !(r1_2) then some (.inr false) else some (.inl ())) (((x0_2.next_.length : Int) : Int) - 0).toNat 0 ()) (Sum.elim (fun xs0_1 => Option.bind (forN (S := Unit) (X := Bool) (fun i1_2 xs1_2 => Option.bind (getI x0_2.ins i1_2) fun x1_2 => Option.bind (spec_l7Ins u k_ x1_2) fun r1_3 => if !(r1_3) then some (.inr false) else some (.inl ())) (((x0_2.ins.length : Int) : Int) - 0).toNat 0 ()) (Sum.elim (fun xs0_2 => Option.bind (spec_l7Preds x0_1 b_) fun r0_3 => Option.bind (forN (S := Unit) (X := Bool) (fun i1_3 xs1_3 => Option.bind (if decide (b_ = 0) then some true else Option.bind (getI x0_2.phis i1_3) fun x2_1 => if decide (((x2_1.args.length : Int)) ≠ ((r0_3.length : Int))) then some true else Option.bind (spec_l7Regs x0_1 x2_1.args) fun r2_1 => if !(r2_1) then some true else Option.bind (spec_l1In x2_1.to 0 (w64 (x0_1.regs - 1))) fun r2_2 => some (!(r2_2)) : Option (Bool)) fun s1_2 => if s1_2 then some (.inr false) else some (.inl ())) (((x0_2.phis.length : Int) : Int) - 0).toNat 0 ()) (Sum.elim (fun xs0_3 => some true) (fun e0 => some e0))) (fun e0 => some e0))) (fun e0 => some e0))) (fun e0 => some e0))

noncomputable def spec_UnitValid (u : Unit_) : Option (Bool) :=
  Option.bind (spec_l1In (u.codes.length : Int) 1 4) fun r0_1 => if !(r0_1) then some false else Option.bind (forN (S := Int) (X := Bool) (fun i1_1 xs1_1 => Option.bind (getI u.codes i1_1) fun x1_1 => Option.bind (Option.bind (spec_l1In x1_1.params 0 3) fun r2_1 => if !(r2_1) then some true else Option.bind (spec_l1In x1_1.regs x1_1.params 300) fun r2_2 => if !(r2_2) then some true else Option.bind (spec_l1In (x1_1.blocks.length : Int) 1 160) fun r2_3 => some (!(r2_3)) : Option (Bool)) fun s1_1 => if s1_1 then some (.inr false) else Option.bind (forN (S := Int) (X := Bool) (fun i2_1 xs2_1 => Option.bind (getI x1_1.blocks i2_1) fun x2_1 => Option.bind (if decide (800 < (w64 ((w64 (xs2_1 + ((x2_1.ins.length : Int)))) + ((x2_1.phis.length : Int))))) then some true else Option.bind (spec_l7Block u i1_1 i2_1) fun r3_1 => some (!(r3_1)) : Option (Bool)) fun s2_1 => if s2_1 then some (.inr false) else some (.inl (w64 ((w64 (xs2_1 + ((x2_1.ins.length : Int)))) + ((x2_1.phis.length : Int)))))) (((x1_1.blocks.length : Int) : Int) - 0).toNat 0 xs1_1) (Sum.elim (fun xs1_2 => some (.inl xs1_2)) (fun e0 => some (.inr e0)))) (((u.codes.length : Int) : Int) - 0).toNat 0 0) (Sum.elim (fun xs0_1 => some true) (fun e0 => some e0))

noncomputable def spec_l12Has (u : Unit_) (k_ : Int) : Option (Bool) :=
  Option.bind (Option.bind (spec_UnitValid u) fun r1_1 => if r1_1 then Option.bind (spec_l1In k_ 0 (((u.codes.length : Int)) - 1)) fun r1_2 => some r1_2 else some false : Option (Bool)) fun s0_1 => some s0_1

noncomputable def spec_PhiCount (u : Unit_) : Option (Int) :=
  Option.bind (spec_UnitValid u) fun r0_1 => if !(r0_1) then some (-1) else Option.bind (forN (S := Int) (X := Empty) (fun i1_1 xs1_1 => Option.bind (Option.bind (loopM (S := Int × Int) (X := Int) (fun xs3_1 => Option.bind (getI u.codes i1_1) fun x3_1 => if decide (xs3_1.2 < ((x3_1.blocks.length : Int))) then Option.bind (getI x3_1.blocks xs3_1.2) fun x3_2 => some (.inl (w64 (xs3_1.1 + ((x3_2.phis.length : Int))), w64 (xs3_1.2 + 1))) else some (.inr xs3_1.1)) (xs1_1, 0)) (fun e0 => some e0) : Option (Int)) fun s1_1 => some (.inl s1_1)) (((u.codes.length : Int) : Int) - 0).toNat 0 0) (Sum.elim (fun xs0_1 => some xs0_1) (fun (e0 : Empty) => nomatch e0))

noncomputable def spec_l21Flat (u : Unit_) (k_ : Int) : Option (Bool) :=
  Option.bind (Option.bind (spec_l12Has u k_) fun r1_1 => if r1_1 then Option.bind (spec_PhiCount u) fun r1_2 => some (decide (r1_2 = 0)) else some false : Option (Bool)) fun s0_1 => some s0_1

noncomputable def spec_l10At (list : List Int) (n_ : Int) : Option (Int) :=
  Option.bind (forN (S := Unit) (X := Int) (fun i1_1 xs1_1 => Option.bind (getI list i1_1) fun x1_1 => if decide (x1_1 = n_) then some (.inr i1_1) else some (.inl ())) (((list.length : Int) : Int) - 0).toNat 0 ()) (Sum.elim (fun xs0_1 => some (-1)) (fun e0 => some e0))

noncomputable def spec_l12Flow (c_ : Code_) (s_ : l12Sets) (b_ : Int) (next_ : Int) : Option (Bool × (List (List Bool))) :=
  Option.bind (getI s_.ins next_) fun x0_1 => Option.bind (appM ([] : List Bool) x0_1) fun ys0_1 => Option.bind (spec_l7Preds c_ next_) fun r0_1 => Option.bind (spec_l10At r0_1 b_) fun r0_2 => Option.bind (Option.bind (loopM (S := (List Bool) × Int) (X := (List Bool)) (fun xs2_1 => Option.bind (getI c_.blocks next_) fun x2_1 => if decide (xs2_1.2 < ((x2_1.phis.length : Int))) then Option.bind (getI x2_1.phis xs2_1.2) fun x2_2 => Option.bind (getI x2_2.args r0_2) fun x2_3 => Option.bind (getI xs2_1.1 x2_3) fun x2_4 => some (.inl ((xs2_1.1.set (x2_3).toNat true), w64 (xs2_1.2 + 1))) else some (.inr xs2_1.1)) (ys0_1, 0)) (fun e0 => some e0) : Option ((List Bool))) fun s0_1 => Option.bind (fitI c_.regs) fun _ => Option.bind (forN (S := (List (List Bool)) × Bool) (X := Empty) (fun i1_1 xs1_1 => Option.bind (Option.bind (getI s0_1 i1_1) fun x2_5 => Option.bind (if x2_5 then Option.bind (if xs1_1.2 then some true else Option.bind (getI xs1_1.1 b_) fun x4_1 => Option.bind (getI x4_1 i1_1) fun x4_2 => some (!(x4_2)) : Option (Bool)) fun s3_1 => Option.bind (getI xs1_1.1 b_) fun x3_1 => Option.bind (getI x3_1 i1_1) fun x3_2 => some ((xs1_1.1.set (b_).toNat (x3_1.set (i1_1).toNat true)), s3_1) else some (xs1_1.1, xs1_1.2) : Option ((List (List Bool)) × Bool)) fun s2_1 => some (s2_1.1, s2_1.2) : Option ((List (List Bool)) × Bool)) fun s1_1 => some (.inl (s1_1.1, s1_1.2))) ((c_.regs : Int) - 0).toNat 0 (s_.outs, false)) (Sum.elim (fun xs0_1 => some (xs0_1.2, xs0_1.1)) (fun (e0 : Empty) => nomatch e0))

noncomputable def spec_MadeBy (x_ : Ins_) : Option (Int) :=
  Option.bind (spec_l7Makes x_.op) fun r0_1 => if r0_1 then some x_.to else some (-1)

noncomputable def spec_l12Behind (c_ : Code_) (s_ : l12Sets) (b_ : Int) (i_ : Int) : Option ((List Bool)) :=
  Option.bind (getI s_.outs b_) fun x0_1 => Option.bind (appM ([] : List Bool) x0_1) fun ys0_1 => Option.bind (getI c_.blocks b_) fun x0_2 => Option.bind (if decide (x0_2.jump ≠ 1) then Option.bind (getI ys0_1 x0_2.on) fun x1_1 => some (ys0_1.set (x0_2.on).toNat true) else some ys0_1 : Option ((List Bool))) fun s0_1 => Option.bind (Option.bind (loopM (S := (List Bool) × Int) (X := (List Bool)) (fun xs2_1 => if decide (i_ < xs2_1.2) then Option.bind (getI x0_2.ins xs2_1.2) fun x2_1 => Option.bind (spec_MadeBy x2_1) fun r2_1 => Option.bind (if decide (0 ≤ r2_1) then Option.bind (getI xs2_1.1 r2_1) fun x3_1 => some (xs2_1.1.set (r2_1).toNat false) else some xs2_1.1 : Option ((List Bool))) fun s2_1 => Option.bind (forN (S := (List Bool)) (X := Empty) (fun i3_1 xs3_1 => Option.bind (getI x2_1.args i3_1) fun x3_2 => Option.bind (getI xs3_1 x3_2) fun x3_3 => some (.inl (xs3_1.set (x3_2).toNat true))) (((x2_1.args.length : Int) : Int) - 0).toNat 0 s2_1) (Sum.elim (fun xs2_2 => some (.inl (xs2_2, w64 (xs2_1.2 - 1)))) (fun (e0 : Empty) => nomatch e0)) else some (.inr xs2_1.1)) (s0_1, ((x0_2.ins.length : Int)) - 1)) (fun e0 => some e0) : Option ((List Bool))) fun s0_2 => some s0_2

noncomputable def spec_l12Live (c_ : Code_) : Option (l12Sets) :=
  Option.bind (forN (S := (List (List Bool)) × (List (List Bool))) (X := Empty) (fun i1_1 xs1_1 => Option.bind (makeM (false : Bool) c_.regs) fun ys1_1 => Option.bind (appM xs1_1.1 ([ys1_1] : List (List Bool))) fun ys1_2 => Option.bind (makeM (false : Bool) c_.regs) fun ys1_3 => Option.bind (appM xs1_1.2 ([ys1_3] : List (List Bool))) fun ys1_4 => some (.inl (ys1_2, ys1_4))) (((c_.blocks.length : Int) : Int) - 0).toNat 0 ([], [])) (Sum.elim (fun xs0_1 => Option.bind (Option.bind (loopM (S := (List (List Bool)) × (List (List Bool)) × Bool) (X := (List (List Bool)) × (List (List Bool))) (fun xs2_1 => if xs2_1.2.2 then Option.bind (Option.bind (loopM (S := (List (List Bool)) × (List (List Bool)) × Bool × Int) (X := (List (List Bool)) × (List (List Bool)) × Bool) (fun xs4_1 => if decide (0 ≤ xs4_1.2.2.2) then Option.bind (Option.bind (loopM (S := (List (List Bool)) × Bool × Int) (X := (List (List Bool)) × Bool) (fun xs6_1 => Option.bind (getI c_.blocks xs4_1.2.2.2) fun x6_1 => if decide (xs6_1.2.2 < ((x6_1.next_.length : Int))) then Option.bind (Option.bind (getI x6_1.next_ xs6_1.2.2) fun x7_1 => Option.bind (spec_l12Flow c_ (⟨xs4_1.1, xs6_1.1⟩ : l12Sets) xs4_1.2.2.2 x7_1) fun r7_1 => if r7_1.1 then some (r7_1.2, true) else some (r7_1.2, xs6_1.2.1) : Option ((List (List Bool)) × Bool)) fun s6_1 => some (.inl (s6_1.1, s6_1.2, w64 (xs6_1.2.2 + 1))) else some (.inr (xs6_1.1, xs6_1.2.1))) (xs4_1.2.1, xs4_1.2.2.1, 0)) (fun e0 => some e0) : Option ((List (List Bool)) × Bool)) fun s4_1 => Option.bind (spec_l12Behind c_ (⟨xs4_1.1, s4_1.1⟩ : l12Sets) xs4_1.2.2.2 (-1)) fun r4_1 => Option.bind (Option.bind (loopM (S := (List Bool) × Int) (X := (List Bool)) (fun xs6_2 => Option.bind (getI c_.blocks xs4_1.2.2.2) fun x6_2 => if decide (xs6_2.2 < ((x6_2.phis.length : Int))) then Option.bind (getI x6_2.phis xs6_2.2) fun x6_3 => Option.bind (getI xs6_2.1 x6_3.to) fun x6_4 => some (.inl ((xs6_2.1.set (x6_3.to).toNat false), w64 (xs6_2.2 + 1))) else some (.inr xs6_2.1)) (r4_1, 0)) (fun e0 => some e0) : Option ((List Bool))) fun s4_2 => Option.bind (fitI c_.regs) fun _ => Option.bind (forN (S := Bool) (X := Empty) (fun i5_1 xs5_1 => Option.bind (if xs5_1 then some true else Option.bind (getI s4_2 i5_1) fun x6_5 => Option.bind (getI xs4_1.1 xs4_1.2.2.2) fun x6_6 => Option.bind (getI x6_6 i5_1) fun x6_7 => some (decide (x6_5 ≠ x6_7)) : Option (Bool)) fun s5_1 => some (.inl s5_1)) ((c_.regs : Int) - 0).toNat 0 s4_1.2) (Sum.elim (fun xs4_2 => Option.bind (getI xs4_1.1 xs4_1.2.2.2) fun x4_1 => some (.inl ((xs4_1.1.set (xs4_1.2.2.2).toNat s4_2), s4_1.1, xs4_2, w64 (xs4_1.2.2.2 - 1)))) (fun (e0 : Empty) => nomatch e0)) else some (.inr (xs4_1.1, xs4_1.2.1, xs4_1.2.2.1))) (xs2_1.1, xs2_1.2.1, false, ((c_.blocks.length : Int)) - 1)) (fun e0 => some e0) : Option ((List (List Bool)) × (List (List Bool)) × Bool)) fun s2_1 => some (.inl (s2_1.1, s2_1.2.1, s2_1.2.2)) else some (.inr (xs2_1.1, xs2_1.2.1))) (xs0_1.1, xs0_1.2, true)) (fun e0 => some e0) : Option ((List (List Bool)) × (List (List Bool)))) fun s0_1 => some (⟨s0_1.1, s0_1.2⟩ : l12Sets)) (fun (e0 : Empty) => nomatch e0))

noncomputable def spec_l21Table (c_ : Code_) : Option ((List (List Bool))) :=
  Option.bind (fitI c_.regs) fun _ => Option.bind (forN (S := (List (List Bool))) (X := Empty) (fun i1_1 xs1_1 => Option.bind (makeM (false : Bool) c_.regs) fun ys1_1 => Option.bind (appM xs1_1 ([ys1_1] : List (List Bool))) fun ys1_2 => some (.inl ys1_2)) ((c_.regs : Int) - 0).toNat 0 ([] : List (List Bool))) (Sum.elim (fun xs0_1 => Option.bind (spec_l12Live c_) fun r0_2 => Option.bind (fitI c_.params) fun _ => Option.bind (forN (S := (List (List Bool))) (X := Empty) (fun i1_2 xs1_2 => Option.bind (fitI c_.regs) fun _ => Option.bind (forN (S := (List (List Bool))) (X := Empty) (fun i2_1 xs2_1 => Option.bind (Option.bind (if decide (i1_2 ≠ i2_1) then Option.bind (getI r0_2.ins 0) fun x4_1 => Option.bind (getI x4_1 i1_2) fun x4_2 => if x4_2 then Option.bind (getI x4_1 i2_1) fun x4_3 => some x4_3 else some false else some false : Option (Bool)) fun s3_1 => Option.bind (if s3_1 then Option.bind (getI xs2_1 i1_2) fun x4_4 => Option.bind (getI x4_4 i2_1) fun x4_5 => Option.bind (getI (xs2_1.set (i1_2).toNat (x4_4.set (i2_1).toNat true)) i2_1) fun x4_6 => Option.bind (getI x4_6 i1_2) fun x4_7 => some ((xs2_1.set (i1_2).toNat (x4_4.set (i2_1).toNat true)).set (i2_1).toNat (x4_6.set (i1_2).toNat true)) else some xs2_1 : Option ((List (List Bool)))) fun s3_2 => some s3_2 : Option ((List (List Bool)))) fun s2_1 => some (.inl s2_1)) ((c_.regs : Int) - 0).toNat 0 xs1_2) (Sum.elim (fun xs1_3 => some (.inl xs1_3)) (fun (e0 : Empty) => nomatch e0))) ((c_.params : Int) - 0).toNat 0 xs0_1) (Sum.elim (fun xs0_2 => Option.bind (forN (S := (List (List Bool))) (X := Empty) (fun i1_4 xs1_4 => Option.bind (Option.bind (loopM (S := (List (List Bool)) × Int) (X := (List (List Bool))) (fun xs3_1 => Option.bind (getI c_.blocks i1_4) fun x3_1 => if decide (xs3_1.2 < ((x3_1.ins.length : Int))) then Option.bind (Option.bind (getI x3_1.ins xs3_1.2) fun x4_8 => Option.bind (spec_l7Makes x4_8.op) fun r4_1 => if !(r4_1) then some xs3_1.1 else Option.bind (spec_l12Behind c_ r0_2 i1_4 xs3_1.2) fun r4_2 => Option.bind (fitI c_.regs) fun _ => Option.bind (forN (S := (List (List Bool))) (X := Empty) (fun i5_1 xs5_1 => Option.bind (Option.bind (Option.bind (getI r4_2 i5_1) fun x7_1 => if x7_1 then if decide (i5_1 ≠ x4_8.to) then if decide (x4_8.op = 2) then Option.bind (getI x4_8.args 0) fun x7_2 => some (!(decide (x7_2 = i5_1))) else some (!(false)) else some false else some false : Option (Bool)) fun s6_1 => Option.bind (if s6_1 then Option.bind (getI xs5_1 i5_1) fun x7_3 => Option.bind (getI x7_3 x4_8.to) fun x7_4 => Option.bind (getI (xs5_1.set (i5_1).toNat (x7_3.set (x4_8.to).toNat true)) x4_8.to) fun x7_5 => Option.bind (getI x7_5 i5_1) fun x7_6 => some ((xs5_1.set (i5_1).toNat (x7_3.set (x4_8.to).toNat true)).set (x4_8.to).toNat (x7_5.set (i5_1).toNat true)) else some xs5_1 : Option ((List (List Bool)))) fun s6_2 => some s6_2 : Option ((List (List Bool)))) fun s5_1 => some (.inl s5_1)) ((c_.regs : Int) - 0).toNat 0 xs3_1.1) (Sum.elim (fun xs4_1 => some xs4_1) (fun (e0 : Empty) => nomatch e0)) : Option ((List (List Bool)))) fun s3_3 => some (.inl (s3_3, w64 (xs3_1.2 + 1))) else some (.inr xs3_1.1)) (xs1_4, 0)) (fun e0 => some e0) : Option ((List (List Bool)))) fun s1_1 => some (.inl s1_1)) (((c_.blocks.length : Int) : Int) - 0).toNat 0 xs0_2) (Sum.elim (fun xs0_3 => some xs0_3) (fun (e0 : Empty) => nomatch e0))) (fun (e0 : Empty) => nomatch e0))) (fun (e0 : Empty) => nomatch e0))

noncomputable def spec_Clashes (u : Unit_) (k_ : Int) : Option ((List (List Int))) :=
  Option.bind (spec_l21Flat u k_) fun r0_1 => if !(r0_1) then some ([] : List (List Int)) else Option.bind (getI u.codes k_) fun x0_1 => Option.bind (spec_l21Table x0_1) fun r0_2 => Option.bind (forN (S := (List (List Int))) (X := Empty) (fun i1_1 xs1_1 => Option.bind (forN (S := (List (List Int))) (X := Empty) (fun i2_1 xs2_1 => Option.bind (Option.bind (getI r0_2 i1_1) fun x3_1 => Option.bind (getI x3_1 i2_1) fun x3_2 => Option.bind (if x3_2 then Option.bind (appM xs2_1 ([([i1_1, i2_1] : List Int)] : List (List Int))) fun ys4_1 => some ys4_1 else some xs2_1 : Option ((List (List Int)))) fun s3_1 => some s3_1 : Option ((List (List Int)))) fun s2_1 => some (.inl s2_1)) (((r0_2.length : Int) : Int) - (i1_1 + 1)).toNat (i1_1 + 1) xs1_1) (Sum.elim (fun xs1_2 => some (.inl xs1_2)) (fun (e0 : Empty) => nomatch e0))) (((r0_2.length : Int) : Int) - 0).toNat 0 ([] : List (List Int))) (Sum.elim (fun xs0_1 => some xs0_1) (fun (e0 : Empty) => nomatch e0))

noncomputable def impl_within (n_ : Int) (low : Int) (high : Int) : Option (Bool) :=
  Option.bind (if decide (low ≤ n_) then some (decide (n_ ≤ high)) else some false : Option (Bool)) fun s0_1 => some s0_1

noncomputable def impl_codeOk_1 (r_ : Int) (c0_ : Code_) : Option (Bool) :=
  Option.bind (impl_within r_ 0 (w64 (c0_.regs - 1))) fun r0_1 => some r0_1

noncomputable def impl_nextCount (jump : Int) : Option (Int) :=
  if decide (jump = 1) then some 1 else if decide (jump = 2) then some 2 else if decide (jump = 3) then some 0 else some (-1)

noncomputable def impl_usesOn (jump : Int) : Option (Bool) :=
  Option.bind (if decide (jump = 2) then some true else some (decide (jump = 3)) : Option (Bool)) fun s0_1 => some s0_1

noncomputable def impl_codeOk_2 (n_ : Int) (c0_ : Code_) : Option (Bool) :=
  Option.bind (impl_within n_ 1 (((c0_.blocks.length : Int)) - 1)) fun r0_1 => some (!(r0_1))

noncomputable def slices_IndexFunc_S_int_int (s_ : List Int) (f : Int → Option Bool) : Option (Int) :=
  Option.bind (forN (S := Unit) (X := Int) (fun i1_1 xs1_1 => Option.bind (getI s_ i1_1) fun x1_1 => Option.bind (f x1_1) fun r1_1 => if r1_1 then some (.inr i1_1) else some (.inl ())) (((s_.length : Int) : Int) - 0).toNat 0 ()) (Sum.elim (fun xs0_1 => some (-1)) (fun e0 => some e0))

noncomputable def slices_ContainsFunc_S_int_int (s_ : List Int) (f : Int → Option Bool) : Option (Bool) :=
  Option.bind (slices_IndexFunc_S_int_int s_ f) fun r0_1 => some (decide (0 ≤ r0_1))

noncomputable def impl_insOk_1 (r_ : Int) (c0_ : Code_) : Option (Bool) :=
  Option.bind (impl_within r_ 0 (w64 (c0_.regs - 1))) fun r0_1 => some r0_1

noncomputable def impl_isIns (op : Int) : Option (Bool) :=
  Option.bind (impl_within op 1 14) fun r0_1 => some r0_1

noncomputable def impl_insOk_2 (r_ : Int) (c0_0_ : Code_) : Option (Bool) :=
  Option.bind (impl_insOk_1 r_ c0_0_) fun r0_1 => some (!(r0_1))

noncomputable def impl_sets (op : Int) : Option (Bool) :=
  Option.bind (Option.bind (impl_isIns op) fun r1_1 => if r1_1 then if decide (op ≠ 12) then some (decide (op ≠ 13)) else some false else some false : Option (Bool)) fun s0_1 => some s0_1

noncomputable def impl_isByte (n_ : Int) : Option (Bool) :=
  Option.bind (impl_within n_ 0 255) fun r0_1 => some r0_1

noncomputable def impl_insArgs (op : Int) : Option (Int) :=
  if decide (op = 1) then some 0 else Option.bind (if decide (op = 2) then some true else Option.bind (if decide (op = 10) then some true else Option.bind (if decide (op = 11) then some true else some (decide (op = 13)) : Option (Bool)) fun s2_1 => some s2_1 : Option (Bool)) fun s1_1 => some s1_1 : Option (Bool)) fun s0_1 => if s0_1 then some 1 else some 2

noncomputable def impl_insOk (u : Unit_) (k_ : Int) (x_ : Ins_) : Option (Bool) :=
  Option.bind (getI u.codes k_) fun x0_1 => Option.bind (Option.bind (impl_isIns x_.op) fun r1_1 => if !(r1_1) then some true else Option.bind (slices_ContainsFunc_S_int_int x_.args (fun y0 => impl_insOk_2 y0 x0_1)) fun r1_2 => some r1_2 : Option (Bool)) fun s0_1 => if s0_1 then some false else Option.bind (Option.bind (impl_sets x_.op) fun r1_3 => if r1_3 then Option.bind (impl_insOk_1 x_.to x0_1) fun r1_4 => if !(r1_4) then some true else Option.bind (impl_sets x_.op) fun r1_5 => if !(r1_5) then some (decide (x_.to ≠ (-1))) else some false else Option.bind (impl_sets x_.op) fun r1_6 => if !(r1_6) then some (decide (x_.to ≠ (-1))) else some false : Option (Bool)) fun s0_2 => if s0_2 then some false else if decide (x_.op = 1) then Option.bind (if decide (((x_.args.length : Int)) = 0) then Option.bind (impl_isByte x_.n_) fun r1_7 => some r1_7 else some false : Option (Bool)) fun s0_3 => some s0_3 else if decide (x_.op = 14) then Option.bind (Option.bind (impl_within x_.n_ 0 (w64 (k_ - 1))) fun r1_8 => if r1_8 then Option.bind (getI u.codes x_.n_) fun x1_1 => some (decide (((x_.args.length : Int)) = x1_1.params)) else some false : Option (Bool)) fun s0_4 => some s0_4 else Option.bind (if decide (x_.n_ = 0) then Option.bind (impl_insArgs x_.op) fun r1_9 => some (decide (((x_.args.length : Int)) = r1_9)) else some false : Option (Bool)) fun s0_5 => some s0_5

noncomputable def impl_codeOk_3 (i_ : Ins_) (c0_ : Unit_) (c1_ : Int) : Option (Bool) :=
  Option.bind (impl_insOk c0_ c1_ i_) fun r0_1 => some (!(r0_1))

noncomputable def slices_IndexFunc_S_impl_Ins_impl_Ins (s_ : List Ins_) (f : Ins_ → Option Bool) : Option (Int) :=
  Option.bind (forN (S := Unit) (X := Int) (fun i1_1 xs1_1 => Option.bind (getI s_ i1_1) fun x1_1 => Option.bind (f x1_1) fun r1_1 => if r1_1 then some (.inr i1_1) else some (.inl ())) (((s_.length : Int) : Int) - 0).toNat 0 ()) (Sum.elim (fun xs0_1 => some (-1)) (fun e0 => some e0))

noncomputable def slices_ContainsFunc_S_impl_Ins_impl_Ins (s_ : List Ins_) (f : Ins_ → Option Bool) : Option (Bool) :=
  Option.bind (slices_IndexFunc_S_impl_Ins_impl_Ins s_ f) fun r0_1 => some (decide (0 ≤ r0_1))

noncomputable def slices_Index_S_int_int (s_ : List Int) (v_ : Int) : Option (Int) :=
  Option.bind (forN (S := Unit) (X := Int) (fun i1_1 xs1_1 => Option.bind (getI s_ i1_1) fun x1_1 => if decide (v_ = x1_1) then some (.inr i1_1) else some (.inl ())) (((s_.length : Int) : Int) - 0).toNat 0 ()) (Sum.elim (fun xs0_1 => some (-1)) (fun e0 => some e0))

noncomputable def slices_Contains_S_int_int (s_ : List Int) (v_ : Int) : Option (Bool) :=
  Option.bind (slices_Index_S_int_int s_ v_) fun r0_1 => some (decide (0 ≤ r0_1))

noncomputable def impl_PredsOf (c_ : Code_) (b_ : Int) : Option ((List Int)) :=
  Option.bind (impl_within b_ 0 (((c_.blocks.length : Int)) - 1)) fun r0_1 => if !(r0_1) then some [] else Option.bind (forN (S := (List Int)) (X := Empty) (fun i1_1 xs1_1 => Option.bind (Option.bind (getI c_.blocks i1_1) fun x2_1 => Option.bind (slices_Contains_S_int_int x2_1.next_ b_) fun r2_1 => Option.bind (if r2_1 then Option.bind (appM xs1_1 ([i1_1] : List Int)) fun ys3_1 => some ys3_1 else some xs1_1 : Option ((List Int))) fun s2_1 => some s2_1 : Option ((List Int))) fun s1_1 => some (.inl s1_1)) (((c_.blocks.length : Int) : Int) - 0).toNat 0 []) (Sum.elim (fun xs0_1 => some xs0_1) (fun (e0 : Empty) => nomatch e0))

noncomputable def impl_codeOk_4 (r_ : Int) (c0_0_ : Code_) : Option (Bool) :=
  Option.bind (impl_codeOk_1 r_ c0_0_) fun r0_1 => some (!(r0_1))

noncomputable def impl_codeOk (u : Unit_) (k_ : Int) : Option (Bool) :=
  Option.bind (getI u.codes k_) fun x0_1 => Option.bind (Option.bind (impl_within x0_1.regs 0 300) fun r1_1 => if !(r1_1) then some true else Option.bind (impl_within x0_1.params 0 (minI 3 x0_1.regs)) fun r1_2 => if !(r1_2) then some true else Option.bind (impl_within (x0_1.blocks.length : Int) 1 160) fun r1_3 => some (!(r1_3)) : Option (Bool)) fun s0_1 => if s0_1 then some false else Option.bind (forN (S := Unit) (X := Bool) (fun i1_1 xs1_1 => Option.bind (getI x0_1.blocks i1_1) fun x1_1 => Option.bind (Option.bind (impl_nextCount x1_1.jump) fun r2_1 => if decide (((x1_1.next_.length : Int)) ≠ r2_1) then some true else Option.bind (impl_usesOn x1_1.jump) fun r2_2 => if r2_2 then Option.bind (impl_codeOk_1 x1_1.on x0_1) fun r2_3 => if !(r2_3) then some true else Option.bind (impl_usesOn x1_1.jump) fun r2_4 => if !(r2_4) then some (decide (x1_1.on ≠ 0)) else some false else Option.bind (impl_usesOn x1_1.jump) fun r2_5 => if !(r2_5) then some (decide (x1_1.on ≠ 0)) else some false : Option (Bool)) fun s1_1 => if s1_1 then some (.inr false) else Option.bind (Option.bind (slices_ContainsFunc_S_int_int x1_1.next_ (fun y0 => impl_codeOk_2 y0 x0_1)) fun r2_6 => if r2_6 then some true else Option.bind (slices_ContainsFunc_S_impl_Ins_impl_Ins x1_1.ins (fun y0 => impl_codeOk_3 y0 u k_)) fun r2_7 => some r2_7 : Option (Bool)) fun s1_2 => if s1_2 then some (.inr false) else Option.bind (impl_PredsOf x0_1 i1_1) fun r1_4 => Option.bind (forN (S := Unit) (X := Bool) (fun i2_1 xs2_1 => Option.bind (getI x1_1.phis i2_1) fun x2_1 => Option.bind (if decide (i1_1 = 0) then some true else Option.bind (impl_codeOk_1 x2_1.to x0_1) fun r3_1 => if !(r3_1) then some true else if decide (((x2_1.args.length : Int)) ≠ ((r1_4.length : Int))) then some true else Option.bind (slices_ContainsFunc_S_int_int x2_1.args (fun y0 => impl_codeOk_4 y0 x0_1)) fun r3_2 => some r3_2 : Option (Bool)) fun s2_1 => if s2_1 then some (.inr false) else some (.inl ())) (((x1_1.phis.length : Int) : Int) - 0).toNat 0 ()) (Sum.elim (fun xs1_2 => some (.inl ())) (fun e0 => some (.inr e0)))) (((x0_1.blocks.length : Int) : Int) - 0).toNat 0 ()) (Sum.elim (fun xs0_1 => some true) (fun e0 => some e0))

noncomputable def impl_codeCount (c_ : Code_) : Option (Int) :=
  Option.bind (forN (S := Int) (X := Empty) (fun i1_1 xs1_1 => Option.bind (getI c_.blocks i1_1) fun x1_1 => some (.inl (w64 (xs1_1 + (((x1_1.phis.length : Int)) + ((x1_1.ins.length : Int))))))) (((c_.blocks.length : Int) : Int) - 0).toNat 0 0) (Sum.elim (fun xs0_1 => some xs0_1) (fun (e0 : Empty) => nomatch e0))

noncomputable def impl_UnitValid (u : Unit_) : Option (Bool) :=
  Option.bind (impl_within (u.codes.length : Int) 1 4) fun r0_1 => if !(r0_1) then some false else Option.bind (forN (S := Int) (X := Bool) (fun i1_1 xs1_1 => Option.bind (getI u.codes i1_1) fun x1_1 => Option.bind (impl_codeOk u i1_1) fun r1_1 => if !(r1_1) then some (.inr false) else Option.bind (impl_codeCount x1_1) fun r1_2 => some (.inl (w64 (xs1_1 + r1_2)))) (((u.codes.length : Int) : Int) - 0).toNat 0 0) (Sum.elim (fun xs0_1 => some (decide (xs0_1 ≤ 800))) (fun e0 => some e0))

noncomputable def impl_codeAt (u : Unit_) (k_ : Int) : Option (Bool) :=
  Option.bind (Option.bind (impl_UnitValid u) fun r1_1 => if r1_1 then Option.bind (impl_within k_ 0 (((u.codes.length : Int)) - 1)) fun r1_2 => some r1_2 else some false : Option (Bool)) fun s0_1 => some s0_1

noncomputable def impl_phiCount (c_ : Code_) : Option (Int) :=
  Option.bind (forN (S := Int) (X := Empty) (fun i1_1 xs1_1 => Option.bind (getI c_.blocks i1_1) fun x1_1 => some (.inl (w64 (xs1_1 + ((x1_1.phis.length : Int)))))) (((c_.blocks.length : Int) : Int) - 0).toNat 0 0) (Sum.elim (fun xs0_1 => some xs0_1) (fun (e0 : Empty) => nomatch e0))

noncomputable def impl_PhiCount (u : Unit_) : Option (Int) :=
  Option.bind (impl_UnitValid u) fun r0_1 => if !(r0_1) then some (-1) else Option.bind (forN (S := Int) (X := Empty) (fun i1_1 xs1_1 => Option.bind (getI u.codes i1_1) fun x1_1 => Option.bind (impl_phiCount x1_1) fun r1_1 => some (.inl (w64 (xs1_1 + r1_1)))) (((u.codes.length : Int) : Int) - 0).toNat 0 0) (Sum.elim (fun xs0_1 => some xs0_1) (fun (e0 : Empty) => nomatch e0))

noncomputable def impl_plainAt (u : Unit_) (k_ : Int) : Option (Bool) :=
  Option.bind (Option.bind (impl_codeAt u k_) fun r1_1 => if r1_1 then Option.bind (impl_PhiCount u) fun r1_2 => some (decide (r1_2 = 0)) else some false : Option (Bool)) fun s0_1 => some s0_1

noncomputable def impl_clashing_1 (a_ : Int) (b_ : Int) (c0_ : List (MapO Bool)) : Option ((List (MapO Bool))) :=
  Option.bind (if decide (a_ ≠ b_) then Option.bind (Option.bind (getI c0_ a_) fun x2_1 => Option.bind (getI c0_ b_) fun x2_2 => Option.bind (MapO.get x2_1) fun pb2_1 => Option.bind (getI (c0_.set (a_).toNat (MapO.of (MapS.ins pb2_1 b_ true))) b_) fun pb2_2 => Option.bind (MapO.get pb2_2) fun pb2_3 => some ((c0_.set (a_).toNat (MapO.of (MapS.ins pb2_1 b_ true))).set (b_).toNat (MapO.of (MapS.ins pb2_3 a_ true))) : Option ((List (MapO Bool)))) fun s1_1 => some s1_1 else some c0_ : Option ((List (MapO Bool)))) fun s0_1 => some s0_1

noncomputable def slices_Clone_S_int_int (s_ : List Int) : Option ((List Int)) :=
  Option.bind (appM ([] : List Int) s_) fun ys0_1 => some ys0_1

noncomputable def impl_once (list : List Int) : Option ((List Int)) :=
  Option.bind (slices_Clone_S_int_int list) fun r0_1 => some (Lib.compact (sortI r0_1))

noncomputable def pimpl_live__outs (l_ : live) (b_ : Int) : Option ((MapS Bool)) :=
  Option.bind (getI l_.c.blocks b_) fun x0_1 => Option.bind (impl_once x0_1.next_) fun r0_1 => Option.bind (forN (S := (MapS Bool)) (X := Empty) (fun i1_1 xs1_1 => Option.bind (getI r0_1 i1_1) fun x1_1 => Option.bind (getI l_.ins x1_1) fun x1_2 => Option.bind (Option.bind (rangeM (fun (p3_1 : Int × Bool) (xs3_1 : (MapS Bool)) => some (MapS.ins xs3_1 p3_1.1 true)) (x1_2 : MapS Bool).es xs1_1) (fun xs2_1 => some xs2_1) : Option ((MapS Bool))) fun s1_1 => Option.bind (getI l_.preds x1_1) fun x1_3 => Option.bind (slices_Index_S_int_int x1_3 b_) fun r1_1 => Option.bind (getI l_.c.blocks x1_1) fun x1_4 => Option.bind (forN (S := (MapS Bool)) (X := Empty) (fun i2_1 xs2_2 => Option.bind (getI x1_4.phis i2_1) fun x2_1 => Option.bind (getI x2_1.args r1_1) fun x2_2 => some (.inl (MapS.ins xs2_2 x2_2 true))) (((x1_4.phis.length : Int) : Int) - 0).toNat 0 s1_1) (Sum.elim (fun xs1_2 => some (.inl xs1_2)) (fun (e0 : Empty) => nomatch e0))) (((r0_1.length : Int) : Int) - 0).toNat 0 (MapS.mk0 : MapS Bool)) (Sum.elim (fun xs0_1 => some xs0_1) (fun (e0 : Empty) => nomatch e0))

noncomputable def impl_MadeBy (x_ : Ins_) : Option (Int) :=
  Option.bind (impl_sets x_.op) fun r0_1 => if !(r0_1) then some (-1) else some x_.to

noncomputable def impl_regSet__with (s_ : MapS Bool) (list : List Int) : Option ((MapS Bool)) :=
  Option.bind (forN (S := (MapS Bool)) (X := Empty) (fun i1_1 xs1_1 => Option.bind (getI list i1_1) fun x1_1 => some (.inl (MapS.ins xs1_1 x1_1 true))) (((list.length : Int) : Int) - 0).toNat 0 s_) (Sum.elim (fun xs0_1 => some xs0_1) (fun (e0 : Empty) => nomatch e0))

noncomputable def pimpl_live__behind (l_ : live) (b_ : Int) (i_ : Int) : Option ((MapS Bool)) :=
  Option.bind (pimpl_live__outs l_ b_) fun r0_1 => Option.bind (getI l_.c.blocks b_) fun x0_1 => Option.bind (impl_usesOn x0_1.jump) fun r0_2 => Option.bind (if r0_2 then some (MapS.ins r0_1 x0_1.on true) else some r0_1 : Option ((MapS Bool))) fun s0_1 => Option.bind (Option.bind (loopM (S := (MapS Bool) × Int) (X := (MapS Bool)) (fun xs2_1 => if decide (i_ < xs2_1.2) then Option.bind (getI x0_1.ins xs2_1.2) fun x2_1 => Option.bind (impl_MadeBy x2_1) fun r2_1 => Option.bind (if decide (0 ≤ r2_1) then some (MapS.del xs2_1.1 r2_1) else some xs2_1.1 : Option ((MapS Bool))) fun s2_1 => Option.bind (impl_regSet__with s2_1 x2_1.args) fun r2_2 => some (.inl (r2_2, w64 (xs2_1.2 - 1))) else some (.inr xs2_1.1)) (s0_1, ((x0_1.ins.length : Int)) - 1)) (fun e0 => some e0) : Option ((MapS Bool))) fun s0_2 => some s0_2

noncomputable def impl_liveOf (c_ : Code_) : Option (live) :=
  Option.bind (makeM ((MapS.mk0 : MapS Bool) : MapS Bool) (c_.blocks.length : Int)) fun ys0_1 => Option.bind (forN (S := (List (List Int))) (X := Empty) (fun i1_1 xs1_1 => Option.bind (impl_PredsOf c_ i1_1) fun r1_1 => Option.bind (appM xs1_1 ([r1_1] : List (List Int))) fun ys1_1 => some (.inl ys1_1)) (((c_.blocks.length : Int) : Int) - 0).toNat 0 []) (Sum.elim (fun xs0_1 => Option.bind (Option.bind (loopM (S := (List (MapS Bool)) × Bool) (X := (List (MapS Bool))) (fun xs2_1 => if xs2_1.2 then Option.bind (Option.bind (loopM (S := (List (MapS Bool)) × Bool × Int) (X := (List (MapS Bool)) × Bool) (fun xs4_1 => if decide (0 ≤ xs4_1.2.2) then Option.bind (Option.bind (pimpl_live__behind (⟨c_, xs4_1.1, xs0_1⟩ : live) xs4_1.2.2 (-1)) fun r5_1 => Option.bind (getI c_.blocks xs4_1.2.2) fun x5_1 => Option.bind (forN (S := (MapS Bool)) (X := Empty) (fun i6_1 xs6_1 => Option.bind (getI x5_1.phis i6_1) fun x6_1 => some (.inl (MapS.del xs6_1 x6_1.to))) (((x5_1.phis.length : Int) : Int) - 0).toNat 0 r5_1) (Sum.elim (fun xs5_1 => Option.bind (getI xs4_1.1 xs4_1.2.2) fun x5_2 => Option.bind (if decide (((MapS.len xs5_1)) ≠ ((MapS.len x5_2))) then some ((xs4_1.1.set (xs4_1.2.2).toNat xs5_1), true) else some (xs4_1.1, xs4_1.2.1) : Option ((List (MapS Bool)) × Bool)) fun s5_1 => some (s5_1.1, s5_1.2)) (fun (e0 : Empty) => nomatch e0)) : Option ((List (MapS Bool)) × Bool)) fun s4_1 => some (.inl (s4_1.1, s4_1.2, w64 (xs4_1.2.2 - 1))) else some (.inr (xs4_1.1, xs4_1.2.1))) (xs2_1.1, false, ((c_.blocks.length : Int)) - 1)) (fun e0 => some e0) : Option ((List (MapS Bool)) × Bool)) fun s2_1 => some (.inl (s2_1.1, s2_1.2)) else some (.inr xs2_1.1)) (ys0_1, true)) (fun e0 => some e0) : Option ((List (MapS Bool)))) fun s0_1 => some (⟨c_, s0_1, xs0_1⟩ : live)) (fun (e0 : Empty) => nomatch e0))

noncomputable def impl_clashing (c_ : Code_) : Option ((List (MapS Bool))) :=
  Option.bind (makeM ((MapO.nil : MapO Bool) : MapO Bool) c_.regs) fun ys0_1 => Option.bind (forN (S := (List (MapO Bool))) (X := Empty) (fun i1_1 xs1_1 => Option.bind (getI xs1_1 i1_1) fun x1_1 => some (.inl (xs1_1.set (i1_1).toNat (MapO.of (MapS.mk0 : MapS Bool))))) (((ys0_1.length : Int) : Int) - 0).toNat 0 ys0_1) (Sum.elim (fun xs0_1 => Option.bind (impl_liveOf c_) fun r0_2 => Option.bind (getI r0_2.ins 0) fun x0_1 => Option.bind (Option.bind (rangeM (fun (p2_1 : Int × Bool) (xs2_1 : (List (MapO Bool))) => Option.bind (Option.bind (rangeM (fun (p4_1 : Int × Bool) (xs4_1 : (List (MapO Bool))) => Option.bind (Option.bind (if decide (p2_1.1 < c_.params) then Option.bind (impl_clashing_1 p2_1.1 p4_1.1 xs4_1) fun r6_1 => some r6_1 else some xs4_1 : Option ((List (MapO Bool)))) fun s5_1 => some s5_1 : Option ((List (MapO Bool)))) fun s4_2 => some s4_2) (x0_1 : MapS Bool).es xs2_1) (fun xs3_1 => some xs3_1) : Option ((List (MapO Bool)))) fun s2_2 => some s2_2) (x0_1 : MapS Bool).es xs0_1) (fun xs1_2 => some xs1_2) : Option ((List (MapO Bool)))) fun s0_1 => Option.bind (forN (S := (List (MapO Bool))) (X := Empty) (fun i1_2 xs1_3 => Option.bind (getI c_.blocks i1_2) fun x1_2 => Option.bind (forN (S := (List (MapO Bool))) (X := Empty) (fun i2_1 xs2_2 => Option.bind (Option.bind (getI x1_2.ins i2_1) fun x3_1 => Option.bind (impl_MadeBy x3_1) fun r3_1 => if decide (r3_1 < 0) then some xs2_2 else Option.bind (pimpl_live__behind r0_2 i1_2 i2_1) fun r3_2 => Option.bind (Option.bind (rangeM (fun (p5_1 : Int × Bool) (xs5_1 : (List (MapO Bool))) => Option.bind (Option.bind (if decide (x3_1.op ≠ 2) then some true else Option.bind (getI x3_1.args 0) fun x7_1 => some (decide (x7_1 ≠ p5_1.1)) : Option (Bool)) fun s6_1 => Option.bind (if s6_1 then Option.bind (impl_clashing_1 r3_1 p5_1.1 xs5_1) fun r7_1 => some r7_1 else some xs5_1 : Option ((List (MapO Bool)))) fun s6_2 => some s6_2 : Option ((List (MapO Bool)))) fun s5_3 => some s5_3) (r3_2 : MapS Bool).es xs2_2) (fun xs4_2 => some xs4_2) : Option ((List (MapO Bool)))) fun s3_1 => some s3_1 : Option ((List (MapO Bool)))) fun s2_3 => some (.inl s2_3)) (((x1_2.ins.length : Int) : Int) - 0).toNat 0 xs1_3) (Sum.elim (fun xs1_4 => some (.inl xs1_4)) (fun (e0 : Empty) => nomatch e0))) (((c_.blocks.length : Int) : Int) - 0).toNat 0 s0_1) (Sum.elim (fun xs0_2 => some (List.map MapO.toS xs0_2)) (fun (e0 : Empty) => nomatch e0))) (fun (e0 : Empty) => nomatch e0))

def impl_sortedKeys_bool (m : MapS Bool) : Option (List Int) := appM [] (MapS.keys m)

noncomputable def impl_Clashes (u : Unit_) (k_ : Int) : Option ((List (List Int))) :=
  Option.bind (impl_plainAt u k_) fun r0_1 => if !(r0_1) then some [] else Option.bind (getI u.codes k_) fun x0_1 => Option.bind (impl_clashing x0_1) fun r0_2 => Option.bind (forN (S := (List (List Int))) (X := Empty) (fun i1_1 xs1_1 => Option.bind (getI r0_2 i1_1) fun x1_1 => Option.bind (impl_sortedKeys_bool x1_1) fun r1_1 => Option.bind (forN (S := (List (List Int))) (X := Empty) (fun i2_1 xs2_1 => Option.bind (Option.bind (getI r1_1 i2_1) fun x3_1 => Option.bind (if decide (i1_1 < x3_1) then Option.bind (appM xs2_1 ([([i1_1, x3_1] : List Int)] : List (List Int))) fun ys4_1 => some ys4_1 else some xs2_1 : Option ((List (List Int)))) fun s3_1 => some s3_1 : Option ((List (List Int)))) fun s2_1 => some (.inl s2_1)) (((r1_1.length : Int) : Int) - 0).toNat 0 xs1_1) (Sum.elim (fun xs1_2 => some (.inl xs1_2)) (fun (e0 : Empty) => nomatch e0))) (((r0_2.length : Int) : Int) - 0).toNat 0 []) (Sum.elim (fun xs0_1 => some xs0_1) (fun (e0 : Empty) => nomatch e0))

noncomputable def laws_eqIntS (a_ : List Int) (b_ : List Int) : Option (Bool) :=
  if decide (((a_.length : Int)) ≠ ((b_.length : Int))) then some false else Option.bind (forN (S := Unit) (X := Bool) (fun i1_1 xs1_1 => Option.bind (getI a_ i1_1) fun x1_1 => Option.bind (getI b_ i1_1) fun x1_2 => if decide (x1_1 ≠ x1_2) then some (.inr false) else some (.inl ())) (((a_.length : Int) : Int) - 0).toNat 0 ()) (Sum.elim (fun xs0_1 => some true) (fun e0 => some e0))

noncomputable def laws_eqIntSS (a_ : List (List Int)) (b_ : List (List Int)) : Option (Bool) :=
  if decide (((a_.length : Int)) ≠ ((b_.length : Int))) then some false else Option.bind (forN (S := Unit) (X := Bool) (fun i1_1 xs1_1 => Option.bind (getI a_ i1_1) fun x1_1 => Option.bind (getI b_ i1_1) fun x1_2 => Option.bind (laws_eqIntS x1_1 x1_2) fun r1_1 => if !(r1_1) then some (.inr false) else some (.inl ())) (((a_.length : Int) : Int) - 0).toNat 0 ()) (Sum.elim (fun xs0_1 => some true) (fun e0 => some e0))

noncomputable def laws_eqPhi (a_ : Phi_) (b_ : Phi_) : Option (Bool) :=
  if decide (a_.to ≠ b_.to) then some false else Option.bind (laws_eqIntS a_.args b_.args) fun r0_1 => if !(r0_1) then some false else some true

noncomputable def laws_eqPhiS (a_ : List Phi_) (b_ : List Phi_) : Option (Bool) :=
  if decide (((a_.length : Int)) ≠ ((b_.length : Int))) then some false else Option.bind (forN (S := Unit) (X := Bool) (fun i1_1 xs1_1 => Option.bind (getI a_ i1_1) fun x1_1 => Option.bind (getI b_ i1_1) fun x1_2 => Option.bind (laws_eqPhi x1_1 x1_2) fun r1_1 => if !(r1_1) then some (.inr false) else some (.inl ())) (((a_.length : Int) : Int) - 0).toNat 0 ()) (Sum.elim (fun xs0_1 => some true) (fun e0 => some e0))

noncomputable def laws_eqIns (a_ : Ins_) (b_ : Ins_) : Option (Bool) :=
  if decide (a_.op ≠ b_.op) then some false else if decide (a_.to ≠ b_.to) then some false else Option.bind (laws_eqIntS a_.args b_.args) fun r0_1 => if !(r0_1) then some false else if decide (a_.n_ ≠ b_.n_) then some false else some true

noncomputable def laws_eqInsS (a_ : List Ins_) (b_ : List Ins_) : Option (Bool) :=
  if decide (((a_.length : Int)) ≠ ((b_.length : Int))) then some false else Option.bind (forN (S := Unit) (X := Bool) (fun i1_1 xs1_1 => Option.bind (getI a_ i1_1) fun x1_1 => Option.bind (getI b_ i1_1) fun x1_2 => Option.bind (laws_eqIns x1_1 x1_2) fun r1_1 => if !(r1_1) then some (.inr false) else some (.inl ())) (((a_.length : Int) : Int) - 0).toNat 0 ()) (Sum.elim (fun xs0_1 => some true) (fun e0 => some e0))

noncomputable def laws_eqBlock (a_ : Block_) (b_ : Block_) : Option (Bool) :=
  Option.bind (laws_eqPhiS a_.phis b_.phis) fun r0_1 => if !(r0_1) then some false else Option.bind (laws_eqInsS a_.ins b_.ins) fun r0_2 => if !(r0_2) then some false else if decide (a_.jump ≠ b_.jump) then some false else if decide (a_.on ≠ b_.on) then some false else Option.bind (laws_eqIntS a_.next_ b_.next_) fun r0_3 => if !(r0_3) then some false else some true

noncomputable def laws_eqBlockS (a_ : List Block_) (b_ : List Block_) : Option (Bool) :=
  if decide (((a_.length : Int)) ≠ ((b_.length : Int))) then some false else Option.bind (forN (S := Unit) (X := Bool) (fun i1_1 xs1_1 => Option.bind (getI a_ i1_1) fun x1_1 => Option.bind (getI b_ i1_1) fun x1_2 => Option.bind (laws_eqBlock x1_1 x1_2) fun r1_1 => if !(r1_1) then some (.inr false) else some (.inl ())) (((a_.length : Int) : Int) - 0).toNat 0 ()) (Sum.elim (fun xs0_1 => some true) (fun e0 => some e0))

noncomputable def laws_eqCode (a_ : Code_) (b_ : Code_) : Option (Bool) :=
  if decide (a_.params ≠ b_.params) then some false else if decide (a_.regs ≠ b_.regs) then some false else Option.bind (laws_eqBlockS a_.blocks b_.blocks) fun r0_1 => if !(r0_1) then some false else some true

noncomputable def laws_eqCodeS (a_ : List Code_) (b_ : List Code_) : Option (Bool) :=
  if decide (((a_.length : Int)) ≠ ((b_.length : Int))) then some false else Option.bind (forN (S := Unit) (X := Bool) (fun i1_1 xs1_1 => Option.bind (getI a_ i1_1) fun x1_1 => Option.bind (getI b_ i1_1) fun x1_2 => Option.bind (laws_eqCode x1_1 x1_2) fun r1_1 => if !(r1_1) then some (.inr false) else some (.inl ())) (((a_.length : Int) : Int) - 0).toNat 0 ()) (Sum.elim (fun xs0_1 => some true) (fun e0 => some e0))

noncomputable def laws_eqUnit (a_ : Unit_) (b_ : Unit_) : Option (Bool) :=
  Option.bind (laws_eqCodeS a_.codes b_.codes) fun r0_1 => if !(r0_1) then some false else some true

noncomputable def laws_markIntS (a_ : List Int) (k_ : Int) : Option (Int × (List Int)) :=
  Option.bind (forN (S := (List Int) × Int) (X := Empty) (fun i1_1 xs1_1 => Option.bind (getI xs1_1.1 i1_1) fun x1_1 => some (.inl ((xs1_1.1.set (i1_1).toNat xs1_1.2), w64 (xs1_1.2 + 1)))) (((a_.length : Int) : Int) - 0).toNat 0 (a_, k_)) (Sum.elim (fun xs0_1 => some (xs0_1.2, xs0_1.1)) (fun (e0 : Empty) => nomatch e0))

noncomputable def laws_markPhiS (a_ : List Phi_) (k_ : Int) : Option (Int × (List Phi_)) :=
  Option.bind (forN (S := (List Phi_) × Int) (X := Empty) (fun i1_1 xs1_1 => Option.bind (getI xs1_1.1 i1_1) fun x1_1 => Option.bind (laws_markIntS x1_1.args (w64 (xs1_1.2 + 1))) fun r1_1 => some (.inl (((xs1_1.1.set (i1_1).toNat (⟨xs1_1.2, x1_1.args⟩ : Phi_)).set (i1_1).toNat (⟨xs1_1.2, r1_1.2⟩ : Phi_)), r1_1.1))) (((a_.length : Int) : Int) - 0).toNat 0 (a_, k_)) (Sum.elim (fun xs0_1 => some (xs0_1.2, xs0_1.1)) (fun (e0 : Empty) => nomatch e0))

noncomputable def laws_markInsS (a_ : List Ins_) (k_ : Int) : Option (Int × (List Ins_)) :=
  Option.bind (forN (S := (List Ins_) × Int) (X := Empty) (fun i1_1 xs1_1 => Option.bind (getI xs1_1.1 i1_1) fun x1_1 => Option.bind (laws_markIntS x1_1.args (w64 ((w64 (xs1_1.2 + 1)) + 1))) fun r1_1 => Option.bind (getI (((xs1_1.1.set (i1_1).toNat (⟨xs1_1.2, x1_1.to, x1_1.args, x1_1.n_⟩ : Ins_)).set (i1_1).toNat (⟨xs1_1.2, w64 (xs1_1.2 + 1), x1_1.args, x1_1.n_⟩ : Ins_)).set (i1_1).toNat (⟨xs1_1.2, w64 (xs1_1.2 + 1), r1_1.2, x1_1.n_⟩ : Ins_)) i1_1) fun x1_2 => some (.inl (((((xs1_1.1.set (i1_1).toNat (⟨xs1_1.2, x1_1.to, x1_1.args, x1_1.n_⟩ : Ins_)).set (i1_1).toNat (⟨xs1_1.2, w64 (xs1_1.2 + 1), x1_1.args, x1_1.n_⟩ : Ins_)).set (i1_1).toNat (⟨xs1_1.2, w64 (xs1_1.2 + 1), r1_1.2, x1_1.n_⟩ : Ins_)).set (i1_1).toNat (⟨x1_2.op, x1_2.to, x1_2.args, r1_1.1⟩ : Ins_)), w64 (r1_1.1 + 1)))) (((a_.length : Int) : Int) - 0).toNat 0 (a_, k_)) (Sum.elim (fun xs0_1 => some (xs0_1.2, xs0_1.1)) (fun (e0 : Empty) => nomatch e0))

noncomputable def laws_markBlockS (a_ : List Block_) (k_ : Int) : Option (Int × (List Block_)) :=
  Option.bind (forN (S := (List Block_) × Int) (X := Empty) (fun i1_1 xs1_1 => Option.bind (getI xs1_1.1 i1_1) fun x1_1 => Option.bind (laws_markPhiS x1_1.phis xs1_1.2) fun r1_1 => Option.bind (getI (xs1_1.1.set (i1_1).toNat (⟨r1_1.2, x1_1.ins, x1_1.jump, x1_1.on, x1_1.next_⟩ : Block_)) i1_1) fun x1_2 => Option.bind (laws_markInsS x1_2.ins r1_1.1) fun r1_2 => Option.bind (getI ((xs1_1.1.set (i1_1).toNat (⟨r1_1.2, x1_1.ins, x1_1.jump, x1_1.on, x1_1.next_⟩ : Block_)).set (i1_1).toNat (⟨x1_2.phis, r1_2.2, x1_2.jump, x1_2.on, x1_2.next_⟩ : Block_)) i1_1) fun x1_3 => Option.bind (laws_markIntS x1_3.next_ (w64 ((w64 (r1_2.1 + 1)) + 1))) fun r1_3 => some (.inl ((((((xs1_1.1.set (i1_1).toNat (⟨r1_1.2, x1_1.ins, x1_1.jump, x1_1.on, x1_1.next_⟩ : Block_)).set (i1_1).toNat (⟨x1_2.phis, r1_2.2, x1_2.jump, x1_2.on, x1_2.next_⟩ : Block_)).set (i1_1).toNat (⟨x1_3.phis, x1_3.ins, r1_2.1, x1_3.on, x1_3.next_⟩ : Block_)).set (i1_1).toNat (⟨x1_3.phis, x1_3.ins, r1_2.1, w64 (r1_2.1 + 1), x1_3.next_⟩ : Block_)).set (i1_1).toNat (⟨x1_3.phis, x1_3.ins, r1_2.1, w64 (r1_2.1 + 1), r1_3.2⟩ : Block_)), r1_3.1))) (((a_.length : Int) : Int) - 0).toNat 0 (a_, k_)) (Sum.elim (fun xs0_1 => some (xs0_1.2, xs0_1.1)) (fun (e0 : Empty) => nomatch e0))

noncomputable def laws_markCodeS (a_ : List Code_) (k_ : Int) : Option (Int × (List Code_)) :=
  Option.bind (forN (S := (List Code_) × Int) (X := Empty) (fun i1_1 xs1_1 => Option.bind (getI xs1_1.1 i1_1) fun x1_1 => Option.bind (laws_markBlockS x1_1.blocks (w64 ((w64 (xs1_1.2 + 1)) + 1))) fun r1_1 => some (.inl ((((xs1_1.1.set (i1_1).toNat (⟨xs1_1.2, x1_1.regs, x1_1.blocks⟩ : Code_)).set (i1_1).toNat (⟨xs1_1.2, w64 (xs1_1.2 + 1), x1_1.blocks⟩ : Code_)).set (i1_1).toNat (⟨xs1_1.2, w64 (xs1_1.2 + 1), r1_1.2⟩ : Code_)), r1_1.1))) (((a_.length : Int) : Int) - 0).toNat 0 (a_, k_)) (Sum.elim (fun xs0_1 => some (xs0_1.2, xs0_1.1)) (fun (e0 : Empty) => nomatch e0))

noncomputable def laws_markUnit (a_ : Unit_) (k_ : Int) : Option (Int × (List Code_)) :=
  Option.bind (laws_markCodeS a_.codes k_) fun r0_1 => some (r0_1.1, r0_1.2)

noncomputable def laws_markIntSS (a_ : List (List Int)) (k_ : Int) : Option (Int × (List (List Int))) :=
  Option.bind (forN (S := (List (List Int)) × Int) (X := Empty) (fun i1_1 xs1_1 => Option.bind (getI xs1_1.1 i1_1) fun x1_1 => Option.bind (laws_markIntS x1_1 xs1_1.2) fun r1_1 => some (.inl ((xs1_1.1.set (i1_1).toNat r1_1.2), r1_1.1))) (((a_.length : Int) : Int) - 0).toNat 0 (a_, k_)) (Sum.elim (fun xs0_1 => some (xs0_1.2, xs0_1.1)) (fun (e0 : Empty) => nomatch e0))

noncomputable def laws_heldIntS (a_ : List Int) (k_ : Int) : Option (Int) :=
  Option.bind (forN (S := Int) (X := Int) (fun i1_1 xs1_1 => Option.bind (getI a_ i1_1) fun x1_1 => if decide (x1_1 ≠ xs1_1) then some (.inr (-1)) else some (.inl (w64 (xs1_1 + 1)))) (((a_.length : Int) : Int) - 0).toNat 0 k_) (Sum.elim (fun xs0_1 => some xs0_1) (fun e0 => some e0))

noncomputable def laws_heldIntSS (a_ : List (List Int)) (k_ : Int) : Option (Int) :=
  Option.bind (forN (S := Int) (X := Int) (fun i1_1 xs1_1 => Option.bind (getI a_ i1_1) fun x1_1 => Option.bind (laws_heldIntS x1_1 xs1_1) fun r1_1 => if decide (r1_1 < 0) then some (.inr (-1)) else some (.inl r1_1)) (((a_.length : Int) : Int) - 0).toNat 0 k_) (Sum.elim (fun xs0_1 => some xs0_1) (fun e0 => some e0))

noncomputable def laws_FnExactClashes (aU : Unit_) (aK : Int) : Option (Bool) :=
  Option.bind (laws_szUnit aU 1048576) fun r0_1 => if decide (r0_1 < 0) then some true else Option.bind (laws_toUnit aU) fun r0_2 => Option.bind (spec_Clashes r0_2 aK) fun r0_3 => Option.bind (laws_toUnit aU) fun r0_4 => Option.bind (impl_Clashes r0_4 aK) fun r0_5 => Option.bind (laws_eqIntSS r0_5 r0_3) fun r0_6 => if !(r0_6) then some false else Option.bind (laws_toUnit aU) fun r0_7 => Option.bind (laws_eqUnit r0_4 r0_7) fun r0_8 => if !(r0_8) then some false else Option.bind (laws_markUnit r0_4 1) fun r0_9 => Option.bind (if decide (r0_9.1 < 0) then some true else Option.bind (laws_eqIntSS r0_5 r0_3) fun r1_1 => some (!(r1_1)) : Option (Bool)) fun s0_1 => if s0_1 then some false else Option.bind (laws_markIntSS r0_5 1) fun r0_10 => Option.bind (laws_heldIntSS r0_10.2 1) fun r0_11 => if decide (r0_11 < 0) then some false else if decide (r0_11 ≠ r0_10.1) then some false else Option.bind (laws_toUnit aU) fun r0_12 => Option.bind (impl_Clashes r0_12 aK) fun r0_13 => Option.bind (laws_eqIntSS r0_13 r0_3) fun r0_14 => if !(r0_14) then some false else Option.bind (laws_heldIntSS r0_10.2 1) fun r0_15 => if decide (r0_15 < 0) then some false else if decide (r0_15 ≠ r0_10.1) then some false else some true

noncomputable def spec_IsColouring (u : Unit_) (k_ : Int) (list : List Int) : Option (Bool) :=
  Option.bind (Option.bind (spec_l21Flat u k_) fun r1_1 => if !(r1_1) then some true else Option.bind (getI u.codes k_) fun x1_1 => some (decide (((list.length : Int)) ≠ x1_1.regs)) : Option (Bool)) fun s0_1 => if s0_1 then some false else Option.bind (forN (S := Unit) (X := Bool) (fun i1_1 xs1_1 => Option.bind (getI list i1_1) fun x1_2 => if decide (x1_2 < 0) then some (.inr false) else some (.inl ())) (((list.length : Int) : Int) - 0).toNat 0 ()) (Sum.elim (fun xs0_1 => Option.bind (spec_Clashes u k_) fun r0_2 => Option.bind (forN (S := Unit) (X := Bool) (fun i1_2 xs1_2 => Option.bind (getI r0_2 i1_2) fun x1_3 => Option.bind (Option.bind (getI x1_3 0) fun pb2_1 => Option.bind (getI list pb2_1) fun pb2_2 => Option.bind (getI x1_3 1) fun pb2_3 => Option.bind (getI list pb2_3) fun pb2_4 => some (decide (pb2_2 = pb2_4)) : Option (Bool)) fun s1_1 => if s1_1 then some (.inr false) else some (.inl ())) (((r0_2.length : Int) : Int) - 0).toNat 0 ()) (Sum.elim (fun xs0_2 => some true) (fun e0 => some e0))) (fun e0 => some e0))

noncomputable def impl_IsColouring_1 (n_ : Int) : Option (Bool) :=
  some (decide (n_ < 0))

noncomputable def impl_IsColouring_2 (p_ : List Int) (c0_ : List Int) : Option (Bool) :=
  Option.bind (getI p_ 0) fun x0_1 => Option.bind (getI p_ 1) fun x0_2 => Option.bind (getI c0_ x0_1) fun x0_3 => Option.bind (getI c0_ x0_2) fun x0_4 => some (decide (x0_3 = x0_4))

noncomputable def slices_IndexFunc_S_S_int_S_int (s_ : List (List Int)) (f : (List Int) → Option Bool) : Option (Int) :=
  Option.bind (forN (S := Unit) (X := Int) (fun i1_1 xs1_1 => Option.bind (getI s_ i1_1) fun x1_1 => Option.bind (f x1_1) fun r1_1 => if r1_1 then some (.inr i1_1) else some (.inl ())) (((s_.length : Int) : Int) - 0).toNat 0 ()) (Sum.elim (fun xs0_1 => some (-1)) (fun e0 => some e0))

noncomputable def slices_ContainsFunc_S_S_int_S_int (s_ : List (List Int)) (f : (List Int) → Option Bool) : Option (Bool) :=
  Option.bind (slices_IndexFunc_S_S_int_S_int s_ f) fun r0_1 => some (decide (0 ≤ r0_1))

noncomputable def impl_IsColouring (u : Unit_) (k_ : Int) (list : List Int) : Option (Bool) :=
  Option.bind (Option.bind (impl_plainAt u k_) fun r1_1 => if !(r1_1) then some true else Option.bind (getI u.codes k_) fun x1_1 => if decide (((list.length : Int)) ≠ x1_1.regs) then some true else Option.bind (slices_ContainsFunc_S_int_int list (fun y0 => impl_IsColouring_1 y0)) fun r1_2 => some r1_2 : Option (Bool)) fun s0_1 => if s0_1 then some false else Option.bind (impl_Clashes u k_) fun r0_1 => Option.bind (slices_ContainsFunc_S_S_int_S_int r0_1 (fun y0 => impl_IsColouring_2 y0 list)) fun r0_2 => some (!(r0_2))

noncomputable def laws_FnExactIsColouring (aU : Unit_) (aK : Int) (aList : List Int) : Option (Bool) :=
  if decide (1048576 < ((aList.length : Int))) then some true else Option.bind (laws_szUnit aU 1048576) fun r0_1 => if decide (r0_1 < 0) then some true else Option.bind (laws_toUnit aU) fun r0_2 => Option.bind (laws_toIntS aList) fun r0_3 => Option.bind (spec_IsColouring r0_2 aK r0_3) fun r0_4 => Option.bind (laws_toUnit aU) fun r0_5 => Option.bind (laws_toIntS aList) fun r0_6 => Option.bind (impl_IsColouring r0_5 aK r0_6) fun r0_7 => if decide (r0_7 ≠ r0_4) then some false else Option.bind (laws_toUnit aU) fun r0_8 => Option.bind (laws_eqUnit r0_5 r0_8) fun r0_9 => if !(r0_9) then some false else Option.bind (laws_toIntS aList) fun r0_10 => Option.bind (laws_eqIntS r0_6 r0_10) fun r0_11 => if !(r0_11) then some false else some true

end Go.Wk
