/- A part of the proof of FnExactSplitEdgesSaid. -/
import Derived.Test.YtpllkdbmgcmklaaGreatSeTypes
namespace Go.Wk
open Go

noncomputable def laws_szIntS (a_ : List Int) (left : Int) : Option (Int) :=
  if decide ((w64 (left - ((a_.length : Int)))) < 0) then some (-1) else some (w64 (left - ((a_.length : Int))))

noncomputable def laws_szPhi (a_ : Phi_) (left : Int) : Option (Int) :=
  Option.bind (laws_szIntS a_.args left) fun r0_1 => if decide (r0_1 < 0) then some (-1) else some r0_1

noncomputable def laws_szPhiS (a_ : List Phi_) (left : Int) : Option (Int) :=
  if decide ((w64 (left - ((a_.length : Int)))) < 0) then some (-1) else Option.bind (forN (S := Int) (X := Int) (fun i1_1 xs1_1 => Option.bind (getI a_ i1_1) fun x1_1 => Option.bind (laws_szPhi x1_1 xs1_1) fun r1_1 => if decide (r1_1 < 0) then some (.inr (-1)) else some (.inl r1_1)) (((a_.length : Int) : Int) - 0).toNat 0 (w64 (left - ((a_.length : Int))))) (Sum.elim (fun xs0_1 => some xs0_1) (fun e0 => some e0))

noncomputable def laws_szIns (a_ : Ins_) (left : Int) : Option (Int) :=
  Option.bind (laws_szIntS a_.args left) fun r0_1 => if decide (r0_1 < 0) then some (-1) else some r0_1

noncomputable def laws_szInsS (a_ : List Ins_) (left : Int) : Option (Int) :=
  if decide ((w64 (left - ((a_.length : Int)))) < 0) then some (-1) else Option.bind (forN (S := Int) (X := Int) (fun i1_1 xs1_1 => Option.bind (getI a_ i1_1) fun x1_1 => Option.bind (laws_szIns x1_1 xs1_1) fun r1_1 => if decide (r1_1 < 0) then some (.inr (-1)) else some (.inl r1_1)) (((a_.length : Int) : Int) - 0).toNat 0 (w64 (left - ((a_.length : Int))))) (Sum.elim (fun xs0_1 => some xs0_1) (fun e0 => some e0))

noncomputable def laws_szBlock (a_ : Block_) (left : Int) : Option (Int) :=
  Option.bind (laws_szPhiS a_.phis left) fun r0_1 => if decide (r0_1 < 0) then some (-1) else Option.bind (laws_szInsS a_.ins r0_1) fun r0_2 => if decide (r0_2 < 0) then some (-1) else Option.bind (laws_szIntS a_.next_ r0_2) fun r0_3 => if decide (r0_3 < 0) then some (-1) else some r0_3

noncomputable def laws_szBlockS (a_ : List Block_) (left : Int) : Option (Int) :=
  if decide ((w64 (left - ((a_.length : Int)))) < 0) then some (-1) else Option.bind (forN (S := Int) (X := Int) (fun i1_1 xs1_1 => Option.bind (getI a_ i1_1) fun x1_1 => Option.bind (laws_szBlock x1_1 xs1_1) fun r1_1 => if decide (r1_1 < 0) then some (.inr (-1)) else some (.inl r1_1)) (((a_.length : Int) : Int) - 0).toNat 0 (w64 (left - ((a_.length : Int))))) (Sum.elim (fun xs0_1 => some xs0_1) (fun e0 => some e0))

noncomputable def laws_szCode (a_ : Code_) (left : Int) : Option (Int) :=
  Option.bind (laws_szBlockS a_.blocks left) fun r0_1 => if decide (r0_1 < 0) then some (-1) else some r0_1

noncomputable def laws_szCodeS (a_ : List Code_) (left : Int) : Option (Int) :=
  if decide ((w64 (left - ((a_.length : Int)))) < 0) then some (-1) else Option.bind (forN (S := Int) (X := Int) (fun i1_1 xs1_1 => Option.bind (getI a_ i1_1) fun x1_1 => Option.bind (laws_szCode x1_1 xs1_1) fun r1_1 => if decide (r1_1 < 0) then some (.inr (-1)) else some (.inl r1_1)) (((a_.length : Int) : Int) - 0).toNat 0 (w64 (left - ((a_.length : Int))))) (Sum.elim (fun xs0_1 => some xs0_1) (fun e0 => some e0))

noncomputable def laws_szUnit (a_ : Unit_) (left : Int) : Option (Int) :=
  Option.bind (laws_szCodeS a_.codes left) fun r0_1 => if decide (r0_1 < 0) then some (-1) else some r0_1

noncomputable def laws_toIntS (a_ : List Int) : Option ((List Int)) :=
  Option.bind (makeM (0 : Int) (a_.length : Int)) fun ys0_1 => Option.bind (forN (S := (List Int)) (X := Empty) (fun i1_1 xs1_1 => Option.bind (getI a_ i1_1) fun x1_1 => Option.bind (getI xs1_1 i1_1) fun x1_2 => some (.inl (xs1_1.set (i1_1).toNat x1_1))) (((a_.length : Int) : Int) - 0).toNat 0 ys0_1) (Sum.elim (fun xs0_1 => some xs0_1) (fun (e0 : Empty) => nomatch e0))

noncomputable def laws_toPhi (a_ : Phi_) : Option (Phi_) :=
  Option.bind (laws_toIntS a_.args) fun r0_1 => some (⟨a_.to, r0_1⟩ : Phi_)

noncomputable def laws_toPhiS (a_ : List Phi_) : Option ((List Phi_)) :=
  Option.bind (makeM ((⟨0, []⟩ : Phi_) : Phi_) (a_.length : Int)) fun ys0_1 => Option.bind (forN (S := (List Phi_)) (X := Empty) (fun i1_1 xs1_1 => Option.bind (getI a_ i1_1) fun x1_1 => Option.bind (laws_toPhi x1_1) fun r1_1 => Option.bind (getI xs1_1 i1_1) fun x1_2 => some (.inl (xs1_1.set (i1_1).toNat r1_1))) (((a_.length : Int) : Int) - 0).toNat 0 ys0_1) (Sum.elim (fun xs0_1 => some xs0_1) (fun (e0 : Empty) => nomatch e0))

noncomputable def laws_toIns (a_ : Ins_) : Option (Ins_) :=
  Option.bind (laws_toIntS a_.args) fun r0_1 => some (⟨a_.op, a_.to, r0_1, a_.n_⟩ : Ins_)

noncomputable def laws_toInsS (a_ : List Ins_) : Option ((List Ins_)) :=
  Option.bind (makeM ((⟨0, 0, [], 0⟩ : Ins_) : Ins_) (a_.length : Int)) fun ys0_1 => Option.bind (forN (S := (List Ins_)) (X := Empty) (fun i1_1 xs1_1 => Option.bind (getI a_ i1_1) fun x1_1 => Option.bind (laws_toIns x1_1) fun r1_1 => Option.bind (getI xs1_1 i1_1) fun x1_2 => some (.inl (xs1_1.set (i1_1).toNat r1_1))) (((a_.length : Int) : Int) - 0).toNat 0 ys0_1) (Sum.elim (fun xs0_1 => some xs0_1) (fun (e0 : Empty) => nomatch e0))

noncomputable def laws_toBlock (a_ : Block_) : Option (Block_) :=
  Option.bind (laws_toPhiS a_.phis) fun r0_1 => Option.bind (laws_toInsS a_.ins) fun r0_2 => Option.bind (laws_toIntS a_.next_) fun r0_3 => some (⟨r0_1, r0_2, a_.jump, a_.on, r0_3⟩ : Block_)

noncomputable def laws_toBlockS (a_ : List Block_) : Option ((List Block_)) :=
  Option.bind (makeM ((⟨[], [], 0, 0, []⟩ : Block_) : Block_) (a_.length : Int)) fun ys0_1 => Option.bind (forN (S := (List Block_)) (X := Empty) (fun i1_1 xs1_1 => Option.bind (getI a_ i1_1) fun x1_1 => Option.bind (laws_toBlock x1_1) fun r1_1 => Option.bind (getI xs1_1 i1_1) fun x1_2 => some (.inl (xs1_1.set (i1_1).toNat r1_1))) (((a_.length : Int) : Int) - 0).toNat 0 ys0_1) (Sum.elim (fun xs0_1 => some xs0_1) (fun (e0 : Empty) => nomatch e0))

noncomputable def laws_toCode (a_ : Code_) : Option (Code_) :=
  Option.bind (laws_toBlockS a_.blocks) fun r0_1 => some (⟨a_.params, a_.regs, r0_1⟩ : Code_)

noncomputable def laws_toCodeS (a_ : List Code_) : Option ((List Code_)) :=
  Option.bind (makeM ((⟨0, 0, []⟩ : Code_) : Code_) (a_.length : Int)) fun ys0_1 => Option.bind (forN (S := (List Code_)) (X := Empty) (fun i1_1 xs1_1 => Option.bind (getI a_ i1_1) fun x1_1 => Option.bind (laws_toCode x1_1) fun r1_1 => Option.bind (getI xs1_1 i1_1) fun x1_2 => some (.inl (xs1_1.set (i1_1).toNat r1_1))) (((a_.length : Int) : Int) - 0).toNat 0 ys0_1) (Sum.elim (fun xs0_1 => some xs0_1) (fun (e0 : Empty) => nomatch e0))

noncomputable def laws_toUnit (a_ : Unit_) : Option (Unit_) :=
  Option.bind (laws_toCodeS a_.codes) fun r0_1 => some (⟨r0_1⟩ : Unit_)

noncomputable def spec_l1In (n_ : Int) (low : Int) (high : Int) : Option (Bool) :=
  Option.bind (if decide (low ≤ n_) then some (decide (n_ ≤ high)) else some false : Option (Bool)) fun s0_1 => some s0_1

noncomputable def spec_l7Regs (c_ : Code_) (list : List Int) : Option (Bool) :=
  Option.bind (forN (S := Unit) (X := Bool) (fun i1_1 xs1_1 => Option.bind (getI list i1_1) fun x1_1 => Option.bind (spec_l1In x1_1 0 (w64 (c_.regs - 1))) fun r1_1 => if !(r1_1) then some (.inr false) else some (.inl ())) (((list.length : Int) : Int) - 0).toNat 0 ()) (Sum.elim (fun xs0_1 => some true) (fun e0 => some e0))

noncomputable def spec_l7Makes (op : Int) : Option (Bool) :=
  Option.bind (Option.bind (spec_l1In op 1 14) fun r1_1 => if r1_1 then if decide (op ≠ 12) then some (decide (op ≠ 13)) else some false else some false : Option (Bool)) fun s0_1 => some s0_1

noncomputable def spec_l7Args (op : Int) : Option (Int) :=
  if decide (op = 1) then some 0 else Option.bind (if decide (op = 2) then some true else if decide (op = 10) then some true else if decide (op = 11) then some true else some (decide (op = 13)) : Option (Bool)) fun s0_1 => if s0_1 then some 1 else Option.bind (Option.bind (spec_l1In op 3 9) fun r1_1 => if r1_1 then some true else some (decide (op = 12)) : Option (Bool)) fun s0_2 => if s0_2 then some 2 else some (-1)

noncomputable def spec_l7Ins (u : Unit_) (k_ : Int) (x_ : Ins_) : Option (Bool) :=
  Option.bind (getI u.codes k_) fun x0_1 => Option.bind (Option.bind (spec_l1In x_.op 1 14) fun r1_1 => if !(r1_1) then some true else Option.bind (spec_l7Regs x0_1 x_.args) fun r1_2 => some (!(r1_2)) : Option (Bool)) fun s0_1 => if s0_1 then some false else Option.bind (Option.bind (spec_l7Makes x_.op) fun r1_3 => Option.bind (spec_l1In x_.to 0 (w64 (x0_1.regs - 1))) fun r1_4 => if decide (r1_3 ≠ r1_4) then some true else Option.bind (spec_l7Makes x_.op) fun r1_5 => if !(r1_5) then some (decide (x_.to ≠ (-1))) else some false : Option (Bool)) fun s0_2 => if s0_2 then some false else if decide (x_.op = 14) then Option.bind (Option.bind (spec_l1In x_.n_ 0 (w64 (k_ - 1))) fun r1_6 => if r1_6 then Option.bind (getI u.codes x_.n_) fun x1_1 => some (decide (((x_.args.length : Int)) = x1_1.params)) else some false : Option (Bool)) fun s0_3 => some s0_3 else Option.bind (Option.bind (spec_l7Args x_.op) fun r1_7 => if decide (((x_.args.length : Int)) = r1_7) then Option.bind (spec_l1In x_.n_ 0 255) fun r1_8 => if r1_8 then if decide (x_.n_ = 0) then some true else some (decide (x_.op = 1)) else some false else some false : Option (Bool)) fun s0_4 => some s0_4

noncomputable def spec_l7Preds (c_ : Code_) (b_ : Int) : Option ((List Int)) :=
  Option.bind (forN (S := (List Int)) (X := Empty) (fun i1_1 xs1_1 => Option.bind (Option.bind (loopM (S := Int) (X := (List Int)) (fun xs3_1 => Option.bind (getI c_.blocks i1_1) fun x3_1 => if decide (xs3_1 < ((x3_1.next_.length : Int))) then Option.bind (getI x3_1.next_ xs3_1) fun x3_2 => if decide (x3_2 = b_) then Option.bind (appM xs1_1 ([i1_1] : List Int)) fun ys3_1 => some (.inr ys3_1) else some (.inl (w64 (xs3_1 + 1))) else some (.inr xs1_1)) 0) (fun e0 => some e0) : Option ((List Int))) fun s1_1 => some (.inl s1_1)) (((c_.blocks.length : Int) : Int) - 0).toNat 0 ([] : List Int)) (Sum.elim (fun xs0_1 => some xs0_1) (fun (e0 : Empty) => nomatch e0))

noncomputable def spec_l7Block (u : Unit_) (k_ : Int) (b_ : Int) : Option (Bool) :=
  Option.bind (getI u.codes k_) fun x0_1 => Option.bind (getI x0_1.blocks b_) fun x0_2 => Option.bind (Option.bind (if decide (x0_2.jump = 1) then if decide (x0_2.on ≠ 0) then some (.inr false) else some (.inl 1) else Option.bind (if decide (x0_2.jump = 2) then some (.inl 2) else if decide (x0_2.jump = 3) then some (.inl 0) else some (.inr false) : Option ((Int) ⊕ (Bool))) (Sum.elim (fun s2_1 => some (.inl s2_1)) (fun e0 => some (.inr e0))) : Option ((Int) ⊕ (Bool))) (Sum.elim (fun s1_1 => some (.inl s1_1)) (fun e0 => some (.inr e0))) : Option ((Int) ⊕ (Bool))) (Sum.elim (fun s0_1 => Option.bind (if decide (((x0_2.next_.length : Int)) ≠ s0_1) then some true else if decide (x0_2.jump ≠ 1) then Option.bind (spec_l1In x0_2.on 0 (w64 (x0_1.regs - 1))) fun r1_1 => some (!(r1_1)) else some false : Option (Bool)) fun s0_2 => if s0_2 then some false else Option.bind (forN (S := Unit) (X := Bool) (fun i1_1 xs1_1 => Option.bind (getI x0_2.next_ i1_1) fun x1_1 => Option.bind (spec_l1In x1_1 1 (((x0_1.blocks.length : Int)) - 1)) fun r1_2 => if !(r1_2) then some (.inr false) else some (.inl ())) (((x0_2.next_.length : Int) : Int) - 0).toNat 0 ()) (Sum.elim (fun xs0_1 => Option.bind (forN (S := Unit) (X := Bool) (fun i1_2 xs1_2 => Option.bind (getI x0_2.ins i1_2) fun x1_2 => Option.bind (spec_l7Ins u k_ x1_2) fun r1_3 => if !(r1_3) then some (.inr false) else some (.inl ())) (((x0_2.ins.length : Int) : Int) - 0).toNat 0 ()) (Sum.elim (fun xs0_2 => Option.bind (spec_l7Preds x0_1 b_) fun r0_3 => Option.bind (forN (S := Unit) (X := Bool) (fun i1_3 xs1_3 => Option.bind (if decide (b_ = 0) then some true else Option.bind (getI x0_2.phis i1_3) fun x2_1 => if decide (((x2_1.args.length : Int)) ≠ ((r0_3.length : Int))) then some true else Option.bind (spec_l7Regs x0_1 x2_1.args) fun r2_1 => if !(r2_1) then some true else Option.bind (spec_l1In x2_1.to 0 (w64 (x0_1.regs - 1))) fun r2_2 => some (!(r2_2)) : Option (Bool)) fun s1_2 => if s1_2 then some (.inr false) else some (.inl ())) (((x0_2.phis.length : Int) : Int) - 0).toNat 0 ()) (Sum.elim (fun xs0_3 => some true) (fun e0 => some e0))) (fun e0 => some e0))) (fun e0 => some e0))) (fun e0 => some e0))

noncomputable def spec_UnitValid (u : Unit_) : Option (Bool) :=
  Option.bind (spec_l1In (u.codes.length : Int) 1 4) fun r0_1 => if !(r0_1) then some false else Option.bind (forN (S := Int) (X := Bool) (fun i1_1 xs1_1 => Option.bind (getI u.codes i1_1) fun x1_1 => Option.bind (Option.bind (spec_l1In x1_1.params 0 3) fun r2_1 => if !(r2_1) then some true else Option.bind (spec_l1In x1_1.regs x1_1.params 300) fun r2_2 => if !(r2_2) then some true else Option.bind (spec_l1In (x1_1.blocks.length : Int) 1 160) fun r2_3 => some (!(r2_3)) : Option (Bool)) fun s1_1 => if s1_1 then some (.inr false) else Option.bind (forN (S := Int) (X := Bool) (fun i2_1 xs2_1 => Option.bind (getI x1_1.blocks i2_1) fun x2_1 => Option.bind (if decide (800 < (w64 ((w64 (xs2_1 + ((x2_1.ins.length : Int)))) + ((x2_1.phis.length : Int))))) then some true else Option.bind (spec_l7Block u i1_1 i2_1) fun r3_1 => some (!(r3_1)) : Option (Bool)) fun s2_1 => if s2_1 then some (.inr false) else some (.inl (w64 ((w64 (xs2_1 + ((x2_1.ins.length : Int)))) + ((x2_1.phis.length : Int)))))) (((x1_1.blocks.length : Int) : Int) - 0).toNat 0 xs1_1) (Sum.elim (fun xs1_2 => some (.inl xs1_2)) (fun e0 => some (.inr e0)))) (((u.codes.length : Int) : Int) - 0).toNat 0 0) (Sum.elim (fun xs0_1 => some true) (fun e0 => some e0))

noncomputable def spec_l7CopyBlock (b_ : Block_) : Option (Block_) :=
  Option.bind (Option.bind (appM ([] : List Int) b_.next_) fun pb1_1 => Option.bind (some () : Option (Unit)) fun s1_1 => some pb1_1 : Option ((List Int))) fun s0_1 => Option.bind (forN (S := (List Phi_)) (X := Empty) (fun i1_1 xs1_1 => Option.bind (getI b_.phis i1_1) fun x1_1 => Option.bind (appM ([] : List Int) x1_1.args) fun ys1_1 => Option.bind (appM xs1_1 ([(⟨x1_1.to, ys1_1⟩ : Phi_)] : List Phi_)) fun ys1_2 => some (.inl ys1_2)) (((b_.phis.length : Int) : Int) - 0).toNat 0 ([] : List Phi_)) (Sum.elim (fun xs0_1 => Option.bind (forN (S := (List Ins_)) (X := Empty) (fun i1_2 xs1_2 => Option.bind (getI b_.ins i1_2) fun x1_2 => Option.bind (appM ([] : List Int) x1_2.args) fun ys1_3 => Option.bind (appM xs1_2 ([(⟨x1_2.op, x1_2.to, ys1_3, x1_2.n_⟩ : Ins_)] : List Ins_)) fun ys1_4 => some (.inl ys1_4)) (((b_.ins.length : Int) : Int) - 0).toNat 0 ([] : List Ins_)) (Sum.elim (fun xs0_2 => some (⟨xs0_1, xs0_2, b_.jump, b_.on, s0_1⟩ : Block_)) (fun (e0 : Empty) => nomatch e0))) (fun (e0 : Empty) => nomatch e0))

noncomputable def spec_l7Copy (c_ : Code_) : Option (Code_) :=
  Option.bind (forN (S := (List Block_)) (X := Empty) (fun i1_1 xs1_1 => Option.bind (getI c_.blocks i1_1) fun x1_1 => Option.bind (spec_l7CopyBlock x1_1) fun r1_1 => Option.bind (appM xs1_1 ([r1_1] : List Block_)) fun ys1_1 => some (.inl ys1_1)) (((c_.blocks.length : Int) : Int) - 0).toNat 0 []) (Sum.elim (fun xs0_1 => some (⟨c_.params, c_.regs, xs0_1⟩ : Code_)) (fun (e0 : Empty) => nomatch e0))

noncomputable def spec_l10Sharp (c_ : Code_) (b_ : Int) (i_ : Int) : Option (Bool) :=
  Option.bind (getI c_.blocks b_) fun x0_1 => Option.bind (forN (S := Bool) (X := Empty) (fun i1_1 xs1_1 => Option.bind (if xs1_1 then some true else Option.bind (getI x0_1.next_ i1_1) fun x2_1 => Option.bind (getI x0_1.next_ 0) fun x2_2 => some (decide (x2_1 ≠ x2_2)) : Option (Bool)) fun s1_1 => some (.inl s1_1)) (((x0_1.next_.length : Int) : Int) - 0).toNat 0 false) (Sum.elim (fun xs0_1 => Option.bind (if xs0_1 then Option.bind (getI x0_1.next_ i_) fun x1_1 => Option.bind (spec_l7Preds c_ x1_1) fun r1_1 => some (decide (1 < ((r1_1.length : Int)))) else some false : Option (Bool)) fun s0_1 => some s0_1) (fun (e0 : Empty) => nomatch e0))

noncomputable def spec_l10At (list : List Int) (n_ : Int) : Option (Int) :=
  Option.bind (forN (S := Unit) (X := Int) (fun i1_1 xs1_1 => Option.bind (getI list i1_1) fun x1_1 => if decide (x1_1 = n_) then some (.inr i1_1) else some (.inl ())) (((list.length : Int) : Int) - 0).toNat 0 ()) (Sum.elim (fun xs0_1 => some (-1)) (fun e0 => some e0))

noncomputable def spec_l10Split (c_ : Code_) : Option (Code_) :=
  Option.bind (spec_l7Copy c_) fun r0_1 => Option.bind (forN (S := (List Block_)) (X := Empty) (fun i1_1 xs1_1 => Option.bind (Option.bind (loopM (S := (List Block_) × Int) (X := (List Block_)) (fun xs3_1 => Option.bind (getI c_.blocks i1_1) fun x3_1 => if decide (xs3_1.2 < ((x3_1.next_.length : Int))) then Option.bind (Option.bind (spec_l10Sharp c_ i1_1 xs3_1.2) fun r4_1 => Option.bind (if r4_1 then Option.bind (getI x3_1.next_ xs3_1.2) fun x5_1 => Option.bind (getI xs3_1.1 i1_1) fun x5_2 => Option.bind (getI x5_2.next_ xs3_1.2) fun x5_3 => Option.bind (appM (xs3_1.1.set (i1_1).toNat (⟨x5_2.phis, x5_2.ins, x5_2.jump, x5_2.on, (x5_2.next_.set (xs3_1.2).toNat (xs3_1.1.length : Int))⟩ : Block_)) ([(⟨([] : List Phi_), ([] : List Ins_), 1, 0, ([x5_1] : List Int)⟩ : Block_)] : List Block_)) fun ys5_1 => some ys5_1 else some xs3_1.1 : Option ((List Block_))) fun s4_1 => some s4_1 : Option ((List Block_))) fun s3_1 => some (.inl (s3_1, w64 (xs3_1.2 + 1))) else some (.inr xs3_1.1)) (xs1_1, 0)) (fun e0 => some e0) : Option ((List Block_))) fun s1_1 => some (.inl s1_1)) (((c_.blocks.length : Int) : Int) - 0).toNat 0 r0_1.blocks) (Sum.elim (fun xs0_1 => Option.bind (forN (S := (List Block_)) (X := Empty) (fun i1_2 xs1_2 => Option.bind (spec_l7Preds c_ i1_2) fun r1_1 => Option.bind (spec_l7Preds (⟨r0_1.params, r0_1.regs, xs1_2⟩ : Code_) i1_2) fun r1_2 => Option.bind (Option.bind (loopM (S := (List Block_) × Int) (X := (List Block_)) (fun xs3_2 => Option.bind (getI xs3_2.1 i1_2) fun x3_2 => if decide (xs3_2.2 < ((x3_2.phis.length : Int))) then Option.bind (forN (S := (List Int)) (X := Empty) (fun i4_1 xs4_1 => Option.bind (getI r1_2 i4_1) fun x4_1 => Option.bind (if decide (((c_.blocks.length : Int)) ≤ x4_1) then Option.bind (spec_l7Preds (⟨r0_1.params, r0_1.regs, xs3_2.1⟩ : Code_) x4_1) fun r5_1 => Option.bind (getI r5_1 0) fun x5_4 => some x5_4 else some x4_1 : Option (Int)) fun s4_2 => Option.bind (Option.bind (getI c_.blocks i1_2) fun x5_5 => Option.bind (getI x5_5.phis xs3_2.2) fun pb5_1 => Option.bind (spec_l10At r1_1 s4_2) fun pb5_2 => Option.bind (getI pb5_1.args pb5_2) fun pb5_3 => Option.bind (appM xs4_1 ([pb5_3] : List Int)) fun pb5_4 => some pb5_4 : Option ((List Int))) fun s4_3 => some (.inl s4_3)) (((r1_2.length : Int) : Int) - 0).toNat 0 ([] : List Int)) (Sum.elim (fun xs3_3 => Option.bind (getI xs3_2.1 i1_2) fun x3_3 => Option.bind (getI x3_3.phis xs3_2.2) fun x3_4 => some (.inl ((xs3_2.1.set (i1_2).toNat (⟨(x3_3.phis.set (xs3_2.2).toNat (⟨x3_4.to, xs3_3⟩ : Phi_)), x3_3.ins, x3_3.jump, x3_3.on, x3_3.next_⟩ : Block_)), w64 (xs3_2.2 + 1)))) (fun (e0 : Empty) => nomatch e0)) else some (.inr xs3_2.1)) (xs1_2, 0)) (fun e0 => some e0) : Option ((List Block_))) fun s1_2 => some (.inl s1_2)) (((c_.blocks.length : Int) : Int) - 0).toNat 0 xs0_1) (Sum.elim (fun xs0_2 => some (⟨r0_1.params, r0_1.regs, xs0_2⟩ : Code_)) (fun (e0 : Empty) => nomatch e0))) (fun (e0 : Empty) => nomatch e0))

noncomputable def spec_l10Turn (c_ : Code_) (pass : Str) : Option (Code_) :=
  if decide (pass = (mkS [114, 101, 97, 99, 104])) then none else if decide (pass = (mkS [111, 114, 100, 101, 114])) then none else if decide (pass = (mkS [115, 112, 108, 105, 116])) then Option.bind (spec_l10Split c_) fun r0_1 => some r0_1 else if decide (pass = (mkS [105, 100, 108, 101])) then none else if decide (pass = (mkS [115, 105, 110, 103, 108, 101])) then none else if decide (pass = (mkS [107, 110, 111, 119, 110])) then none else if decide (pass = (mkS [115, 104, 97, 114, 101])) then none else if decide (pass = (mkS [104, 111, 105, 115, 116])) then none else if decide (pass = (mkS [101, 118, 101, 110])) then none else if decide (pass = (mkS [115, 107, 105, 112])) then none else if decide (pass = (mkS [106, 111, 105, 110])) then none else none

noncomputable def spec_l10Each (u : Unit_) (pass : Str) : Option (Unit_ × Bool) :=
  Option.bind (spec_UnitValid u) fun r0_1 => if !(r0_1) then some ((⟨[]⟩ : Unit_), false) else Option.bind (forN (S := (List Code_)) (X := Empty) (fun i1_1 xs1_1 => Option.bind (getI u.codes i1_1) fun x1_1 => Option.bind (spec_l10Turn x1_1 pass) fun r1_1 => Option.bind (appM xs1_1 ([r1_1] : List Code_)) fun ys1_1 => some (.inl ys1_1)) (((u.codes.length : Int) : Int) - 0).toNat 0 []) (Sum.elim (fun xs0_1 => Option.bind (spec_UnitValid (⟨xs0_1⟩ : Unit_)) fun r0_3 => if !(r0_3) then some ((⟨[]⟩ : Unit_), false) else some ((⟨xs0_1⟩ : Unit_), true)) (fun (e0 : Empty) => nomatch e0))

noncomputable def spec_SplitEdges (u : Unit_) : Option (Unit_ × Bool) :=
  Option.bind (spec_l10Each u (mkS [115, 112, 108, 105, 116])) fun r0_1 => some (r0_1.1, r0_1.2)

noncomputable def impl_within (n_ : Int) (low : Int) (high : Int) : Option (Bool) :=
  Option.bind (if decide (low ≤ n_) then some (decide (n_ ≤ high)) else some false : Option (Bool)) fun s0_1 => some s0_1

noncomputable def impl_codeOk_1 (r_ : Int) (c0_ : Code_) : Option (Bool) :=
  Option.bind (impl_within r_ 0 (w64 (c0_.regs - 1))) fun r0_1 => some r0_1

noncomputable def impl_nextCount (jump : Int) : Option (Int) :=
  if decide (jump = 1) then some 1 else if decide (jump = 2) then some 2 else if decide (jump = 3) then some 0 else some (-1)

noncomputable def impl_usesOn (jump : Int) : Option (Bool) :=
  Option.bind (if decide (jump = 2) then some true else some (decide (jump = 3)) : Option (Bool)) fun s0_1 => some s0_1

noncomputable def impl_codeOk_2 (n_ : Int) (c0_ : Code_) : Option (Bool) :=
  Option.bind (impl_within n_ 1 (((c0_.blocks.length : Int)) - 1)) fun r0_1 => some (!(r0_1))

noncomputable def slices_IndexFunc_S_int_int (s_ : List Int) (f : Int → Option Bool) : Option (Int) :=
  Option.bind (forN (S := Unit) (X := Int) (fun i1_1 xs1_1 => Option.bind (getI s_ i1_1) fun x1_1 => Option.bind (f x1_1) fun r1_1 => if r1_1 then some (.inr i1_1) else some (.inl ())) (((s_.length : Int) : Int) - 0).toNat 0 ()) (Sum.elim (fun xs0_1 => some (-1)) (fun e0 => some e0))

noncomputable def slices_ContainsFunc_S_int_int (s_ : List Int) (f : Int → Option Bool) : Option (Bool) :=
  Option.bind (slices_IndexFunc_S_int_int s_ f) fun r0_1 => some (decide (0 ≤ r0_1))

noncomputable def impl_insOk_1 (r_ : Int) (c0_ : Code_) : Option (Bool) :=
  Option.bind (impl_within r_ 0 (w64 (c0_.regs - 1))) fun r0_1 => some r0_1

noncomputable def impl_isIns (op : Int) : Option (Bool) :=
  Option.bind (impl_within op 1 14) fun r0_1 => some r0_1

noncomputable def impl_insOk_2 (r_ : Int) (c0_0_ : Code_) : Option (Bool) :=
  Option.bind (impl_insOk_1 r_ c0_0_) fun r0_1 => some (!(r0_1))

noncomputable def impl_sets (op : Int) : Option (Bool) :=
  Option.bind (Option.bind (impl_isIns op) fun r1_1 => if r1_1 then if decide (op ≠ 12) then some (decide (op ≠ 13)) else some false else some false : Option (Bool)) fun s0_1 => some s0_1

noncomputable def impl_isByte (n_ : Int) : Option (Bool) :=
  Option.bind (impl_within n_ 0 255) fun r0_1 => some r0_1

noncomputable def impl_insArgs (op : Int) : Option (Int) :=
  if decide (op = 1) then some 0 else Option.bind (if decide (op = 2) then some true else Option.bind (if decide (op = 10) then some true else Option.bind (if decide (op = 11) then some true else some (decide (op = 13)) : Option (Bool)) fun s2_1 => some s2_1 : Option (Bool)) fun s1_1 => some s1_1 : Option (Bool)) fun s0_1 => if s0_1 then some 1 else some 2

noncomputable def impl_insOk (u : Unit_) (k_ : Int) (x_ : Ins_) : Option (Bool) :=
  Option.bind (getI u.codes k_) fun x0_1 => Option.bind (Option.bind (impl_isIns x_.op) fun r1_1 => if !(r1_1) then some true else Option.bind (slices_ContainsFunc_S_int_int x_.args (fun y0 => impl_insOk_2 y0 x0_1)) fun r1_2 => some r1_2 : Option (Bool)) fun s0_1 => if s0_1 then some false else Option.bind (Option.bind (impl_sets x_.op) fun r1_3 => if r1_3 then Option.bind (impl_insOk_1 x_.to x0_1) fun r1_4 => if !(r1_4) then some true else Option.bind (impl_sets x_.op) fun r1_5 => if !(r1_5) then some (decide (x_.to ≠ (-1))) else some false else Option.bind (impl_sets x_.op) fun r1_6 => if !(r1_6) then some (decide (x_.to ≠ (-1))) else some false : Option (Bool)) fun s0_2 => if s0_2 then some false else if decide (x_.op = 1) then Option.bind (if decide (((x_.args.length : Int)) = 0) then Option.bind (impl_isByte x_.n_) fun r1_7 => some r1_7 else some false : Option (Bool)) fun s0_3 => some s0_3 else if decide (x_.op = 14) then Option.bind (Option.bind (impl_within x_.n_ 0 (w64 (k_ - 1))) fun r1_8 => if r1_8 then Option.bind (getI u.codes x_.n_) fun x1_1 => some (decide (((x_.args.length : Int)) = x1_1.params)) else some false : Option (Bool)) fun s0_4 => some s0_4 else Option.bind (if decide (x_.n_ = 0) then Option.bind (impl_insArgs x_.op) fun r1_9 => some (decide (((x_.args.length : Int)) = r1_9)) else some false : Option (Bool)) fun s0_5 => some s0_5

noncomputable def impl_codeOk_3 (i_ : Ins_) (c0_ : Unit_) (c1_ : Int) : Option (Bool) :=
  Option.bind (impl_insOk c0_ c1_ i_) fun r0_1 => some (!(r0_1))

noncomputable def slices_IndexFunc_S_impl_Ins_impl_Ins (s_ : List Ins_) (f : Ins_ → Option Bool) : Option (Int) :=
  Option.bind (forN (S := Unit) (X := Int) (fun i1_1 xs1_1 => Option.bind (getI s_ i1_1) fun x1_1 => Option.bind (f x1_1) fun r1_1 => if r1_1 then some (.inr i1_1) else some (.inl ())) (((s_.length : Int) : Int) - 0).toNat 0 ()) (Sum.elim (fun xs0_1 => some (-1)) (fun e0 => some e0))

noncomputable def slices_ContainsFunc_S_impl_Ins_impl_Ins (s_ : List Ins_) (f : Ins_ → Option Bool) : Option (Bool) :=
  Option.bind (slices_IndexFunc_S_impl_Ins_impl_Ins s_ f) fun r0_1 => some (decide (0 ≤ r0_1))

noncomputable def slices_Index_S_int_int (s_ : List Int) (v_ : Int) : Option (Int) :=
  Option.bind (forN (S := Unit) (X := Int) (fun i1_1 xs1_1 => Option.bind (getI s_ i1_1) fun x1_1 => if decide (v_ = x1_1) then some (.inr i1_1) else some (.inl ())) (((s_.length : Int) : Int) - 0).toNat 0 ()) (Sum.elim (fun xs0_1 => some (-1)) (fun e0 => some e0))

noncomputable def slices_Contains_S_int_int (s_ : List Int) (v_ : Int) : Option (Bool) :=
  Option.bind (slices_Index_S_int_int s_ v_) fun r0_1 => some (decide (0 ≤ r0_1))

noncomputable def impl_PredsOf (c_ : Code_) (b_ : Int) : Option ((List Int)) :=
  Option.bind (impl_within b_ 0 (((c_.blocks.length : Int)) - 1)) fun r0_1 => if !(r0_1) then some [] else Option.bind (forN (S := (List Int)) (X := Empty) (fun i1_1 xs1_1 => Option.bind (Option.bind (getI c_.blocks i1_1) fun x2_1 => Option.bind (slices_Contains_S_int_int x2_1.next_ b_) fun r2_1 => Option.bind (if r2_1 then Option.bind (appM xs1_1 ([i1_1] : List Int)) fun ys3_1 => some ys3_1 else some xs1_1 : Option ((List Int))) fun s2_1 => some s2_1 : Option ((List Int))) fun s1_1 => some (.inl s1_1)) (((c_.blocks.length : Int) : Int) - 0).toNat 0 []) (Sum.elim (fun xs0_1 => some xs0_1) (fun (e0 : Empty) => nomatch e0))

noncomputable def impl_codeOk_4 (r_ : Int) (c0_0_ : Code_) : Option (Bool) :=
  Option.bind (impl_codeOk_1 r_ c0_0_) fun r0_1 => some (!(r0_1))

noncomputable def impl_codeOk (u : Unit_) (k_ : Int) : Option (Bool) :=
  Option.bind (getI u.codes k_) fun x0_1 => Option.bind (Option.bind (impl_within x0_1.regs 0 300) fun r1_1 => if !(r1_1) then some true else Option.bind (impl_within x0_1.params 0 (minI 3 x0_1.regs)) fun r1_2 => if !(r1_2) then some true else Option.bind (impl_within (x0_1.blocks.length : Int) 1 160) fun r1_3 => some (!(r1_3)) : Option (Bool)) fun s0_1 => if s0_1 then some false else Option.bind (forN (S := Unit) (X := Bool) (fun i1_1 xs1_1 => Option.bind (getI x0_1.blocks i1_1) fun x1_1 => Option.bind (Option.bind (impl_nextCount x1_1.jump) fun r2_1 => if decide (((x1_1.next_.length : Int)) ≠ r2_1) then some true else Option.bind (impl_usesOn x1_1.jump) fun r2_2 => if r2_2 then Option.bind (impl_codeOk_1 x1_1.on x0_1) fun r2_3 => if !(r2_3) then some true else Option.bind (impl_usesOn x1_1.jump) fun r2_4 => if !(r2_4) then some (decide (x1_1.on ≠ 0)) else some false else Option.bind (impl_usesOn x1_1.jump) fun r2_5 => if !(r2_5) then some (decide (x1_1.on ≠ 0)) else some false : Option (Bool)) fun s1_1 => if s1_1 then some (.inr false) else Option.bind (Option.bind (slices_ContainsFunc_S_int_int x1_1.next_ (fun y0 => impl_codeOk_2 y0 x0_1)) fun r2_6 => if r2_6 then some true else Option.bind (slices_ContainsFunc_S_impl_Ins_impl_Ins x1_1.ins (fun y0 => impl_codeOk_3 y0 u k_)) fun r2_7 => some r2_7 : Option (Bool)) fun s1_2 => if s1_2 then some (.inr false) else Option.bind (impl_PredsOf x0_1 i1_1) fun r1_4 => Option.bind (forN (S := Unit) (X := Bool) (fun i2_1 xs2_1 => Option.bind (getI x1_1.phis i2_1) fun x2_1 => Option.bind (if decide (i1_1 = 0) then some true else Option.bind (impl_codeOk_1 x2_1.to x0_1) fun r3_1 => if !(r3_1) then some true else if decide (((x2_1.args.length : Int)) ≠ ((r1_4.length : Int))) then some true else Option.bind (slices_ContainsFunc_S_int_int x2_1.args (fun y0 => impl_codeOk_4 y0 x0_1)) fun r3_2 => some r3_2 : Option (Bool)) fun s2_1 => if s2_1 then some (.inr false) else some (.inl ())) (((x1_1.phis.length : Int) : Int) - 0).toNat 0 ()) (Sum.elim (fun xs1_2 => some (.inl ())) (fun e0 => some (.inr e0)))) (((x0_1.blocks.length : Int) : Int) - 0).toNat 0 ()) (Sum.elim (fun xs0_1 => some true) (fun e0 => some e0))

noncomputable def impl_codeCount (c_ : Code_) : Option (Int) :=
  Option.bind (forN (S := Int) (X := Empty) (fun i1_1 xs1_1 => Option.bind (getI c_.blocks i1_1) fun x1_1 => some (.inl (w64 (xs1_1 + (((x1_1.phis.length : Int)) + ((x1_1.ins.length : Int))))))) (((c_.blocks.length : Int) : Int) - 0).toNat 0 0) (Sum.elim (fun xs0_1 => some xs0_1) (fun (e0 : Empty) => nomatch e0))

noncomputable def impl_UnitValid (u : Unit_) : Option (Bool) :=
  Option.bind (impl_within (u.codes.length : Int) 1 4) fun r0_1 => if !(r0_1) then some false else Option.bind (forN (S := Int) (X := Bool) (fun i1_1 xs1_1 => Option.bind (getI u.codes i1_1) fun x1_1 => Option.bind (impl_codeOk u i1_1) fun r1_1 => if !(r1_1) then some (.inr false) else Option.bind (impl_codeCount x1_1) fun r1_2 => some (.inl (w64 (xs1_1 + r1_2)))) (((u.codes.length : Int) : Int) - 0).toNat 0 0) (Sum.elim (fun xs0_1 => some (decide (xs0_1 ≤ 800))) (fun e0 => some e0))

noncomputable def impl_mapped_impl_Code_impl_Code (list : List Code_) (f : Code_ → Option Code_) : Option ((List Code_)) :=
  Option.bind (forN (S := (List Code_)) (X := Empty) (fun i1_1 xs1_1 => Option.bind (getI list i1_1) fun x1_1 => Option.bind (f x1_1) fun r1_1 => Option.bind (appM xs1_1 ([r1_1] : List Code_)) fun ys1_1 => some (.inl ys1_1)) (((list.length : Int) : Int) - 0).toNat 0 []) (Sum.elim (fun xs0_1 => some xs0_1) (fun (e0 : Empty) => nomatch e0))

noncomputable def impl_perCode (u : Unit_) (f : Code_ → Option Code_) : Option (Unit_ × Bool) :=
  Option.bind (impl_UnitValid u) fun r0_1 => if !(r0_1) then some ((⟨[]⟩ : Unit_), false) else Option.bind (impl_mapped_impl_Code_impl_Code u.codes f) fun r0_2 => some ((⟨r0_2⟩ : Unit_), true)

noncomputable def impl_mapped_impl_Block_impl_Block (list : List Block_) (f : Block_ → Option Block_) : Option ((List Block_)) :=
  Option.bind (forN (S := (List Block_)) (X := Empty) (fun i1_1 xs1_1 => Option.bind (getI list i1_1) fun x1_1 => Option.bind (f x1_1) fun r1_1 => Option.bind (appM xs1_1 ([r1_1] : List Block_)) fun ys1_1 => some (.inl ys1_1)) (((list.length : Int) : Int) - 0).toNat 0 []) (Sum.elim (fun xs0_1 => some xs0_1) (fun (e0 : Empty) => nomatch e0))

noncomputable def impl_mapped_impl_Phi_impl_Phi (list : List Phi_) (f : Phi_ → Option Phi_) : Option ((List Phi_)) :=
  Option.bind (forN (S := (List Phi_)) (X := Empty) (fun i1_1 xs1_1 => Option.bind (getI list i1_1) fun x1_1 => Option.bind (f x1_1) fun r1_1 => Option.bind (appM xs1_1 ([r1_1] : List Phi_)) fun ys1_1 => some (.inl ys1_1)) (((list.length : Int) : Int) - 0).toNat 0 []) (Sum.elim (fun xs0_1 => some xs0_1) (fun (e0 : Empty) => nomatch e0))

noncomputable def slices_Clone_S_int_int (s_ : List Int) : Option ((List Int)) :=
  Option.bind (appM ([] : List Int) s_) fun ys0_1 => some ys0_1

noncomputable def impl_clonePhi (f : Phi_) : Option (Phi_) :=
  Option.bind (slices_Clone_S_int_int f.args) fun r0_1 => some (⟨f.to, r0_1⟩ : Phi_)

noncomputable def impl_mapped_impl_Ins_impl_Ins (list : List Ins_) (f : Ins_ → Option Ins_) : Option ((List Ins_)) :=
  Option.bind (forN (S := (List Ins_)) (X := Empty) (fun i1_1 xs1_1 => Option.bind (getI list i1_1) fun x1_1 => Option.bind (f x1_1) fun r1_1 => Option.bind (appM xs1_1 ([r1_1] : List Ins_)) fun ys1_1 => some (.inl ys1_1)) (((list.length : Int) : Int) - 0).toNat 0 []) (Sum.elim (fun xs0_1 => some xs0_1) (fun (e0 : Empty) => nomatch e0))

noncomputable def impl_cloneIns (x_ : Ins_) : Option (Ins_) :=
  Option.bind (slices_Clone_S_int_int x_.args) fun r0_1 => some (⟨x_.op, x_.to, r0_1, x_.n_⟩ : Ins_)

noncomputable def impl_cloneBlock (b_ : Block_) : Option (Block_) :=
  Option.bind (impl_mapped_impl_Phi_impl_Phi b_.phis (fun y0 => impl_clonePhi y0)) fun r0_1 => Option.bind (impl_mapped_impl_Ins_impl_Ins b_.ins (fun y0 => impl_cloneIns y0)) fun r0_2 => Option.bind (slices_Clone_S_int_int b_.next_) fun r0_3 => some (⟨r0_1, r0_2, b_.jump, b_.on, r0_3⟩ : Block_)

noncomputable def impl_cloneCode (c_ : Code_) : Option (Code_) :=
  Option.bind (impl_mapped_impl_Block_impl_Block c_.blocks (fun y0 => impl_cloneBlock y0)) fun r0_1 => some (⟨c_.params, c_.regs, r0_1⟩ : Code_)

noncomputable def impl_phisOf (c_ : Code_) : Option ((List (List (MapS Int)))) :=
  Option.bind (makeM ([] : List (MapS Int)) (c_.blocks.length : Int)) fun ys0_1 => Option.bind (forN (S := (List (List (MapS Int)))) (X := Empty) (fun i1_1 xs1_1 => Option.bind (getI c_.blocks i1_1) fun x1_1 => Option.bind (impl_PredsOf c_ i1_1) fun r1_1 => Option.bind (forN (S := (List (List (MapS Int)))) (X := Empty) (fun i2_1 xs2_1 => Option.bind (getI x1_1.phis i2_1) fun x2_1 => Option.bind (forN (S := (MapS Int)) (X := Empty) (fun i3_1 xs3_1 => Option.bind (getI r1_1 i3_1) fun x3_1 => Option.bind (getI x2_1.args i3_1) fun x3_2 => some (.inl (MapS.ins xs3_1 x3_1 x3_2))) (((r1_1.length : Int) : Int) - 0).toNat 0 (MapS.mk0 : MapS Int)) (Sum.elim (fun xs2_2 => Option.bind (getI xs2_1 i1_1) fun x2_2 => Option.bind (appM x2_2 ([xs2_2] : List (MapS Int))) fun ys2_1 => some (.inl (xs2_1.set (i1_1).toNat ys2_1))) (fun (e0 : Empty) => nomatch e0))) (((x1_1.phis.length : Int) : Int) - 0).toNat 0 xs1_1) (Sum.elim (fun xs1_2 => some (.inl xs1_2)) (fun (e0 : Empty) => nomatch e0))) (((c_.blocks.length : Int) : Int) - 0).toNat 0 ys0_1) (Sum.elim (fun xs0_1 => some xs0_1) (fun (e0 : Empty) => nomatch e0))

noncomputable def impl_once (list : List Int) : Option ((List Int)) :=
  Option.bind (slices_Clone_S_int_int list) fun r0_1 => some (Lib.compact (sortI r0_1))

noncomputable def impl_sharpNext (c_ : Code_) (b_ : Int) : Option ((List Int)) :=
  Option.bind (getI c_.blocks b_) fun x0_1 => Option.bind (impl_once x0_1.next_) fun r0_1 => if decide (((r0_1.length : Int)) < 2) then some [] else Option.bind (forN (S := (List Int)) (X := Empty) (fun i1_1 xs1_1 => Option.bind (Option.bind (getI x0_1.next_ i1_1) fun x2_1 => Option.bind (Option.bind (impl_PredsOf c_ x2_1) fun r3_1 => if decide (1 < ((r3_1.length : Int))) then Option.bind (slices_Contains_S_int_int xs1_1 x2_1) fun r3_2 => some (!(r3_2)) else some false : Option (Bool)) fun s2_1 => Option.bind (if s2_1 then Option.bind (appM xs1_1 ([x2_1] : List Int)) fun ys3_1 => some ys3_1 else some xs1_1 : Option ((List Int))) fun s2_2 => some s2_2 : Option ((List Int))) fun s1_1 => some (.inl s1_1)) (((x0_1.next_.length : Int) : Int) - 0).toNat 0 []) (Sum.elim (fun xs0_1 => some xs0_1) (fun (e0 : Empty) => nomatch e0))

noncomputable def impl_settle_1 (p_ : Int) (c0_ : MapS Int) : Option (Int) :=
  some ((MapS.get c0_ p_).getD 0)

noncomputable def impl_mapped_int_int (list : List Int) (f : Int → Option Int) : Option ((List Int)) :=
  Option.bind (forN (S := (List Int)) (X := Empty) (fun i1_1 xs1_1 => Option.bind (getI list i1_1) fun x1_1 => Option.bind (f x1_1) fun r1_1 => Option.bind (appM xs1_1 ([r1_1] : List Int)) fun ys1_1 => some (.inl ys1_1)) (((list.length : Int) : Int) - 0).toNat 0 []) (Sum.elim (fun xs0_1 => some xs0_1) (fun (e0 : Empty) => nomatch e0))

noncomputable def impl_settle (c_ : Code_) (phis : List (List (MapS Int))) : Option (Code_) :=
  Option.bind (forN (S := (List Block_)) (X := Empty) (fun i1_1 xs1_1 => Option.bind (impl_PredsOf (⟨c_.params, c_.regs, xs1_1⟩ : Code_) i1_1) fun r1_1 => Option.bind (getI phis i1_1) fun x1_1 => Option.bind (forN (S := (List Block_)) (X := Empty) (fun i2_1 xs2_1 => Option.bind (getI x1_1 i2_1) fun x2_1 => Option.bind (Option.bind (getI xs2_1 i1_1) fun x3_1 => Option.bind (impl_mapped_int_int r1_1 (fun y0 => impl_settle_1 y0 x2_1)) fun pb3_1 => Option.bind (getI x3_1.phis i2_1) fun pb3_2 => some (xs2_1.set (i1_1).toNat (⟨(x3_1.phis.set (i2_1).toNat (⟨pb3_2.to, pb3_1⟩ : Phi_)), x3_1.ins, x3_1.jump, x3_1.on, x3_1.next_⟩ : Block_)) : Option ((List Block_))) fun s2_1 => some (.inl s2_1)) (((x1_1.length : Int) : Int) - 0).toNat 0 xs1_1) (Sum.elim (fun xs1_2 => some (.inl xs1_2)) (fun (e0 : Empty) => nomatch e0))) (((c_.blocks.length : Int) : Int) - 0).toNat 0 c_.blocks) (Sum.elim (fun xs0_1 => some (⟨c_.params, c_.regs, xs0_1⟩ : Code_)) (fun (e0 : Empty) => nomatch e0))

noncomputable def impl_splitCode (c_ : Code_) : Option (Code_) :=
  Option.bind (impl_cloneCode c_) fun r0_1 => Option.bind (impl_phisOf c_) fun r0_2 => Option.bind (forN (S := (List Block_) × (List (List (MapS Int)))) (X := Empty) (fun i1_1 xs1_1 => Option.bind (impl_sharpNext c_ i1_1) fun r1_1 => Option.bind (forN (S := (List Block_) × (List (List (MapS Int)))) (X := Empty) (fun i2_1 xs2_1 => Option.bind (getI r1_1 i2_1) fun x2_1 => Option.bind (appM xs2_1.1 ([(⟨[], [], 1, 0, ([x2_1] : List Int)⟩ : Block_)] : List Block_)) fun ys2_1 => Option.bind (appM xs2_1.2 ([[]] : List (List (MapS Int)))) fun ys2_2 => Option.bind (getI ys2_1 i1_1) fun x2_2 => Option.bind (forN (S := (List Int)) (X := Empty) (fun i3_1 xs3_1 => Option.bind (Option.bind (getI xs3_1 i3_1) fun x4_1 => Option.bind (if decide (x4_1 = x2_1) then some (xs3_1.set (i3_1).toNat (xs2_1.1.length : Int)) else some xs3_1 : Option ((List Int))) fun s4_1 => some s4_1 : Option ((List Int))) fun s3_1 => some (.inl s3_1)) (((x2_2.next_.length : Int) : Int) - 0).toNat 0 x2_2.next_) (Sum.elim (fun xs2_2 => Option.bind (getI ys2_2 x2_1) fun x2_3 => Option.bind (forN (S := (List (MapS Int))) (X := Empty) (fun i3_2 xs3_2 => Option.bind (getI xs3_2 i3_2) fun x3_1 => Option.bind (neM x3_1) fun u3_1 => some (.inl (xs3_2.set (i3_2).toNat (MapS.del (MapS.ins x3_1 (xs2_1.1.length : Int) ((MapS.get x3_1 i1_1).getD 0)) i1_1)))) (((x2_3.length : Int) : Int) - 0).toNat 0 x2_3) (Sum.elim (fun xs2_3 => some (.inl ((ys2_1.set (i1_1).toNat (⟨x2_2.phis, x2_2.ins, x2_2.jump, x2_2.on, xs2_2⟩ : Block_)), (ys2_2.set (x2_1).toNat xs2_3)))) (fun (e0 : Empty) => nomatch e0))) (fun (e0 : Empty) => nomatch e0))) (((r1_1.length : Int) : Int) - 0).toNat 0 (xs1_1.1, xs1_1.2)) (Sum.elim (fun xs1_2 => some (.inl (xs1_2.1, xs1_2.2))) (fun (e0 : Empty) => nomatch e0))) (((c_.blocks.length : Int) : Int) - 0).toNat 0 (r0_1.blocks, r0_2)) (Sum.elim (fun xs0_1 => Option.bind (impl_settle (⟨r0_1.params, r0_1.regs, xs0_1.1⟩ : Code_) xs0_1.2) fun r0_4 => some r0_4) (fun (e0 : Empty) => nomatch e0))

noncomputable def impl_onlyValid (u : Unit_) (ok : Bool) : Option (Unit_ × Bool) :=
  Option.bind (if !(ok) then some true else Option.bind (impl_UnitValid u) fun r1_1 => some (!(r1_1)) : Option (Bool)) fun s0_1 => if s0_1 then some ((⟨[]⟩ : Unit_), false) else some (u, true)

noncomputable def impl_SplitEdges (u : Unit_) : Option (Unit_ × Bool) :=
  Option.bind (impl_perCode u (fun y0 => impl_splitCode y0)) fun r0_1 => Option.bind (impl_onlyValid r0_1.1 r0_1.2) fun r0_2 => some (r0_2.1, r0_2.2)

noncomputable def laws_eqIntS (a_ : List Int) (b_ : List Int) : Option (Bool) :=
  if decide (((a_.length : Int)) ≠ ((b_.length : Int))) then some false else Option.bind (forN (S := Unit) (X := Bool) (fun i1_1 xs1_1 => Option.bind (getI a_ i1_1) fun x1_1 => Option.bind (getI b_ i1_1) fun x1_2 => if decide (x1_1 ≠ x1_2) then some (.inr false) else some (.inl ())) (((a_.length : Int) : Int) - 0).toNat 0 ()) (Sum.elim (fun xs0_1 => some true) (fun e0 => some e0))

noncomputable def laws_eqPhi (a_ : Phi_) (b_ : Phi_) : Option (Bool) :=
  if decide (a_.to ≠ b_.to) then some false else Option.bind (laws_eqIntS a_.args b_.args) fun r0_1 => if !(r0_1) then some false else some true

noncomputable def laws_eqPhiS (a_ : List Phi_) (b_ : List Phi_) : Option (Bool) :=
  if decide (((a_.length : Int)) ≠ ((b_.length : Int))) then some false else Option.bind (forN (S := Unit) (X := Bool) (fun i1_1 xs1_1 => Option.bind (getI a_ i1_1) fun x1_1 => Option.bind (getI b_ i1_1) fun x1_2 => Option.bind (laws_eqPhi x1_1 x1_2) fun r1_1 => if !(r1_1) then some (.inr false) else some (.inl ())) (((a_.length : Int) : Int) - 0).toNat 0 ()) (Sum.elim (fun xs0_1 => some true) (fun e0 => some e0))

noncomputable def laws_eqIns (a_ : Ins_) (b_ : Ins_) : Option (Bool) :=
  if decide (a_.op ≠ b_.op) then some false else if decide (a_.to ≠ b_.to) then some false else Option.bind (laws_eqIntS a_.args b_.args) fun r0_1 => if !(r0_1) then some false else if decide (a_.n_ ≠ b_.n_) then some false else some true

noncomputable def laws_eqInsS (a_ : List Ins_) (b_ : List Ins_) : Option (Bool) :=
  if decide (((a_.length : Int)) ≠ ((b_.length : Int))) then some false else Option.bind (forN (S := Unit) (X := Bool) (fun i1_1 xs1_1 => Option.bind (getI a_ i1_1) fun x1_1 => Option.bind (getI b_ i1_1) fun x1_2 => Option.bind (laws_eqIns x1_1 x1_2) fun r1_1 => if !(r1_1) then some (.inr false) else some (.inl ())) (((a_.length : Int) : Int) - 0).toNat 0 ()) (Sum.elim (fun xs0_1 => some true) (fun e0 => some e0))

noncomputable def laws_eqBlock (a_ : Block_) (b_ : Block_) : Option (Bool) :=
  Option.bind (laws_eqPhiS a_.phis b_.phis) fun r0_1 => if !(r0_1) then some false else Option.bind (laws_eqInsS a_.ins b_.ins) fun r0_2 => if !(r0_2) then some false else if decide (a_.jump ≠ b_.jump) then some false else if decide (a_.on ≠ b_.on) then some false else Option.bind (laws_eqIntS a_.next_ b_.next_) fun r0_3 => if !(r0_3) then some false else some true

noncomputable def laws_eqBlockS (a_ : List Block_) (b_ : List Block_) : Option (Bool) :=
  if decide (((a_.length : Int)) ≠ ((b_.length : Int))) then some false else Option.bind (forN (S := Unit) (X := Bool) (fun i1_1 xs1_1 => Option.bind (getI a_ i1_1) fun x1_1 => Option.bind (getI b_ i1_1) fun x1_2 => Option.bind (laws_eqBlock x1_1 x1_2) fun r1_1 => if !(r1_1) then some (.inr false) else some (.inl ())) (((a_.length : Int) : Int) - 0).toNat 0 ()) (Sum.elim (fun xs0_1 => some true) (fun e0 => some e0))

noncomputable def laws_eqCode (a_ : Code_) (b_ : Code_) : Option (Bool) :=
  if decide (a_.params ≠ b_.params) then some false else if decide (a_.regs ≠ b_.regs) then some false else Option.bind (laws_eqBlockS a_.blocks b_.blocks) fun r0_1 => if !(r0_1) then some false else some true

noncomputable def laws_eqCodeS (a_ : List Code_) (b_ : List Code_) : Option (Bool) :=
  if decide (((a_.length : Int)) ≠ ((b_.length : Int))) then some false else Option.bind (forN (S := Unit) (X := Bool) (fun i1_1 xs1_1 => Option.bind (getI a_ i1_1) fun x1_1 => Option.bind (getI b_ i1_1) fun x1_2 => Option.bind (laws_eqCode x1_1 x1_2) fun r1_1 => if !(r1_1) then some (.inr false) else some (.inl ())) (((a_.length : Int) : Int) - 0).toNat 0 ()) (Sum.elim (fun xs0_1 => some true) (fun e0 => some e0))

noncomputable def laws_eqUnit (a_ : Unit_) (b_ : Unit_) : Option (Bool) :=
  Option.bind (laws_eqCodeS a_.codes b_.codes) fun r0_1 => if !(r0_1) then some false else some true

noncomputable def laws_markIntS (a_ : List Int) (k_ : Int) : Option (Int × (List Int)) :=
  Option.bind (forN (S := (List Int) × Int) (X := Empty) (fun i1_1 xs1_1 => Option.bind (getI xs1_1.1 i1_1) fun x1_1 => some (.inl ((xs1_1.1.set (i1_1).toNat xs1_1.2), w64 (xs1_1.2 + 1)))) (((a_.length : Int) : Int) - 0).toNat 0 (a_, k_)) (Sum.elim (fun xs0_1 => some (xs0_1.2, xs0_1.1)) (fun (e0 : Empty) => nomatch e0))

noncomputable def laws_markPhiS (a_ : List Phi_) (k_ : Int) : Option (Int × (List Phi_)) :=
  Option.bind (forN (S := (List Phi_) × Int) (X := Empty) (fun i1_1 xs1_1 => Option.bind (getI xs1_1.1 i1_1) fun x1_1 => Option.bind (laws_markIntS x1_1.args (w64 (xs1_1.2 + 1))) fun r1_1 => some (.inl (((xs1_1.1.set (i1_1).toNat (⟨xs1_1.2, x1_1.args⟩ : Phi_)).set (i1_1).toNat (⟨xs1_1.2, r1_1.2⟩ : Phi_)), r1_1.1))) (((a_.length : Int) : Int) - 0).toNat 0 (a_, k_)) (Sum.elim (fun xs0_1 => some (xs0_1.2, xs0_1.1)) (fun (e0 : Empty) => nomatch e0))

noncomputable def laws_markInsS (a_ : List Ins_) (k_ : Int) : Option (Int × (List Ins_)) :=
  Option.bind (forN (S := (List Ins_) × Int) (X := Empty) (fun i1_1 xs1_1 => Option.bind (getI xs1_1.1 i1_1) fun x1_1 => Option.bind (laws_markIntS x1_1.args (w64 ((w64 (xs1_1.2 + 1)) + 1))) fun r1_1 => Option.bind (getI (((xs1_1.1.set (i1_1).toNat (⟨xs1_1.2, x1_1.to, x1_1.args, x1_1.n_⟩ : Ins_)).set (i1_1).toNat (⟨xs1_1.2, w64 (xs1_1.2 + 1), x1_1.args, x1_1.n_⟩ : Ins_)).set (i1_1).toNat (⟨xs1_1.2, w64 (xs1_1.2 + 1), r1_1.2, x1_1.n_⟩ : Ins_)) i1_1) fun x1_2 => some (.inl (((((xs1_1.1.set (i1_1).toNat (⟨xs1_1.2, x1_1.to, x1_1.args, x1_1.n_⟩ : Ins_)).set (i1_1).toNat (⟨xs1_1.2, w64 (xs1_1.2 + 1), x1_1.args, x1_1.n_⟩ : Ins_)).set (i1_1).toNat (⟨xs1_1.2, w64 (xs1_1.2 + 1), r1_1.2, x1_1.n_⟩ : Ins_)).set (i1_1).toNat (⟨x1_2.op, x1_2.to, x1_2.args, r1_1.1⟩ : Ins_)), w64 (r1_1.1 + 1)))) (((a_.length : Int) : Int) - 0).toNat 0 (a_, k_)) (Sum.elim (fun xs0_1 => some (xs0_1.2, xs0_1.1)) (fun (e0 : Empty) => nomatch e0))

noncomputable def laws_markBlockS (a_ : List Block_) (k_ : Int) : Option (Int × (List Block_)) :=
  Option.bind (forN (S := (List Block_) × Int) (X := Empty) (fun i1_1 xs1_1 => Option.bind (getI xs1_1.1 i1_1) fun x1_1 => Option.bind (laws_markPhiS x1_1.phis xs1_1.2) fun r1_1 => Option.bind (getI (xs1_1.1.set (i1_1).toNat (⟨r1_1.2, x1_1.ins, x1_1.jump, x1_1.on, x1_1.next_⟩ : Block_)) i1_1) fun x1_2 => Option.bind (laws_markInsS x1_2.ins r1_1.1) fun r1_2 => Option.bind (getI ((xs1_1.1.set (i1_1).toNat (⟨r1_1.2, x1_1.ins, x1_1.jump, x1_1.on, x1_1.next_⟩ : Block_)).set (i1_1).toNat (⟨x1_2.phis, r1_2.2, x1_2.jump, x1_2.on, x1_2.next_⟩ : Block_)) i1_1) fun x1_3 => Option.bind (laws_markIntS x1_3.next_ (w64 ((w64 (r1_2.1 + 1)) + 1))) fun r1_3 => some (.inl ((((((xs1_1.1.set (i1_1).toNat (⟨r1_1.2, x1_1.ins, x1_1.jump, x1_1.on, x1_1.next_⟩ : Block_)).set (i1_1).toNat (⟨x1_2.phis, r1_2.2, x1_2.jump, x1_2.on, x1_2.next_⟩ : Block_)).set (i1_1).toNat (⟨x1_3.phis, x1_3.ins, r1_2.1, x1_3.on, x1_3.next_⟩ : Block_)).set (i1_1).toNat (⟨x1_3.phis, x1_3.ins, r1_2.1, w64 (r1_2.1 + 1), x1_3.next_⟩ : Block_)).set (i1_1).toNat (⟨x1_3.phis, x1_3.ins, r1_2.1, w64 (r1_2.1 + 1), r1_3.2⟩ : Block_)), r1_3.1))) (((a_.length : Int) : Int) - 0).toNat 0 (a_, k_)) (Sum.elim (fun xs0_1 => some (xs0_1.2, xs0_1.1)) (fun (e0 : Empty) => nomatch e0))

noncomputable def laws_markCodeS (a_ : List Code_) (k_ : Int) : Option (Int × (List Code_)) :=
  Option.bind (forN (S := (List Code_) × Int) (X := Empty) (fun i1_1 xs1_1 => Option.bind (getI xs1_1.1 i1_1) fun x1_1 => Option.bind (laws_markBlockS x1_1.blocks (w64 ((w64 (xs1_1.2 + 1)) + 1))) fun r1_1 => some (.inl ((((xs1_1.1.set (i1_1).toNat (⟨xs1_1.2, x1_1.regs, x1_1.blocks⟩ : Code_)).set (i1_1).toNat (⟨xs1_1.2, w64 (xs1_1.2 + 1), x1_1.blocks⟩ : Code_)).set (i1_1).toNat (⟨xs1_1.2, w64 (xs1_1.2 + 1), r1_1.2⟩ : Code_)), r1_1.1))) (((a_.length : Int) : Int) - 0).toNat 0 (a_, k_)) (Sum.elim (fun xs0_1 => some (xs0_1.2, xs0_1.1)) (fun (e0 : Empty) => nomatch e0))

noncomputable def laws_markUnit (a_ : Unit_) (k_ : Int) : Option (Int × (List Code_)) :=
  Option.bind (laws_markCodeS a_.codes k_) fun r0_1 => some (r0_1.1, r0_1.2)

noncomputable def laws_heldIntS (a_ : List Int) (k_ : Int) : Option (Int) :=
  Option.bind (forN (S := Int) (X := Int) (fun i1_1 xs1_1 => Option.bind (getI a_ i1_1) fun x1_1 => if decide (x1_1 ≠ xs1_1) then some (.inr (-1)) else some (.inl (w64 (xs1_1 + 1)))) (((a_.length : Int) : Int) - 0).toNat 0 k_) (Sum.elim (fun xs0_1 => some xs0_1) (fun e0 => some e0))

noncomputable def laws_heldPhiS (a_ : List Phi_) (k_ : Int) : Option (Int) :=
  Option.bind (forN (S := Int) (X := Int) (fun i1_1 xs1_1 => Option.bind (getI a_ i1_1) fun x1_1 => if decide (x1_1.to ≠ xs1_1) then some (.inr (-1)) else Option.bind (laws_heldIntS x1_1.args (w64 (xs1_1 + 1))) fun r1_1 => if decide (r1_1 < 0) then some (.inr (-1)) else some (.inl r1_1)) (((a_.length : Int) : Int) - 0).toNat 0 k_) (Sum.elim (fun xs0_1 => some xs0_1) (fun e0 => some e0))

noncomputable def laws_heldInsS (a_ : List Ins_) (k_ : Int) : Option (Int) :=
  Option.bind (forN (S := Int) (X := Int) (fun i1_1 xs1_1 => Option.bind (getI a_ i1_1) fun x1_1 => if decide (x1_1.op ≠ xs1_1) then some (.inr (-1)) else if decide (x1_1.to ≠ (w64 (xs1_1 + 1))) then some (.inr (-1)) else Option.bind (laws_heldIntS x1_1.args (w64 ((w64 (xs1_1 + 1)) + 1))) fun r1_1 => if decide (r1_1 < 0) then some (.inr (-1)) else if decide (x1_1.n_ ≠ r1_1) then some (.inr (-1)) else some (.inl (w64 (r1_1 + 1)))) (((a_.length : Int) : Int) - 0).toNat 0 k_) (Sum.elim (fun xs0_1 => some xs0_1) (fun e0 => some e0))

noncomputable def laws_heldBlockS (a_ : List Block_) (k_ : Int) : Option (Int) :=
  Option.bind (forN (S := Int) (X := Int) (fun i1_1 xs1_1 => Option.bind (getI a_ i1_1) fun x1_1 => Option.bind (laws_heldPhiS x1_1.phis xs1_1) fun r1_1 => if decide (r1_1 < 0) then some (.inr (-1)) else Option.bind (laws_heldInsS x1_1.ins r1_1) fun r1_2 => if decide (r1_2 < 0) then some (.inr (-1)) else if decide (x1_1.jump ≠ r1_2) then some (.inr (-1)) else if decide (x1_1.on ≠ (w64 (r1_2 + 1))) then some (.inr (-1)) else Option.bind (laws_heldIntS x1_1.next_ (w64 ((w64 (r1_2 + 1)) + 1))) fun r1_3 => if decide (r1_3 < 0) then some (.inr (-1)) else some (.inl r1_3)) (((a_.length : Int) : Int) - 0).toNat 0 k_) (Sum.elim (fun xs0_1 => some xs0_1) (fun e0 => some e0))

noncomputable def laws_heldCodeS (a_ : List Code_) (k_ : Int) : Option (Int) :=
  Option.bind (forN (S := Int) (X := Int) (fun i1_1 xs1_1 => Option.bind (getI a_ i1_1) fun x1_1 => if decide (x1_1.params ≠ xs1_1) then some (.inr (-1)) else if decide (x1_1.regs ≠ (w64 (xs1_1 + 1))) then some (.inr (-1)) else Option.bind (laws_heldBlockS x1_1.blocks (w64 ((w64 (xs1_1 + 1)) + 1))) fun r1_1 => if decide (r1_1 < 0) then some (.inr (-1)) else some (.inl r1_1)) (((a_.length : Int) : Int) - 0).toNat 0 k_) (Sum.elim (fun xs0_1 => some xs0_1) (fun e0 => some e0))

noncomputable def laws_heldUnit (a_ : Unit_) (k_ : Int) : Option (Int) :=
  Option.bind (laws_heldCodeS a_.codes k_) fun r0_1 => if decide (r0_1 < 0) then some (-1) else some r0_1

noncomputable def laws_FnExactSplitEdges (aU : Unit_) : Option (Bool) :=
  Option.bind (laws_szUnit aU 1048576) fun r0_1 => if decide (r0_1 < 0) then some true else Option.bind (laws_toUnit aU) fun r0_2 => Option.bind (spec_SplitEdges r0_2) fun r0_3 => Option.bind (laws_toUnit aU) fun r0_4 => Option.bind (impl_SplitEdges r0_4) fun r0_5 => Option.bind (Option.bind (laws_eqUnit r0_5.1 r0_3.1) fun r1_1 => if !(r1_1) then some true else some (decide (r0_5.2 ≠ r0_3.2)) : Option (Bool)) fun s0_1 => if s0_1 then some false else Option.bind (laws_toUnit aU) fun r0_6 => Option.bind (laws_eqUnit r0_4 r0_6) fun r0_7 => if !(r0_7) then some false else Option.bind (laws_markUnit r0_4 1) fun r0_8 => Option.bind (if decide (r0_8.1 < 0) then some true else Option.bind (laws_eqUnit r0_5.1 r0_3.1) fun r1_2 => if !(r1_2) then some true else some (decide (r0_5.2 ≠ r0_3.2)) : Option (Bool)) fun s0_2 => if s0_2 then some false else Option.bind (laws_markUnit r0_5.1 1) fun r0_9 => Option.bind (laws_heldUnit (⟨r0_9.2⟩ : Unit_) 1) fun r0_10 => if decide (r0_10 < 0) then some false else if decide (r0_10 ≠ r0_9.1) then some false else Option.bind (laws_toUnit aU) fun r0_11 => Option.bind (impl_SplitEdges r0_11) fun r0_12 => Option.bind (Option.bind (laws_eqUnit r0_12.1 r0_3.1) fun r1_3 => if !(r1_3) then some true else some (decide (r0_12.2 ≠ r0_3.2)) : Option (Bool)) fun s0_3 => if s0_3 then some false else Option.bind (laws_heldUnit (⟨r0_9.2⟩ : Unit_) 1) fun r0_13 => if decide (r0_13 < 0) then some false else if decide (r0_13 ≠ r0_9.1) then some false else some true

end Go.Wk
