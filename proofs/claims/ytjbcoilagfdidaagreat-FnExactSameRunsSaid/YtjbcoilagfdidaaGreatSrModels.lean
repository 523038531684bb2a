/- A part of the proof of FnExactSameRunsSaid. -/
import Derived.Test.YtjbcoilagfdidaaGreatSrTypes
namespace Go.Wk
open Go

noncomputable def laws_szIntS (a_ : List Int) (left : Int) : Option (Int) :=
  if decide ((w64 (left - ((a_.length : Int)))) < 0) then some (-1) else some (w64 (left - ((a_.length : Int))))

noncomputable def laws_szPhi (a_ : Phi_) (left : Int) : Option (Int) :=
  Option.bind (laws_szIntS a_.args left) fun r0_1 => if decide (r0_1 < 0) then some (-1) else some r0_1

noncomputable def laws_szPhiS (a_ : List Phi_) (left : Int) : Option (Int) :=
  if decide ((w64 (left - ((a_.length : Int)))) < 0) then some (-1) else Option.bind (forN (S := Int) (X := Int) (fun i1_1 xs1_1 => Option.bind (getI a_ i1_1) fun x1_1 => Option.bind (laws_szPhi x1_1 xs1_1) fun r1_1 => if decide (r1_1 < 0) then some (.inr (-1)) else some (.inl r1_1)) (((a_.length : Int) : Int) - 0).toNat 0 (w64 (left - ((a_.length : Int))))) (Sum.elim (fun xs0_1 => some xs0_1) (fun e0 => some e0))

noncomputable def laws_szIns (a_ : Ins_) (left : Int) : Option (Int) :=
  Option.bind (laws_szIntS a_.args left) fun r0_1 => if decide (r0_1 < 0) then some (-1) else some r0_1

noncomputable def laws_szInsS (a_ : List Ins_) (left : Int) : Option (Int) :=
  if decide ((w64 (left - ((a_.length : Int)))) < 0) then some (-1) else Option.bind (forN (S := Int) (X := Int) (fun i1_1 xs1_1 => Option.bind (getI a_ i1_1) fun x1_1 => Option.bind (laws_szIns x1_1 xs1_1) fun r1_1 => if decide (r1_1 < 0) then some (.inr (-1)) else some (.inl r1_1)) (((a_.length : Int) : Int) - 0).toNat 0 (w64 (left - ((a_.length : Int))))) (Sum.elim (fun xs0_1 => some xs0_1) (fun e0 => some e0))

noncomputable def laws_szBlock (a_ : Block_) (left : Int) : Option (Int) :=
  Option.bind (laws_szPhiS a_.phis left) fun r0_1 => if decide (r0_1 < 0) then some (-1) else Option.bind (laws_szInsS a_.ins r0_1) fun r0_2 => if decide (r0_2 < 0) then some (-1) else Option.bind (laws_szIntS a_.next_ r0_2) fun r0_3 => if decide (r0_3 < 0) then some (-1) else some r0_3

noncomputable def laws_szBlockS (a_ : List Block_) (left : Int) : Option (Int) :=
  if decide ((w64 (left - ((a_.length : Int)))) < 0) then some (-1) else Option.bind (forN (S := Int) (X := Int) (fun i1_1 xs1_1 => Option.bind (getI a_ i1_1) fun x1_1 => Option.bind (laws_szBlock x1_1 xs1_1) fun r1_1 => if decide (r1_1 < 0) then some (.inr (-1)) else some (.inl r1_1)) (((a_.length : Int) : Int) - 0).toNat 0 (w64 (left - ((a_.length : Int))))) (Sum.elim (fun xs0_1 => some xs0_1) (fun e0 => some e0))

noncomputable def laws_szCode (a_ : Code_) (left : Int) : Option (Int) :=
  Option.bind (laws_szBlockS a_.blocks left) fun r0_1 => if decide (r0_1 < 0) then some (-1) else some r0_1

noncomputable def laws_szCodeS (a_ : List Code_) (left : Int) : Option (Int) :=
  if decide ((w64 (left - ((a_.length : Int)))) < 0) then some (-1) else Option.bind (forN (S := Int) (X := Int) (fun i1_1 xs1_1 => Option.bind (getI a_ i1_1) fun x1_1 => Option.bind (laws_szCode x1_1 xs1_1) fun r1_1 => if decide (r1_1 < 0) then some (.inr (-1)) else some (.inl r1_1)) (((a_.length : Int) : Int) - 0).toNat 0 (w64 (left - ((a_.length : Int))))) (Sum.elim (fun xs0_1 => some xs0_1) (fun e0 => some e0))

noncomputable def laws_szUnit (a_ : Unit_) (left : Int) : Option (Int) :=
  Option.bind (laws_szCodeS a_.codes left) fun r0_1 => if decide (r0_1 < 0) then some (-1) else some r0_1

noncomputable def laws_toIntS (a_ : List Int) : Option ((List Int)) :=
  Option.bind (makeM (0 : Int) (a_.length : Int)) fun ys0_1 => Option.bind (forN (S := (List Int)) (X := Empty) (fun i1_1 xs1_1 => Option.bind (getI a_ i1_1) fun x1_1 => Option.bind (getI xs1_1 i1_1) fun x1_2 => some (.inl (xs1_1.set (i1_1).toNat x1_1))) (((a_.length : Int) : Int) - 0).toNat 0 ys0_1) (Sum.elim (fun xs0_1 => some xs0_1) (fun (e0 : Empty) => nomatch e0))

noncomputable def laws_toPhi (a_ : Phi_) : Option (Phi_) :=
  Option.bind (laws_toIntS a_.args) fun r0_1 => some (⟨a_.to, r0_1⟩ : Phi_)

noncomputable def laws_toPhiS (a_ : List Phi_) : Option ((List Phi_)) :=
  Option.bind (makeM ((⟨0, []⟩ : Phi_) : Phi_) (a_.length : Int)) fun ys0_1 => Option.bind (forN (S := (List Phi_)) (X := Empty) (fun i1_1 xs1_1 => Option.bind (getI a_ i1_1) fun x1_1 => Option.bind (laws_toPhi x1_1) fun r1_1 => Option.bind (getI xs1_1 i1_1) fun x1_2 => some (.inl (xs1_1.set (i1_1).toNat r1_1))) (((a_.length : Int) : Int) - 0).toNat 0 ys0_1) (Sum.elim (fun xs0_1 => some xs0_1) (fun (e0 : Empty) => nomatch e0))

noncomputable def laws_toIns (a_ : Ins_) : Option (Ins_) :=
  Option.bind (laws_toIntS a_.args) fun r0_1 => some (⟨a_.op, a_.to, r0_1, a_.n_⟩ : Ins_)

noncomputable def laws_toInsS (a_ : List Ins_) : Option ((List Ins_)) :=
  Option.bind (makeM ((⟨0, 0, [], 0⟩ : Ins_) : Ins_) (a_.length : Int)) fun ys0_1 => Option.bind (forN (S := (List Ins_)) (X := Empty) (fun i1_1 xs1_1 => Option.bind (getI a_ i1_1) fun x1_1 => Option.bind (laws_toIns x1_1) fun r1_1 => Option.bind (getI xs1_1 i1_1) fun x1_2 => some (.inl (xs1_1.set (i1_1).toNat r1_1))) (((a_.length : Int) : Int) - 0).toNat 0 ys0_1) (Sum.elim (fun xs0_1 => some xs0_1) (fun (e0 : Empty) => nomatch e0))

noncomputable def laws_toBlock (a_ : Block_) : Option (Block_) :=
  Option.bind (laws_toPhiS a_.phis) fun r0_1 => Option.bind (laws_toInsS a_.ins) fun r0_2 => Option.bind (laws_toIntS a_.next_) fun r0_3 => some (⟨r0_1, r0_2, a_.jump, a_.on, r0_3⟩ : Block_)

noncomputable def laws_toBlockS (a_ : List Block_) : Option ((List Block_)) :=
  Option.bind (makeM ((⟨[], [], 0, 0, []⟩ : Block_) : Block_) (a_.length : Int)) fun ys0_1 => Option.bind (forN (S := (List Block_)) (X := Empty) (fun i1_1 xs1_1 => Option.bind (getI a_ i1_1) fun x1_1 => Option.bind (laws_toBlock x1_1) fun r1_1 => Option.bind (getI xs1_1 i1_1) fun x1_2 => some (.inl (xs1_1.set (i1_1).toNat r1_1))) (((a_.length : Int) : Int) - 0).toNat 0 ys0_1) (Sum.elim (fun xs0_1 => some xs0_1) (fun (e0 : Empty) => nomatch e0))

noncomputable def laws_toCode (a_ : Code_) : Option (Code_) :=
  Option.bind (laws_toBlockS a_.blocks) fun r0_1 => some (⟨a_.params, a_.regs, r0_1⟩ : Code_)

noncomputable def laws_toCodeS (a_ : List Code_) : Option ((List Code_)) :=
  Option.bind (makeM ((⟨0, 0, []⟩ : Code_) : Code_) (a_.length : Int)) fun ys0_1 => Option.bind (forN (S := (List Code_)) (X := Empty) (fun i1_1 xs1_1 => Option.bind (getI a_ i1_1) fun x1_1 => Option.bind (laws_toCode x1_1) fun r1_1 => Option.bind (getI xs1_1 i1_1) fun x1_2 => some (.inl (xs1_1.set (i1_1).toNat r1_1))) (((a_.length : Int) : Int) - 0).toNat 0 ys0_1) (Sum.elim (fun xs0_1 => some xs0_1) (fun (e0 : Empty) => nomatch e0))

noncomputable def laws_toUnit (a_ : Unit_) : Option (Unit_) :=
  Option.bind (laws_toCodeS a_.codes) fun r0_1 => some (⟨r0_1⟩ : Unit_)

noncomputable def spec_l1In (n_ : Int) (low : Int) (high : Int) : Option (Bool) :=
  Option.bind (if decide (low ≤ n_) then some (decide (n_ ≤ high)) else some false : Option (Bool)) fun s0_1 => some s0_1

noncomputable def spec_l7Regs (c_ : Code_) (list : List Int) : Option (Bool) :=
  Option.bind (forN (S := Unit) (X := Bool) (fun i1_1 xs1_1 => Option.bind (getI list i1_1) fun x1_1 => Option.bind (spec_l1In x1_1 0 (w64 (c_.regs - 1))) fun r1_1 => if !(r1_1) then some (.inr false) else some (.inl ())) (((list.length : Int) : Int) - 0).toNat 0 ()) (Sum.elim (fun xs0_1 => some true) (fun e0 => some e0))

noncomputable def spec_l7Makes (op : Int) : Option (Bool) :=
  Option.bind (Option.bind (spec_l1In op 1 14) fun r1_1 => if r1_1 then if decide (op ≠ 12) then some (decide (op ≠ 13)) else some false else some false : Option (Bool)) fun s0_1 => some s0_1

noncomputable def spec_l7Args (op : Int) : Option (Int) :=
  if decide (op = 1) then some 0 else Option.bind (if decide (op = 2) then some true else if decide (op = 10) then some true else if decide (op = 11) then some true else some (decide (op = 13)) : Option (Bool)) fun s0_1 => if s0_1 then some 1 else Option.bind (Option.bind (spec_l1In op 3 9) fun r1_1 => if r1_1 then some true else some (decide (op = 12)) : Option (Bool)) fun s0_2 => if s0_2 then some 2 else some (-1)

noncomputable def spec_l7Ins (u : Unit_) (k_ : Int) (x_ : Ins_) : Option (Bool) :=
  Option.bind (getI u.codes k_) fun x0_1 => Option.bind (Option.bind (spec_l1In x_.op 1 14) fun r1_1 => if !(r1_1) then some true else Option.bind (spec_l7Regs x0_1 x_.args) fun r1_2 => some (!(r1_2)) : Option (Bool)) fun s0_1 => if s0_1 then some false else Option.bind (Option.bind (spec_l7Makes x_.op) fun r1_3 => Option.bind (spec_l1In x_.to 0 (w64 (x0_1.regs - 1))) fun r1_4 => if decide (r1_3 ≠ r1_4) then some true else Option.bind (spec_l7Makes x_.op) fun r1_5 => if !(r1_5) then some (decide (x_.to ≠ (-1))) else some false : Option (Bool)) fun s0_2 => if s0_2 then some false else if decide (x_.op = 14) then Option.bind (Option.bind (spec_l1In x_.n_ 0 (w64 (k_ - 1))) fun r1_6 => if r1_6 then Option.bind (getI u.codes x_.n_) fun x1_1 => some (decide (((x_.args.length : Int)) = x1_1.params)) else some false : Option (Bool)) fun s0_3 => some s0_3 else Option.bind (Option.bind (spec_l7Args x_.op) fun r1_7 => if decide (((x_.args.length : Int)) = r1_7) then Option.bind (spec_l1In x_.n_ 0 255) fun r1_8 => if r1_8 then if decide (x_.n_ = 0) then some true else some (decide (x_.op = 1)) else some false else some false : Option (Bool)) fun s0_4 => some s0_4

noncomputable def spec_l7Preds (c_ : Code_) (b_ : Int) : Option ((List Int)) :=
  Option.bind (forN (S := (List Int)) (X := Empty) (fun i1_1 xs1_1 => Option.bind (Option.bind (loopM (S := Int) (X := (List Int)) (fun xs3_1 => Option.bind (getI c_.blocks i1_1) fun x3_1 => if decide (xs3_1 < ((x3_1.next_.length : Int))) then Option.bind (getI x3_1.next_ xs3_1) fun x3_2 => if decide (x3_2 = b_) then Option.bind (appM xs1_1 ([i1_1] : List Int)) fun ys3_1 => some (.inr ys3_1) else some (.inl (w64 (xs3_1 + 1))) else some (.inr xs1_1)) 0) (fun e0 => some e0) : Option ((List Int))) fun s1_1 => some (.inl s1_1)) (((c_.blocks.length : Int) : Int) - 0).toNat 0 ([] : List Int)) (Sum.elim (fun xs0_1 => some xs0_1) (fun (e0 : Empty) => nomatch e0))

noncomputable def spec_l7Block (u : Unit_) (k_ : Int) (b_ : Int) : Option (Bool) :=
  Option.bind (getI u.codes k_) fun x0_1 => Option.bind (getI x0_1.blocks b_) fun x0_2 => Option.bind (Option.bind (if decide (x0_2.jump = 1) then if decide (x0_2.on ≠ 0) then some (.inr false) else some (.inl 1) else Option.bind (if decide (x0_2.jump = 2) then some (.inl 2) else if decide (x0_2.jump = 3) then some (.inl 0) else some (.inr false) : Option ((Int) ⊕ (Bool))) (Sum.elim (fun s2_1 => some (.inl s2_1)) (fun e0 => some (.inr e0))) : Option ((Int) ⊕ (Bool))) (Sum.elim (fun s1_1 => some (.inl s1_1)) (fun e0 => some (.inr e0))) : Option ((Int) ⊕ (Bool))) (Sum.elim (fun s0_1 => Option.bind (if decide (((x0_2.next_.length : Int)) ≠ s0_1) then some true else if decide (x0_2.jump ≠ 1) then Option.bind (spec_l1In x0_2.on 0 (w64 (x0_1.regs - 1))) fun r1_1 => some (!(r1_1)) else some false : Option (Bool)) fun s0_2 => if s0_2 then some false else Option.bind (forN (S := Unit) (X := Bool) (fun i1_1 xs1_1 => Option.bind (getI x0_2.next_ i1_1) fun x1_1 => Option.bind (spec_l1In x1_1 1 (((x0_1.blocks.length : Int)) - 1)) fun r1_2 => if !(r1_2) then some (.inr false) else some (.inl ())) (((x0_2.next_.length : Int) : Int) - 0).toNat 0 ()) (Sum.elim (fun xs0_1 => Option.bind (forN (S := Unit) (X := Bool) (fun i1_2 xs1_2 => Option.bind (getI x0_2.ins i1_2) fun x1_2 => Option.bind (spec_l7Ins u k_ x1_2) fun r1_3 => if !(r1_3) then some (.inr false) else some (.inl ())) (((x0_2.ins.length : Int) : Int) - 0).toNat 0 ()) (Sum.elim (fun xs0_2 => Option.bind (spec_l7Preds x0_1 b_) fun r0_3 => Option.bind (forN (S := Unit) (X := Bool) (fun i1_3 xs1_3 => Option.bind (if decide (b_ = 0) then some true else Option.bind (getI x0_2.phis i1_3) fun x2_1 => if decide (((x2_1.args.length : Int)) ≠ ((r0_3.length : Int))) then some true else Option.bind (spec_l7Regs x0_1 x2_1.args) fun r2_1 => if !(r2_1) then some true else Option.bind (spec_l1In x2_1.to 0 (w64 (x0_1.regs - 1))) fun r2_2 => some (!(r2_2)) : Option (Bool)) fun s1_2 => if s1_2 then some (.inr false) else some (.inl ())) (((x0_2.phis.length : Int) : Int) - 0).toNat 0 ()) (Sum.elim (fun xs0_3 => some true) (fun e0 => some e0))) (fun e0 => some e0))) (fun e0 => some e0))) (fun e0 => some e0))

noncomputable def spec_UnitValid (u : Unit_) : Option (Bool) :=
  Option.bind (spec_l1In (u.codes.length : Int) 1 4) fun r0_1 => if !(r0_1) then some false else Option.bind (forN (S := Int) (X := Bool) (fun i1_1 xs1_1 => Option.bind (getI u.codes i1_1) fun x1_1 => Option.bind (Option.bind (spec_l1In x1_1.params 0 3) fun r2_1 => if !(r2_1) then some true else Option.bind (spec_l1In x1_1.regs x1_1.params 300) fun r2_2 => if !(r2_2) then some true else Option.bind (spec_l1In (x1_1.blocks.length : Int) 1 160) fun r2_3 => some (!(r2_3)) : Option (Bool)) fun s1_1 => if s1_1 then some (.inr false) else Option.bind (forN (S := Int) (X := Bool) (fun i2_1 xs2_1 => Option.bind (getI x1_1.blocks i2_1) fun x2_1 => Option.bind (if decide (800 < (w64 ((w64 (xs2_1 + ((x2_1.ins.length : Int)))) + ((x2_1.phis.length : Int))))) then some true else Option.bind (spec_l7Block u i1_1 i2_1) fun r3_1 => some (!(r3_1)) : Option (Bool)) fun s2_1 => if s2_1 then some (.inr false) else some (.inl (w64 ((w64 (xs2_1 + ((x2_1.ins.length : Int)))) + ((x2_1.phis.length : Int)))))) (((x1_1.blocks.length : Int) : Int) - 0).toNat 0 xs1_1) (Sum.elim (fun xs1_2 => some (.inl xs1_2)) (fun e0 => some (.inr e0)))) (((u.codes.length : Int) : Int) - 0).toNat 0 0) (Sum.elim (fun xs0_1 => some true) (fun e0 => some e0))

noncomputable def spec_l5Values (list : List Int) : Option (Bool) :=
  Option.bind (forN (S := Unit) (X := Bool) (fun i1_1 xs1_1 => Option.bind (getI list i1_1) fun x1_1 => Option.bind (spec_l1In x1_1 0 255) fun r1_1 => if !(r1_1) then some (.inr false) else some (.inl ())) (((list.length : Int) : Int) - 0).toNat 0 ()) (Sum.elim (fun xs0_1 => some true) (fun e0 => some e0))

noncomputable def spec_l8Fits (u : Unit_) (in_ : List Int) : Option (Bool) :=
  Option.bind (Option.bind (spec_UnitValid u) fun r1_1 => if r1_1 then Option.bind (spec_l5Values in_) fun r1_2 => if r1_2 then Option.bind (getI u.codes (((u.codes.length : Int)) - 1)) fun x1_1 => some (decide (((in_.length : Int)) = x1_1.params)) else some false else some false : Option (Bool)) fun s0_1 => some s0_1

noncomputable def pspec_l8Run__stop (r_ : l8Run) (end_ : Int) : Option (l8Run) :=
  Option.bind (if !(r_.over) then some (end_, true) else some (r_.out.end_, r_.over) : Option (Int × Bool)) fun s0_1 => some (⟨r_.u, (⟨r_.out.said, s0_1.1, r_.out.value, r_.out.cells⟩ : Outcome_), r_.steps, s0_1.2, r_.trace⟩ : l8Run)

noncomputable def pspec_l8Run__take (r_ : l8Run) : Option (Bool × l8Run) :=
  Option.bind (if decide (r_.steps = 0) then Option.bind (pspec_l8Run__stop r_ 3) fun r1_1 => some (r1_1.out.said, r1_1.out.end_, r1_1.out.value, r1_1.out.cells, r1_1.steps, r1_1.over, r1_1.trace) else some (r_.out.said, r_.out.end_, r_.out.value, r_.out.cells, r_.steps, r_.over, r_.trace) : Option ((List Int) × Int × Int × (List Int) × Int × Bool × (List Int))) fun s0_1 => if s0_1.2.2.2.2.2.1 then some (false, (⟨r_.u, (⟨s0_1.1, s0_1.2.1, s0_1.2.2.1, s0_1.2.2.2.1⟩ : Outcome_), s0_1.2.2.2.2.1, s0_1.2.2.2.2.2.1, s0_1.2.2.2.2.2.2⟩ : l8Run)) else some (true, (⟨r_.u, (⟨s0_1.1, s0_1.2.1, s0_1.2.2.1, s0_1.2.2.2.1⟩ : Outcome_), w64 (s0_1.2.2.2.2.1 - 1), s0_1.2.2.2.2.2.1, s0_1.2.2.2.2.2.2⟩ : l8Run))

noncomputable def pspec_l8Run__phis (r_ : l8Run) (c_ : Code_) (from_ : Int) (b_ : Int) (regs : List Int) : Option ((List Int)) :=
  Option.bind (getI c_.blocks b_) fun x0_1 => if decide (((x0_1.phis.length : Int)) = 0) then some regs else Option.bind (spec_l7Preds c_ b_) fun r0_1 => Option.bind (Option.bind (loopM (S := Int) (X := Int) (fun xs2_1 => Option.bind (getI r0_1 xs2_1) fun x2_1 => if decide (x2_1 ≠ from_) then some (.inl (w64 (xs2_1 + 1))) else some (.inr xs2_1)) 0) (fun e0 => some e0) : Option (Int)) fun s0_1 => Option.bind (forN (S := (List Int)) (X := Empty) (fun i1_1 xs1_1 => Option.bind (getI x0_1.phis i1_1) fun x1_1 => Option.bind (getI x1_1.args s0_1) fun x1_2 => Option.bind (getI regs x1_2) fun x1_3 => Option.bind (appM xs1_1 ([x1_3] : List Int)) fun ys1_1 => some (.inl ys1_1)) (((x0_1.phis.length : Int) : Int) - 0).toNat 0 ([] : List Int)) (Sum.elim (fun xs0_1 => Option.bind (forN (S := (List Int)) (X := Empty) (fun i1_2 xs1_2 => Option.bind (getI xs0_1 i1_2) fun x1_4 => Option.bind (getI x0_1.phis i1_2) fun x1_5 => Option.bind (getI xs1_2 x1_5.to) fun x1_6 => some (.inl (xs1_2.set (x1_5.to).toNat x1_4))) (((xs0_1.length : Int) : Int) - 0).toNat 0 regs) (Sum.elim (fun xs0_2 => some xs0_2) (fun (e0 : Empty) => nomatch e0))) (fun (e0 : Empty) => nomatch e0))

noncomputable def spec_l8Pure (op : Int) : Option (Bool) :=
  Option.bind (spec_l1In op 1 10) fun r0_1 => some r0_1

noncomputable def spec_l5Truth (is : Bool) : Option (Int) :=
  if is then some 1 else some 0

noncomputable def spec_l5Two (op : Int) (a_ : Int) (b_ : Int) : Option (Int × Int) :=
  if decide (op = 3) then some ((w64 (a_ + b_)).tmod 256, 0) else if decide (op = 4) then some ((w64 ((w64 (a_ - b_)) + 256)).tmod 256, 0) else if decide (op = 5) then some ((w64 (a_ * b_)).tmod 256, 0) else if decide (op = 8) then Option.bind (spec_l5Truth (decide (a_ < b_))) fun r0_1 => some (r0_1, 0) else if decide (op = 9) then Option.bind (spec_l5Truth (decide (a_ = b_))) fun r0_2 => some (r0_2, 0) else if decide (b_ = 0) then some (0, 1) else if decide (op = 6) then Option.bind (quoM a_ b_) fun q0_1 => some (w64 (a_.tdiv b_), 0) else Option.bind (remM a_ b_) fun q0_2 => some (a_.tmod b_, 0)

noncomputable def spec_l8Do (op : Int) (a_ : Int) (b_ : Int) : Option (Int × Int) :=
  Option.bind (if decide (op = 1) then some (decide (op = 1)) else some (decide (op = 2)) : Option (Bool)) fun s0_1 => if s0_1 then some (a_, 0) else if decide (op = 10) then Option.bind (spec_l5Truth (decide (a_ = 0))) fun r0_1 => some (r0_1, 0) else Option.bind (spec_l5Two op a_ b_) fun r0_2 => some (r0_2.1, r0_2.2)

mutual
noncomputable def pspec_l8Run__code (r_ : l8Run) (k_ : Int) (in_ : List Int) : Option (Int × l8Run) :=
  Option.bind (getI r_.u.codes k_) fun x0_1 => Option.bind (makeM (0 : Int) x0_1.regs) fun ys0_1 => Option.bind (loopM (S := (List Int) × Int × Int × (List Int) × Int × Bool × (List Int) × (List Int) × Int) (X := Int × l8Run) (fun xs1_1 => Option.bind (getI x0_1.blocks xs1_1.2.2.2.2.2.2.2.2) fun x1_1 => Option.bind (if decide (k_ = (((r_.u.codes.length : Int)) - 1)) then Option.bind (appM xs1_1.2.2.2.2.2.2.1 ([xs1_1.2.2.2.2.2.2.2.2] : List Int)) fun ys2_1 => some ys2_1 else some xs1_1.2.2.2.2.2.2.1 : Option ((List Int))) fun s1_1 => Option.bind (forN (S := (List Int) × Int × Int × (List Int) × Int × Bool × (List Int) × (List Int)) (X := Int × l8Run) (fun i2_1 xs2_1 => Option.bind (pspec_l8Run__take (⟨r_.u, (⟨xs2_1.1, xs2_1.2.1, xs2_1.2.2.1, xs2_1.2.2.2.1⟩ : Outcome_), xs2_1.2.2.2.2.1, xs2_1.2.2.2.2.2.1, xs2_1.2.2.2.2.2.2.1⟩ : l8Run)) fun r2_1 => Option.bind (if r2_1.1 then Option.bind (getI x1_1.ins i2_1) fun x3_1 => Option.bind (pspec_l8Run__ins (⟨r_.u, r2_1.2.out, r2_1.2.steps, r2_1.2.over, r2_1.2.trace⟩ : l8Run) x3_1 xs2_1.2.2.2.2.2.2.2) fun r3_1 => some (r3_1.1.out.said, r3_1.1.out.end_, r3_1.1.out.value, r3_1.1.out.cells, r3_1.1.steps, r3_1.1.over, r3_1.1.trace, r3_1.2) else some (r2_1.2.out.said, r2_1.2.out.end_, r2_1.2.out.value, r2_1.2.out.cells, r2_1.2.steps, r2_1.2.over, r2_1.2.trace, xs2_1.2.2.2.2.2.2.2) : Option ((List Int) × Int × Int × (List Int) × Int × Bool × (List Int) × (List Int))) fun s2_1 => if s2_1.2.2.2.2.2.1 then some (.inr (0, (⟨r_.u, (⟨s2_1.1, s2_1.2.1, s2_1.2.2.1, s2_1.2.2.2.1⟩ : Outcome_), s2_1.2.2.2.2.1, s2_1.2.2.2.2.2.1, s2_1.2.2.2.2.2.2.1⟩ : l8Run))) else some (.inl (s2_1.1, s2_1.2.1, s2_1.2.2.1, s2_1.2.2.2.1, s2_1.2.2.2.2.1, s2_1.2.2.2.2.2.1, s2_1.2.2.2.2.2.2.1, s2_1.2.2.2.2.2.2.2))) (((x1_1.ins.length : Int) : Int) - 0).toNat 0 (xs1_1.1, xs1_1.2.1, xs1_1.2.2.1, xs1_1.2.2.2.1, xs1_1.2.2.2.2.1, xs1_1.2.2.2.2.2.1, s1_1, xs1_1.2.2.2.2.2.2.2.1)) (Sum.elim (fun xs1_2 => Option.bind (pspec_l8Run__take (⟨r_.u, (⟨xs1_2.1, xs1_2.2.1, xs1_2.2.2.1, xs1_2.2.2.2.1⟩ : Outcome_), xs1_2.2.2.2.2.1, xs1_2.2.2.2.2.2.1, xs1_2.2.2.2.2.2.2.1⟩ : l8Run)) fun r1_2 => if !(r1_2.1) then some (.inr (0, (⟨r_.u, r1_2.2.out, r1_2.2.steps, r1_2.2.over, r1_2.2.trace⟩ : l8Run))) else Option.bind (if decide (x1_1.jump = 3) then Option.bind (getI xs1_2.2.2.2.2.2.2.2 x1_1.on) fun x2_1 => some (.inr (x2_1, (⟨r_.u, r1_2.2.out, r1_2.2.steps, r1_2.2.over, r1_2.2.trace⟩ : l8Run))) else Option.bind (if decide (x1_1.jump = 1) then some true else Option.bind (getI xs1_2.2.2.2.2.2.2.2 x1_1.on) fun x3_2 => some (decide (x3_2 ≠ 0)) : Option (Bool)) fun s2_2 => Option.bind (if s2_2 then Option.bind (getI x1_1.next_ 0) fun x3_3 => some x3_3 else Option.bind (getI x1_1.next_ 1) fun x3_4 => some x3_4 : Option (Int)) fun s2_3 => some (.inl s2_3) : Option ((Int) ⊕ (Int × l8Run))) (Sum.elim (fun s1_2 => Option.bind (pspec_l8Run__phis (⟨r_.u, r1_2.2.out, r1_2.2.steps, r1_2.2.over, r1_2.2.trace⟩ : l8Run) x0_1 xs1_1.2.2.2.2.2.2.2.2 s1_2 xs1_2.2.2.2.2.2.2.2) fun r1_3 => some (.inl (r1_2.2.out.said, r1_2.2.out.end_, r1_2.2.out.value, r1_2.2.out.cells, r1_2.2.steps, r1_2.2.over, r1_2.2.trace, r1_3, s1_2))) (fun e0 => some (.inr e0)))) (fun e0 => some (.inr e0)))) (r_.out.said, r_.out.end_, r_.out.value, r_.out.cells, r_.steps, r_.over, r_.trace, (copyL ys0_1 in_ 0 ys0_1.length), 0)) (fun e0 => some e0)
partial_fixpoint

noncomputable def pspec_l8Run__ins (r_ : l8Run) (x_ : Ins_) (regs : List Int) : Option (l8Run × (List Int)) :=
  Option.bind (if decide (0 < ((x_.args.length : Int))) then Option.bind (getI x_.args 0) fun x1_1 => Option.bind (getI regs x1_1) fun x1_2 => some x1_2 else some x_.n_ : Option (Int)) fun s0_1 => Option.bind (if decide (1 < ((x_.args.length : Int))) then Option.bind (getI x_.args 1) fun x1_3 => Option.bind (getI regs x1_3) fun x1_4 => some x1_4 else some 0 : Option (Int)) fun s0_2 => Option.bind (Option.bind (spec_l8Pure x_.op) fun r1_1 => Option.bind (if r1_1 then Option.bind (spec_l8Do x_.op s0_1 s0_2) fun r2_1 => if decide (r2_1.2 ≠ 0) then Option.bind (pspec_l8Run__stop r_ r2_1.2) fun r2_2 => some (.inr ((⟨r_.u, r2_2.out, r2_2.steps, r2_2.over, r2_2.trace⟩ : l8Run), regs)) else Option.bind (getI regs x_.to) fun x2_1 => some (.inl (r_.out.said, r_.out.end_, r_.out.value, r_.out.cells, r_.steps, r_.over, r_.trace, (regs.set (x_.to).toNat r2_1.1))) else Option.bind (if decide (x_.op = 13) then Option.bind (appM r_.out.said ([s0_1] : List Int)) fun ys3_1 => some (ys3_1, r_.out.end_, r_.out.value, r_.out.cells, r_.steps, r_.over, r_.trace, regs) else Option.bind (if decide (x_.op = 14) then Option.bind (forN (S := (List Int)) (X := Empty) (fun i5_1 xs5_1 => Option.bind (getI x_.args i5_1) fun x5_1 => Option.bind (getI regs x5_1) fun x5_2 => Option.bind (appM xs5_1 ([x5_2] : List Int)) fun ys5_1 => some (.inl ys5_1)) (((x_.args.length : Int) : Int) - 0).toNat 0 ([] : List Int)) (Sum.elim (fun xs4_1 => Option.bind (pspec_l8Run__code r_ x_.n_ xs4_1) fun r4_2 => Option.bind (getI regs x_.to) fun x4_1 => some (r4_2.2.out.said, r4_2.2.out.end_, r4_2.2.out.value, r4_2.2.out.cells, r4_2.2.steps, r4_2.2.over, r4_2.2.trace, (regs.set (x_.to).toNat r4_2.1))) (fun (e0 : Empty) => nomatch e0)) else Option.bind (if decide (16 ≤ s0_1) then Option.bind (pspec_l8Run__stop r_ 2) fun r5_1 => some (r5_1.out.said, r5_1.out.end_, r5_1.out.value, r5_1.out.cells, r5_1.steps, r5_1.over, r5_1.trace, regs) else Option.bind (if decide (x_.op = 11) then Option.bind (getI r_.out.cells s0_1) fun x6_1 => Option.bind (getI regs x_.to) fun x6_2 => some (r_.out.cells, (regs.set (x_.to).toNat x6_1)) else Option.bind (getI r_.out.cells s0_1) fun x6_3 => some ((r_.out.cells.set (s0_1).toNat s0_2), regs) : Option ((List Int) × (List Int))) fun s5_1 => some (r_.out.said, r_.out.end_, r_.out.value, s5_1.1, r_.steps, r_.over, r_.trace, s5_1.2) : Option ((List Int) × Int × Int × (List Int) × Int × Bool × (List Int) × (List Int))) fun s4_1 => some (s4_1.1, s4_1.2.1, s4_1.2.2.1, s4_1.2.2.2.1, s4_1.2.2.2.2.1, s4_1.2.2.2.2.2.1, s4_1.2.2.2.2.2.2.1, s4_1.2.2.2.2.2.2.2) : Option ((List Int) × Int × Int × (List Int) × Int × Bool × (List Int) × (List Int))) fun s3_1 => some (s3_1.1, s3_1.2.1, s3_1.2.2.1, s3_1.2.2.2.1, s3_1.2.2.2.2.1, s3_1.2.2.2.2.2.1, s3_1.2.2.2.2.2.2.1, s3_1.2.2.2.2.2.2.2) : Option ((List Int) × Int × Int × (List Int) × Int × Bool × (List Int) × (List Int))) fun s2_1 => some (.inl (s2_1.1, s2_1.2.1, s2_1.2.2.1, s2_1.2.2.2.1, s2_1.2.2.2.2.1, s2_1.2.2.2.2.2.1, s2_1.2.2.2.2.2.2.1, s2_1.2.2.2.2.2.2.2)) : Option (((List Int) × Int × Int × (List Int) × Int × Bool × (List Int) × (List Int)) ⊕ (l8Run × (List Int)))) (Sum.elim (fun s1_1 => some (.inl (s1_1.1, s1_1.2.1, s1_1.2.2.1, s1_1.2.2.2.1, s1_1.2.2.2.2.1, s1_1.2.2.2.2.2.1, s1_1.2.2.2.2.2.2.1, s1_1.2.2.2.2.2.2.2))) (fun e0 => some (.inr e0))) : Option (((List Int) × Int × Int × (List Int) × Int × Bool × (List Int) × (List Int)) ⊕ (l8Run × (List Int)))) (Sum.elim (fun s0_3 => some ((⟨r_.u, (⟨s0_3.1, s0_3.2.1, s0_3.2.2.1, s0_3.2.2.2.1⟩ : Outcome_), s0_3.2.2.2.2.1, s0_3.2.2.2.2.2.1, s0_3.2.2.2.2.2.2.1⟩ : l8Run), s0_3.2.2.2.2.2.2.2)) (fun e0 => some e0))
partial_fixpoint
end

noncomputable def spec_l8Start (u : Unit_) (in_ : List Int) (steps : Int) : Option (l8Run) :=
  Option.bind (Option.bind (makeM (0 : Int) 16) fun pb1_1 => some pb1_1 : Option ((List Int))) fun s0_1 => Option.bind (pspec_l8Run__code (⟨u, (⟨([] : List Int), 0, 0, s0_1⟩ : Outcome_), steps, false, ([] : List Int)⟩ : l8Run) (((u.codes.length : Int)) - 1) in_) fun r0_1 => Option.bind (if !(r0_1.2.over) then some r0_1.1 else some r0_1.2.out.value : Option (Int)) fun s0_2 => some (⟨u, (⟨r0_1.2.out.said, r0_1.2.out.end_, s0_2, r0_1.2.out.cells⟩ : Outcome_), r0_1.2.steps, r0_1.2.over, r0_1.2.trace⟩ : l8Run)

noncomputable def spec_RunUnit (u : Unit_) (in_ : List Int) (steps : Int) : Option (Outcome_ × Bool) :=
  Option.bind (Option.bind (spec_l8Fits u in_) fun r1_1 => if !(r1_1) then some true else Option.bind (spec_l1In steps 0 60000) fun r1_2 => some (!(r1_2)) : Option (Bool)) fun s0_1 => if s0_1 then some ((⟨[], 0, 0, []⟩ : Outcome_), false) else Option.bind (spec_l8Start u in_ steps) fun r0_1 => some (r0_1.out, true)

noncomputable def spec_l5Ints (a_ : List Int) (b_ : List Int) : Option (Bool) :=
  if decide (((a_.length : Int)) ≠ ((b_.length : Int))) then some false else Option.bind (forN (S := Unit) (X := Bool) (fun i1_1 xs1_1 => Option.bind (getI a_ i1_1) fun x1_1 => Option.bind (getI b_ i1_1) fun x1_2 => if decide (x1_1 ≠ x1_2) then some (.inr false) else some (.inl ())) (((a_.length : Int) : Int) - 0).toNat 0 ()) (Sum.elim (fun xs0_1 => some true) (fun e0 => some e0))

noncomputable def spec_SameOutcome (a_ : Outcome_) (b_ : Outcome_) : Option (Bool) :=
  Option.bind (Option.bind (spec_l5Ints a_.said b_.said) fun r1_1 => if r1_1 then if decide (a_.end_ = b_.end_) then if decide (a_.value = b_.value) then Option.bind (spec_l5Ints a_.cells b_.cells) fun r1_2 => some r1_2 else some false else some false else some false : Option (Bool)) fun s0_1 => some s0_1

noncomputable def spec_SameRuns (a_ : Unit_) (b_ : Unit_) (in_ : List Int) (steps : Int) : Option (Bool) :=
  Option.bind (spec_RunUnit a_ in_ steps) fun r0_1 => Option.bind (spec_RunUnit b_ in_ 60000) fun r0_2 => Option.bind (if r0_1.2 then if r0_2.2 then if decide (r0_1.1.end_ = 3) then some true else Option.bind (spec_SameOutcome r0_1.1 r0_2.1) fun r1_1 => some r1_1 else some false else some false : Option (Bool)) fun s0_1 => some s0_1

noncomputable def impl_within (n_ : Int) (low : Int) (high : Int) : Option (Bool) :=
  Option.bind (if decide (low ≤ n_) then some (decide (n_ ≤ high)) else some false : Option (Bool)) fun s0_1 => some s0_1

noncomputable def impl_codeOk_1 (r_ : Int) (c0_ : Code_) : Option (Bool) :=
  Option.bind (impl_within r_ 0 (w64 (c0_.regs - 1))) fun r0_1 => some r0_1

noncomputable def impl_nextCount (jump : Int) : Option (Int) :=
  if decide (jump = 1) then some 1 else if decide (jump = 2) then some 2 else if decide (jump = 3) then some 0 else some (-1)

noncomputable def impl_usesOn (jump : Int) : Option (Bool) :=
  Option.bind (if decide (jump = 2) then some true else some (decide (jump = 3)) : Option (Bool)) fun s0_1 => some s0_1

noncomputable def impl_codeOk_2 (n_ : Int) (c0_ : Code_) : Option (Bool) :=
  Option.bind (impl_within n_ 1 (((c0_.blocks.length : Int)) - 1)) fun r0_1 => some (!(r0_1))

noncomputable def slices_IndexFunc_S_int_int (s_ : List Int) (f : Int → Option Bool) : Option (Int) :=
  Option.bind (forN (S := Unit) (X := Int) (fun i1_1 xs1_1 => Option.bind (getI s_ i1_1) fun x1_1 => Option.bind (f x1_1) fun r1_1 => if r1_1 then some (.inr i1_1) else some (.inl ())) (((s_.length : Int) : Int) - 0).toNat 0 ()) (Sum.elim (fun xs0_1 => some (-1)) (fun e0 => some e0))

noncomputable def slices_ContainsFunc_S_int_int (s_ : List Int) (f : Int → Option Bool) : Option (Bool) :=
  Option.bind (slices_IndexFunc_S_int_int s_ f) fun r0_1 => some (decide (0 ≤ r0_1))

noncomputable def impl_insOk_1 (r_ : Int) (c0_ : Code_) : Option (Bool) :=
  Option.bind (impl_within r_ 0 (w64 (c0_.regs - 1))) fun r0_1 => some r0_1

noncomputable def impl_isIns (op : Int) : Option (Bool) :=
  Option.bind (impl_within op 1 14) fun r0_1 => some r0_1

noncomputable def impl_insOk_2 (r_ : Int) (c0_0_ : Code_) : Option (Bool) :=
  Option.bind (impl_insOk_1 r_ c0_0_) fun r0_1 => some (!(r0_1))

noncomputable def impl_sets (op : Int) : Option (Bool) :=
  Option.bind (Option.bind (impl_isIns op) fun r1_1 => if r1_1 then if decide (op ≠ 12) then some (decide (op ≠ 13)) else some false else some false : Option (Bool)) fun s0_1 => some s0_1

noncomputable def impl_isByte (n_ : Int) : Option (Bool) :=
  Option.bind (impl_within n_ 0 255) fun r0_1 => some r0_1

noncomputable def impl_insArgs (op : Int) : Option (Int) :=
  if decide (op = 1) then some 0 else Option.bind (if decide (op = 2) then some (decide (op = 2)) else Option.bind (if decide (op = 10) then some (decide (op = 10)) else Option.bind (if decide (op = 11) then some (decide (op = 11)) else some (decide (op = 13)) : Option (Bool)) fun s2_1 => some s2_1 : Option (Bool)) fun s1_1 => some s1_1 : Option (Bool)) fun s0_1 => if s0_1 then some 1 else some 2

noncomputable def impl_insOk (u : Unit_) (k_ : Int) (x_ : Ins_) : Option (Bool) :=
  Option.bind (getI u.codes k_) fun x0_1 => Option.bind (Option.bind (impl_isIns x_.op) fun r1_1 => if !(r1_1) then some true else Option.bind (slices_ContainsFunc_S_int_int x_.args (fun y0 => impl_insOk_2 y0 x0_1)) fun r1_2 => some r1_2 : Option (Bool)) fun s0_1 => if s0_1 then some false else Option.bind (Option.bind (impl_sets x_.op) fun r1_3 => if r1_3 then Option.bind (impl_insOk_1 x_.to x0_1) fun r1_4 => if !(r1_4) then some true else Option.bind (impl_sets x_.op) fun r1_5 => if !(r1_5) then some (decide (x_.to ≠ (-1))) else some false else Option.bind (impl_sets x_.op) fun r1_6 => if !(r1_6) then some (decide (x_.to ≠ (-1))) else some false : Option (Bool)) fun s0_2 => if s0_2 then some false else if decide (x_.op = 1) then Option.bind (if decide (((x_.args.length : Int)) = 0) then Option.bind (impl_isByte x_.n_) fun r1_7 => some r1_7 else some false : Option (Bool)) fun s0_3 => some s0_3 else if decide (x_.op = 14) then Option.bind (Option.bind (impl_within x_.n_ 0 (w64 (k_ - 1))) fun r1_8 => if r1_8 then Option.bind (getI u.codes x_.n_) fun x1_1 => some (decide (((x_.args.length : Int)) = x1_1.params)) else some false : Option (Bool)) fun s0_4 => some s0_4 else Option.bind (if decide (x_.n_ = 0) then Option.bind (impl_insArgs x_.op) fun r1_9 => some (decide (((x_.args.length : Int)) = r1_9)) else some false : Option (Bool)) fun s0_5 => some s0_5

noncomputable def impl_codeOk_3 (i_ : Ins_) (c0_ : Unit_) (c1_ : Int) : Option (Bool) :=
  Option.bind (impl_insOk c0_ c1_ i_) fun r0_1 => some (!(r0_1))

noncomputable def slices_IndexFunc_S_impl_Ins_impl_Ins (s_ : List Ins_) (f : Ins_ → Option Bool) : Option (Int) :=
  Option.bind (forN (S := Unit) (X := Int) (fun i1_1 xs1_1 => Option.bind (getI s_ i1_1) fun x1_1 => Option.bind (f x1_1) fun r1_1 => if r1_1 then some (.inr i1_1) else some (.inl ())) (((s_.length : Int) : Int) - 0).toNat 0 ()) (Sum.elim (fun xs0_1 => some (-1)) (fun e0 => some e0))

noncomputable def slices_ContainsFunc_S_impl_Ins_impl_Ins (s_ : List Ins_) (f : Ins_ → Option Bool) : Option (Bool) :=
  Option.bind (slices_IndexFunc_S_impl_Ins_impl_Ins s_ f) fun r0_1 => some (decide (0 ≤ r0_1))

noncomputable def slices_Index_S_int_int (s_ : List Int) (v_ : Int) : Option (Int) :=
  Option.bind (forN (S := Unit) (X := Int) (fun i1_1 xs1_1 => Option.bind (getI s_ i1_1) fun x1_1 => if decide (v_ = x1_1) then some (.inr i1_1) else some (.inl ())) (((s_.length : Int) : Int) - 0).toNat 0 ()) (Sum.elim (fun xs0_1 => some (-1)) (fun e0 => some e0))

noncomputable def slices_Contains_S_int_int (s_ : List Int) (v_ : Int) : Option (Bool) :=
  Option.bind (slices_Index_S_int_int s_ v_) fun r0_1 => some (decide (0 ≤ r0_1))

noncomputable def impl_PredsOf (c_ : Code_) (b_ : Int) : Option ((List Int)) :=
  Option.bind (impl_within b_ 0 (((c_.blocks.length : Int)) - 1)) fun r0_1 => if !(r0_1) then some [] else Option.bind (forN (S := (List Int)) (X := Empty) (fun i1_1 xs1_1 => Option.bind (Option.bind (getI c_.blocks i1_1) fun x2_1 => Option.bind (slices_Contains_S_int_int x2_1.next_ b_) fun r2_1 => Option.bind (if r2_1 then Option.bind (appM xs1_1 ([i1_1] : List Int)) fun ys3_1 => some ys3_1 else some xs1_1 : Option ((List Int))) fun s2_1 => some s2_1 : Option ((List Int))) fun s1_1 => some (.inl s1_1)) (((c_.blocks.length : Int) : Int) - 0).toNat 0 []) (Sum.elim (fun xs0_1 => some xs0_1) (fun (e0 : Empty) => nomatch e0))

noncomputable def impl_codeOk_4 (r_ : Int) (c0_0_ : Code_) : Option (Bool) :=
  Option.bind (impl_codeOk_1 r_ c0_0_) fun r0_1 => some (!(r0_1))

noncomputable def impl_codeOk (u : Unit_) (k_ : Int) : Option (Bool) :=
  Option.bind (getI u.codes k_) fun x0_1 => Option.bind (Option.bind (impl_within x0_1.regs 0 300) fun r1_1 => if !(r1_1) then some true else Option.bind (impl_within x0_1.params 0 (minI 3 x0_1.regs)) fun r1_2 => if !(r1_2) then some true else Option.bind (impl_within (x0_1.blocks.length : Int) 1 160) fun r1_3 => some (!(r1_3)) : Option (Bool)) fun s0_1 => if s0_1 then some false else Option.bind (forN (S := Unit) (X := Bool) (fun i1_1 xs1_1 => Option.bind (getI x0_1.blocks i1_1) fun x1_1 => Option.bind (Option.bind (impl_nextCount x1_1.jump) fun r2_1 => if decide (((x1_1.next_.length : Int)) ≠ r2_1) then some true else Option.bind (impl_usesOn x1_1.jump) fun r2_2 => if r2_2 then Option.bind (impl_codeOk_1 x1_1.on x0_1) fun r2_3 => if !(r2_3) then some true else Option.bind (impl_usesOn x1_1.jump) fun r2_4 => if !(r2_4) then some (decide (x1_1.on ≠ 0)) else some false else Option.bind (impl_usesOn x1_1.jump) fun r2_5 => if !(r2_5) then some (decide (x1_1.on ≠ 0)) else some false : Option (Bool)) fun s1_1 => if s1_1 then some (.inr false) else Option.bind (Option.bind (slices_ContainsFunc_S_int_int x1_1.next_ (fun y0 => impl_codeOk_2 y0 x0_1)) fun r2_6 => if r2_6 then some true else Option.bind (slices_ContainsFunc_S_impl_Ins_impl_Ins x1_1.ins (fun y0 => impl_codeOk_3 y0 u k_)) fun r2_7 => some r2_7 : Option (Bool)) fun s1_2 => if s1_2 then some (.inr false) else Option.bind (impl_PredsOf x0_1 i1_1) fun r1_4 => Option.bind (forN (S := Unit) (X := Bool) (fun i2_1 xs2_1 => Option.bind (getI x1_1.phis i2_1) fun x2_1 => Option.bind (if decide (i1_1 = 0) then some true else Option.bind (impl_codeOk_1 x2_1.to x0_1) fun r3_1 => if !(r3_1) then some true else if decide (((x2_1.args.length : Int)) ≠ ((r1_4.length : Int))) then some true else Option.bind (slices_ContainsFunc_S_int_int x2_1.args (fun y0 => impl_codeOk_4 y0 x0_1)) fun r3_2 => some r3_2 : Option (Bool)) fun s2_1 => if s2_1 then some (.inr false) else some (.inl ())) (((x1_1.phis.length : Int) : Int) - 0).toNat 0 ()) (Sum.elim (fun xs1_2 => some (.inl ())) (fun e0 => some (.inr e0)))) (((x0_1.blocks.length : Int) : Int) - 0).toNat 0 ()) (Sum.elim (fun xs0_1 => some true) (fun e0 => some e0))

noncomputable def impl_codeCount (c_ : Code_) : Option (Int) :=
  Option.bind (forN (S := Int) (X := Empty) (fun i1_1 xs1_1 => Option.bind (getI c_.blocks i1_1) fun x1_1 => some (.inl (w64 (xs1_1 + (((x1_1.phis.length : Int)) + ((x1_1.ins.length : Int))))))) (((c_.blocks.length : Int) : Int) - 0).toNat 0 0) (Sum.elim (fun xs0_1 => some xs0_1) (fun (e0 : Empty) => nomatch e0))

noncomputable def impl_UnitValid (u : Unit_) : Option (Bool) :=
  Option.bind (impl_within (u.codes.length : Int) 1 4) fun r0_1 => if !(r0_1) then some false else Option.bind (forN (S := Int) (X := Bool) (fun i1_1 xs1_1 => Option.bind (getI u.codes i1_1) fun x1_1 => Option.bind (impl_codeOk u i1_1) fun r1_1 => if !(r1_1) then some (.inr false) else Option.bind (impl_codeCount x1_1) fun r1_2 => some (.inl (w64 (xs1_1 + r1_2)))) (((u.codes.length : Int) : Int) - 0).toNat 0 0) (Sum.elim (fun xs0_1 => some (decide (xs0_1 ≤ 800))) (fun e0 => some e0))

noncomputable def impl_mainParams (u : Unit_) : Option (Int) :=
  Option.bind (getI u.codes (((u.codes.length : Int)) - 1)) fun x0_1 => some x0_1.params

noncomputable def impl_bytesOk_1 (v_ : Int) : Option (Bool) :=
  Option.bind (impl_isByte v_) fun r0_1 => some (!(r0_1))

noncomputable def impl_bytesOk (in_ : List Int) (n_ : Int) : Option (Bool) :=
  Option.bind (if decide (((in_.length : Int)) = n_) then Option.bind (slices_ContainsFunc_S_int_int in_ (fun y0 => impl_bytesOk_1 y0)) fun r1_1 => some (!(r1_1)) else some false : Option (Bool)) fun s0_1 => some s0_1

noncomputable def impl_unitRuns (u : Unit_) (in_ : List Int) (steps : Int) : Option (Bool) :=
  Option.bind (Option.bind (impl_UnitValid u) fun r1_1 => if r1_1 then Option.bind (impl_mainParams u) fun r1_2 => Option.bind (impl_bytesOk in_ r1_2) fun r1_3 => if r1_3 then Option.bind (impl_within steps 0 60000) fun r1_4 => some r1_4 else some false else some false : Option (Bool)) fun s0_1 => some s0_1

noncomputable def pimpl_running__code_1 (f : Phi_) (c0_ : List Int) (c1_ : Int) : Option (Int) :=
  Option.bind (getI f.args c1_) fun x0_1 => Option.bind (getI c0_ x0_1) fun x0_2 => some x0_2

noncomputable def impl_mapped_impl_Phi_int (list : List Phi_) (f : Phi_ → Option Int) : Option ((List Int)) :=
  Option.bind (forN (S := (List Int)) (X := Empty) (fun i1_1 xs1_1 => Option.bind (getI list i1_1) fun x1_1 => Option.bind (f x1_1) fun r1_1 => Option.bind (appM xs1_1 ([r1_1] : List Int)) fun ys1_1 => some (.inl ys1_1)) (((list.length : Int) : Int) - 0).toNat 0 []) (Sum.elim (fun xs0_1 => some xs0_1) (fun (e0 : Empty) => nomatch e0))

noncomputable def impl_stop (end_ : Int) : Option ((Unit) ⊕ (Int)) :=
  some (Sum.inr end_)

noncomputable def pimpl_running__tick (m : running) : Option ((running) ⊕ (Int × running)) :=
  Option.bind (if decide (m.used = m.steps) then Option.bind (impl_stop 3) fun r1_1 => Sum.elim (fun q1_1 => some (.inl ())) (fun q1_2 => some (.inr (Sum.inr (q1_2, m)))) r1_1 else some (.inl ()) : Option ((Unit) ⊕ ((running) ⊕ (Int × running)))) (Sum.elim (fun s0_1 => some (Sum.inl (⟨m.u, m.steps, w64 (m.used + 1), m.said, m.cells, m.trace⟩ : running))) (fun e0 => some e0))

noncomputable def pimpl_running__doIns_1 (i_ : Int) (c0_ : List Int) (c1_ : Ins_) : Option (Int) :=
  Option.bind (getI c1_.args i_) fun x0_1 => Option.bind (getI c0_ x0_1) fun x0_2 => some x0_2

noncomputable def pimpl_running__cell (m : running) (n_ : Int) : Option ((Int) ⊕ (Int)) :=
  Option.bind (if decide (16 ≤ n_) then Option.bind (impl_stop 2) fun r1_1 => Sum.elim (fun q1_1 => some (.inl ())) (fun q1_2 => some (.inr (Sum.inr q1_2))) r1_1 else some (.inl ()) : Option ((Unit) ⊕ ((Int) ⊕ (Int)))) (Sum.elim (fun s0_1 => Option.bind (idxA 16 n_) fun x0_1 => some (Sum.inl n_)) (fun e0 => some e0))

noncomputable def impl_arith_1 (yes : Bool) : Option (Int) :=
  if yes then some 1 else some 0

noncomputable def impl_arith (op : Int) (a_ : Int) (b_ : Int) : Option (Int × Bool) :=
  if decide (op = 3) then some ((w64 (a_ + b_)).tmod 256, true) else if decide (op = 4) then some ((w64 ((w64 (a_ - b_)) + 256)).tmod 256, true) else if decide (op = 5) then some ((w64 (a_ * b_)).tmod 256, true) else Option.bind (if decide (op = 6) then some (decide (op = 6)) else some (decide (op = 7)) : Option (Bool)) fun s0_1 => if s0_1 then if decide (b_ = 0) then some (0, false) else if decide (op = 6) then Option.bind (quoM a_ b_) fun q0_1 => some (w64 (a_.tdiv b_), true) else Option.bind (remM a_ b_) fun q0_2 => some (a_.tmod b_, true) else if decide (op = 8) then Option.bind (impl_arith_1 (decide (a_ < b_))) fun r0_1 => some (r0_1, true) else if decide (op = 9) then Option.bind (impl_arith_1 (decide (a_ = b_))) fun r0_2 => some (r0_2, true) else if decide (op = 10) then Option.bind (if decide (a_ ≠ 0) then Option.bind (impl_arith_1 (decide (b_ ≠ 0))) fun r1_1 => some r1_1 else Option.bind (impl_arith_1 false) fun r1_2 => some r1_2 : Option (Int)) fun s0_2 => some (s0_2, true) else Option.bind (impl_arith_1 (decide (a_ = 0))) fun r0_3 => some (r0_3, true)

mutual
noncomputable def pimpl_running__code (m : running) (k_ : Int) (in_ : List Int) (main : Bool) : Option ((Int × running) ⊕ (Int × running)) :=
  Option.bind (getI m.u.codes k_) fun x0_1 => Option.bind (makeM (0 : Int) x0_1.regs) fun ys0_1 => Option.bind (loopM (S := Int × Int × (List Int) × (List Int) × (List Int) × (List Int) × Int × Int) (X := (Int × running) ⊕ (Int × running)) (fun xs1_1 => Option.bind (if main then Option.bind (appM xs1_1.2.2.2.2.1 ([xs1_1.2.2.2.2.2.2.1] : List Int)) fun ys2_1 => some ys2_1 else some xs1_1.2.2.2.2.1 : Option ((List Int))) fun s1_1 => Option.bind (getI x0_1.blocks xs1_1.2.2.2.2.2.2.1) fun x1_1 => Option.bind (if decide (0 ≤ xs1_1.2.2.2.2.2.2.2) then some (decide (0 < ((x1_1.phis.length : Int)))) else some false : Option (Bool)) fun s1_2 => Option.bind (if s1_2 then Option.bind (impl_PredsOf x0_1 xs1_1.2.2.2.2.2.2.1) fun r2_1 => Option.bind (slices_Index_S_int_int r2_1 xs1_1.2.2.2.2.2.2.2) fun r2_2 => Option.bind (impl_mapped_impl_Phi_int x1_1.phis (fun y0 => pimpl_running__code_1 y0 xs1_1.2.2.2.2.2.1 r2_2)) fun r2_3 => Option.bind (forN (S := (List Int)) (X := Empty) (fun i3_1 xs3_1 => Option.bind (getI x1_1.phis i3_1) fun x3_1 => Option.bind (getI r2_3 i3_1) fun x3_2 => Option.bind (getI xs3_1 x3_1.to) fun x3_3 => some (.inl (xs3_1.set (x3_1.to).toNat x3_2))) (((x1_1.phis.length : Int) : Int) - 0).toNat 0 xs1_1.2.2.2.2.2.1) (Sum.elim (fun xs2_1 => some xs2_1) (fun (e0 : Empty) => nomatch e0)) else some xs1_1.2.2.2.2.2.1 : Option ((List Int))) fun s1_3 => Option.bind (forN (S := Int × Int × (List Int) × (List Int) × (List Int) × (List Int)) (X := (Int × running) ⊕ (Int × running)) (fun i2_2 xs2_2 => Option.bind (getI x1_1.ins i2_2) fun x2_1 => Option.bind (pimpl_running__doIns (⟨m.u, xs2_2.1, xs2_2.2.1, xs2_2.2.2.1, xs2_2.2.2.2.1, xs2_2.2.2.2.2.1⟩ : running) x2_1 xs2_2.2.2.2.2.2) fun r2_5 => Sum.elim (fun q2_2 => some (.inl (q2_2.1.steps, q2_2.1.used, q2_2.1.said, q2_2.1.cells, q2_2.1.trace, q2_2.2))) (fun q2_3 => some (.inr (Sum.inr (q2_3.1, (⟨m.u, q2_3.2.1.steps, q2_3.2.1.used, q2_3.2.1.said, q2_3.2.1.cells, q2_3.2.1.trace⟩ : running))))) r2_5) (((x1_1.ins.length : Int) : Int) - 0).toNat 0 (xs1_1.1, xs1_1.2.1, xs1_1.2.2.1, xs1_1.2.2.2.1, s1_1, s1_3)) (Sum.elim (fun xs1_2 => Option.bind (pimpl_running__tick (⟨m.u, xs1_2.1, xs1_2.2.1, xs1_2.2.2.1, xs1_2.2.2.2.1, xs1_2.2.2.2.2.1⟩ : running)) fun r1_2 => Sum.elim (fun q1_2 => Option.bind (if decide (x1_1.jump = 3) then Option.bind (getI xs1_2.2.2.2.2.2 x1_1.on) fun x2_2 => some (.inr (Sum.inl (x2_2, (⟨m.u, q1_2.steps, q1_2.used, q1_2.said, q1_2.cells, q1_2.trace⟩ : running)))) else Option.bind (if decide (x1_1.jump = 2) then Option.bind (getI xs1_2.2.2.2.2.2 x1_1.on) fun x3_4 => some (decide (x3_4 = 0)) else some false : Option (Bool)) fun s2_1 => Option.bind (if s2_1 then Option.bind (getI x1_1.next_ 1) fun x3_5 => some x3_5 else Option.bind (getI x1_1.next_ 0) fun x3_6 => some x3_6 : Option (Int)) fun s2_2 => some (.inl s2_2) : Option ((Int) ⊕ ((Int × running) ⊕ (Int × running)))) (Sum.elim (fun s1_4 => some (.inl (q1_2.steps, q1_2.used, q1_2.said, q1_2.cells, q1_2.trace, xs1_2.2.2.2.2.2, s1_4, xs1_1.2.2.2.2.2.2.1))) (fun e0 => some (.inr e0)))) (fun q1_3 => some (.inr (Sum.inr (q1_3.1, (⟨m.u, q1_3.2.steps, q1_3.2.used, q1_3.2.said, q1_3.2.cells, q1_3.2.trace⟩ : running))))) r1_2) (fun e0 => some (.inr e0)))) (m.steps, m.used, m.said, m.cells, m.trace, (copyL ys0_1 in_ 0 ys0_1.length), 0, -1)) (fun e0 => some e0)
partial_fixpoint

noncomputable def pimpl_running__doIns (m : running) (x_ : Ins_) (regs : List Int) : Option ((running × (List Int)) ⊕ (Int × running × (List Int))) :=
  Option.bind (pimpl_running__tick m) fun r0_1 => Sum.elim (fun q0_1 => Option.bind (Option.bind (if decide (x_.op = 1) then Option.bind (getI regs x_.to) fun x2_1 => some (.inl (q0_1.steps, q0_1.used, q0_1.said, q0_1.cells, q0_1.trace, (regs.set (x_.to).toNat x_.n_))) else Option.bind (if decide (x_.op = 11) then Option.bind (pimpl_running__doIns_1 0 regs x_) fun r3_1 => Option.bind (pimpl_running__cell (⟨m.u, q0_1.steps, q0_1.used, q0_1.said, q0_1.cells, q0_1.trace⟩ : running) r3_1) fun r3_2 => Sum.elim (fun q3_1 => Option.bind (getI regs x_.to) fun x3_1 => some (.inl (q0_1.steps, q0_1.used, q0_1.said, q0_1.cells, q0_1.trace, (regs.set (x_.to).toNat (q0_1.cells.getD (q3_1).toNat 0))))) (fun q3_2 => some (.inr (Sum.inr (q3_2, (⟨m.u, q0_1.steps, q0_1.used, q0_1.said, q0_1.cells, q0_1.trace⟩ : running), regs)))) r3_2 else Option.bind (if decide (x_.op = 12) then Option.bind (pimpl_running__doIns_1 0 regs x_) fun r4_1 => Option.bind (pimpl_running__cell (⟨m.u, q0_1.steps, q0_1.used, q0_1.said, q0_1.cells, q0_1.trace⟩ : running) r4_1) fun r4_2 => Sum.elim (fun q4_1 => Option.bind (pimpl_running__doIns_1 1 regs x_) fun r4_3 => some (.inl (q0_1.steps, q0_1.used, q0_1.said, (setA 16 q0_1.cells (q4_1).toNat r4_3), q0_1.trace, regs))) (fun q4_2 => some (.inr (Sum.inr (q4_2, (⟨m.u, q0_1.steps, q0_1.used, q0_1.said, q0_1.cells, q0_1.trace⟩ : running), regs)))) r4_2 else Option.bind (if decide (x_.op = 13) then Option.bind (pimpl_running__doIns_1 0 regs x_) fun r5_1 => Option.bind (appM q0_1.said ([r5_1] : List Int)) fun ys5_1 => some (.inl (q0_1.steps, q0_1.used, ys5_1, q0_1.cells, q0_1.trace, regs)) else Option.bind (if decide (x_.op = 14) then Option.bind (forN (S := (List Int)) (X := Empty) (fun i7_1 xs7_1 => Option.bind (pimpl_running__doIns_1 i7_1 regs x_) fun r7_1 => Option.bind (appM xs7_1 ([r7_1] : List Int)) fun ys7_1 => some (.inl ys7_1)) (((x_.args.length : Int) : Int) - 0).toNat 0 []) (Sum.elim (fun xs6_1 => Option.bind (pimpl_running__code (⟨m.u, q0_1.steps, q0_1.used, q0_1.said, q0_1.cells, q0_1.trace⟩ : running) x_.n_ xs6_1 false) fun r6_2 => Sum.elim (fun q6_2 => Option.bind (getI regs x_.to) fun x6_1 => some (.inl (q6_2.2.steps, q6_2.2.used, q6_2.2.said, q6_2.2.cells, q6_2.2.trace, (regs.set (x_.to).toNat q6_2.1)))) (fun q6_3 => some (.inr (Sum.inr (q6_3.1, (⟨m.u, q6_3.2.steps, q6_3.2.used, q6_3.2.said, q6_3.2.cells, q6_3.2.trace⟩ : running), regs)))) r6_2) (fun (e0 : Empty) => nomatch e0)) else Option.bind (if decide (x_.op = 2) then Option.bind (pimpl_running__doIns_1 0 regs x_) fun r7_2 => Option.bind (getI regs x_.to) fun x7_1 => some (.inl (regs.set (x_.to).toNat r7_2)) else Option.bind (if decide (x_.op = 10) then Option.bind (pimpl_running__doIns_1 0 regs x_) fun r8_1 => Option.bind (impl_arith 11 r8_1 0) fun r8_2 => Option.bind (getI regs x_.to) fun x8_1 => some (.inl (regs.set (x_.to).toNat r8_2.1)) else Option.bind (pimpl_running__doIns_1 0 regs x_) fun r8_3 => Option.bind (pimpl_running__doIns_1 1 regs x_) fun r8_4 => Option.bind (impl_arith x_.op r8_3 r8_4) fun r8_5 => Option.bind (if !(r8_5.2) then Option.bind (impl_stop 1) fun r9_1 => Sum.elim (fun q9_1 => some (.inl ())) (fun q9_2 => some (.inr (Sum.inr (q9_2, (⟨m.u, q0_1.steps, q0_1.used, q0_1.said, q0_1.cells, q0_1.trace⟩ : running), regs)))) r9_1 else some (.inl ()) : Option ((Unit) ⊕ ((running × (List Int)) ⊕ (Int × running × (List Int))))) (Sum.elim (fun s8_1 => Option.bind (getI regs x_.to) fun x8_2 => some (.inl (regs.set (x_.to).toNat r8_5.1))) (fun e0 => some (.inr e0))) : Option (((List Int)) ⊕ ((running × (List Int)) ⊕ (Int × running × (List Int))))) (Sum.elim (fun s7_1 => some (.inl s7_1)) (fun e0 => some (.inr e0))) : Option (((List Int)) ⊕ ((running × (List Int)) ⊕ (Int × running × (List Int))))) (Sum.elim (fun s6_1 => some (.inl (q0_1.steps, q0_1.used, q0_1.said, q0_1.cells, q0_1.trace, s6_1))) (fun e0 => some (.inr e0))) : Option ((Int × Int × (List Int) × (List Int) × (List Int) × (List Int)) ⊕ ((running × (List Int)) ⊕ (Int × running × (List Int))))) (Sum.elim (fun s5_1 => some (.inl (s5_1.1, s5_1.2.1, s5_1.2.2.1, s5_1.2.2.2.1, s5_1.2.2.2.2.1, s5_1.2.2.2.2.2))) (fun e0 => some (.inr e0))) : Option ((Int × Int × (List Int) × (List Int) × (List Int) × (List Int)) ⊕ ((running × (List Int)) ⊕ (Int × running × (List Int))))) (Sum.elim (fun s4_1 => some (.inl (s4_1.1, s4_1.2.1, s4_1.2.2.1, s4_1.2.2.2.1, s4_1.2.2.2.2.1, s4_1.2.2.2.2.2))) (fun e0 => some (.inr e0))) : Option ((Int × Int × (List Int) × (List Int) × (List Int) × (List Int)) ⊕ ((running × (List Int)) ⊕ (Int × running × (List Int))))) (Sum.elim (fun s3_1 => some (.inl (s3_1.1, s3_1.2.1, s3_1.2.2.1, s3_1.2.2.2.1, s3_1.2.2.2.2.1, s3_1.2.2.2.2.2))) (fun e0 => some (.inr e0))) : Option ((Int × Int × (List Int) × (List Int) × (List Int) × (List Int)) ⊕ ((running × (List Int)) ⊕ (Int × running × (List Int))))) (Sum.elim (fun s2_1 => some (.inl (s2_1.1, s2_1.2.1, s2_1.2.2.1, s2_1.2.2.2.1, s2_1.2.2.2.2.1, s2_1.2.2.2.2.2))) (fun e0 => some (.inr e0))) : Option ((Int × Int × (List Int) × (List Int) × (List Int) × (List Int)) ⊕ ((running × (List Int)) ⊕ (Int × running × (List Int))))) (Sum.elim (fun s1_1 => some (.inl (s1_1.1, s1_1.2.1, s1_1.2.2.1, s1_1.2.2.2.1, s1_1.2.2.2.2.1, s1_1.2.2.2.2.2))) (fun e0 => some (.inr e0))) : Option ((Int × Int × (List Int) × (List Int) × (List Int) × (List Int)) ⊕ ((running × (List Int)) ⊕ (Int × running × (List Int))))) (Sum.elim (fun s0_1 => some (Sum.inl ((⟨m.u, s0_1.1, s0_1.2.1, s0_1.2.2.1, s0_1.2.2.2.1, s0_1.2.2.2.2.1⟩ : running), s0_1.2.2.2.2.2))) (fun e0 => some e0))) (fun q0_2 => some (Sum.inr (q0_2.1, (⟨m.u, q0_2.2.steps, q0_2.2.used, q0_2.2.said, q0_2.2.cells, q0_2.2.trace⟩ : running), regs))) r0_1
partial_fixpoint
end

noncomputable def impl_runUnit_1 (c0_ : running) (c1_ : Unit_) (c2_ : List Int) (c3_ : Outcome_) : Option ((running × Outcome_) ⊕ (Int × running × Outcome_)) :=
  Option.bind (pimpl_running__code c0_ (((c1_.codes.length : Int)) - 1) c2_ true) fun r0_1 => Sum.elim (fun q0_1 => some (Sum.inl ((⟨c0_.u, q0_1.2.steps, q0_1.2.used, q0_1.2.said, q0_1.2.cells, q0_1.2.trace⟩ : running), (⟨c3_.said, c3_.end_, q0_1.1, c3_.cells⟩ : Outcome_)))) (fun q0_2 => some (Sum.inr (q0_2.1, (⟨c0_.u, q0_2.2.steps, q0_2.2.used, q0_2.2.said, q0_2.2.cells, q0_2.2.trace⟩ : running), c3_))) r0_1

noncomputable def slices_Clone_S_int_int (s_ : List Int) : Option ((List Int)) :=
  Option.bind (appM ([] : List Int) s_) fun ys0_1 => some ys0_1

noncomputable def impl_runUnit (u : Unit_) (in_ : List Int) (steps : Int) : Option (Outcome_ × running) :=
  Option.bind (impl_runUnit_1 (⟨u, steps, 0, ([] : List Int), (List.replicate 16 0), ([] : List Int)⟩ : running) u in_ (⟨([] : List Int), 0, 0, ([] : List Int)⟩ : Outcome_)) fun r0_1 => Option.bind (slices_Clone_S_int_int (normA 16 ((caughtM r0_1).2.1.cells))) fun r0_2 => some ((⟨(caughtM r0_1).2.1.said, (caughtM r0_1).1, (caughtM r0_1).2.2.value, r0_2⟩ : Outcome_), (⟨u, (caughtM r0_1).2.1.steps, (caughtM r0_1).2.1.used, (caughtM r0_1).2.1.said, ((caughtM r0_1).2.1.cells), (caughtM r0_1).2.1.trace⟩ : running))

noncomputable def impl_RunUnit (u : Unit_) (in_ : List Int) (steps : Int) : Option (Outcome_ × Bool) :=
  Option.bind (impl_unitRuns u in_ steps) fun r0_1 => if !(r0_1) then some ((⟨[], 0, 0, []⟩ : Outcome_), false) else Option.bind (impl_runUnit u in_ steps) fun r0_2 => some (r0_2.1, true)

noncomputable def slices_Equal_S_int_int (s1 : List Int) (s2 : List Int) : Option (Bool) :=
  if decide (((s1.length : Int)) ≠ ((s2.length : Int))) then some false else Option.bind (forN (S := Unit) (X := Bool) (fun i1_1 xs1_1 => Option.bind (getI s1 i1_1) fun x1_1 => Option.bind (getI s2 i1_1) fun x1_2 => if decide (x1_1 ≠ x1_2) then some (.inr false) else some (.inl ())) (((s1.length : Int) : Int) - 0).toNat 0 ()) (Sum.elim (fun xs0_1 => some true) (fun e0 => some e0))

noncomputable def impl_SameOutcome (a_ : Outcome_) (b_ : Outcome_) : Option (Bool) :=
  Option.bind (Option.bind (slices_Equal_S_int_int a_.said b_.said) fun r1_1 => if r1_1 then if decide (a_.end_ = b_.end_) then if decide (a_.value = b_.value) then Option.bind (slices_Equal_S_int_int a_.cells b_.cells) fun r1_2 => some r1_2 else some false else some false else some false : Option (Bool)) fun s0_1 => some s0_1

noncomputable def impl_SameRuns (a_ : Unit_) (b_ : Unit_) (in_ : List Int) (steps : Int) : Option (Bool) :=
  Option.bind (impl_RunUnit a_ in_ steps) fun r0_1 => Option.bind (impl_RunUnit b_ in_ 60000) fun r0_2 => Option.bind (if r0_1.2 then if r0_2.2 then if decide (r0_1.1.end_ = 3) then some true else Option.bind (impl_SameOutcome r0_1.1 r0_2.1) fun r1_1 => some r1_1 else some false else some false : Option (Bool)) fun s0_1 => some s0_1

noncomputable def laws_eqIntS (a_ : List Int) (b_ : List Int) : Option (Bool) :=
  if decide (((a_.length : Int)) ≠ ((b_.length : Int))) then some false else Option.bind (forN (S := Unit) (X := Bool) (fun i1_1 xs1_1 => Option.bind (getI a_ i1_1) fun x1_1 => Option.bind (getI b_ i1_1) fun x1_2 => if decide (x1_1 ≠ x1_2) then some (.inr false) else some (.inl ())) (((a_.length : Int) : Int) - 0).toNat 0 ()) (Sum.elim (fun xs0_1 => some true) (fun e0 => some e0))

noncomputable def laws_eqPhi (a_ : Phi_) (b_ : Phi_) : Option (Bool) :=
  if decide (a_.to ≠ b_.to) then some false else Option.bind (laws_eqIntS a_.args b_.args) fun r0_1 => if !(r0_1) then some false else some true

noncomputable def laws_eqPhiS (a_ : List Phi_) (b_ : List Phi_) : Option (Bool) :=
  if decide (((a_.length : Int)) ≠ ((b_.length : Int))) then some false else Option.bind (forN (S := Unit) (X := Bool) (fun i1_1 xs1_1 => Option.bind (getI a_ i1_1) fun x1_1 => Option.bind (getI b_ i1_1) fun x1_2 => Option.bind (laws_eqPhi x1_1 x1_2) fun r1_1 => if !(r1_1) then some (.inr false) else some (.inl ())) (((a_.length : Int) : Int) - 0).toNat 0 ()) (Sum.elim (fun xs0_1 => some true) (fun e0 => some e0))

noncomputable def laws_eqIns (a_ : Ins_) (b_ : Ins_) : Option (Bool) :=
  if decide (a_.op ≠ b_.op) then some false else if decide (a_.to ≠ b_.to) then some false else Option.bind (laws_eqIntS a_.args b_.args) fun r0_1 => if !(r0_1) then some false else if decide (a_.n_ ≠ b_.n_) then some false else some true

noncomputable def laws_eqInsS (a_ : List Ins_) (b_ : List Ins_) : Option (Bool) :=
  if decide (((a_.length : Int)) ≠ ((b_.length : Int))) then some false else Option.bind (forN (S := Unit) (X := Bool) (fun i1_1 xs1_1 => Option.bind (getI a_ i1_1) fun x1_1 => Option.bind (getI b_ i1_1) fun x1_2 => Option.bind (laws_eqIns x1_1 x1_2) fun r1_1 => if !(r1_1) then some (.inr false) else some (.inl ())) (((a_.length : Int) : Int) - 0).toNat 0 ()) (Sum.elim (fun xs0_1 => some true) (fun e0 => some e0))

noncomputable def laws_eqBlock (a_ : Block_) (b_ : Block_) : Option (Bool) :=
  Option.bind (laws_eqPhiS a_.phis b_.phis) fun r0_1 => if !(r0_1) then some false else Option.bind (laws_eqInsS a_.ins b_.ins) fun r0_2 => if !(r0_2) then some false else if decide (a_.jump ≠ b_.jump) then some false else if decide (a_.on ≠ b_.on) then some false else Option.bind (laws_eqIntS a_.next_ b_.next_) fun r0_3 => if !(r0_3) then some false else some true

noncomputable def laws_eqBlockS (a_ : List Block_) (b_ : List Block_) : Option (Bool) :=
  if decide (((a_.length : Int)) ≠ ((b_.length : Int))) then some false else Option.bind (forN (S := Unit) (X := Bool) (fun i1_1 xs1_1 => Option.bind (getI a_ i1_1) fun x1_1 => Option.bind (getI b_ i1_1) fun x1_2 => Option.bind (laws_eqBlock x1_1 x1_2) fun r1_1 => if !(r1_1) then some (.inr false) else some (.inl ())) (((a_.length : Int) : Int) - 0).toNat 0 ()) (Sum.elim (fun xs0_1 => some true) (fun e0 => some e0))

noncomputable def laws_eqCode (a_ : Code_) (b_ : Code_) : Option (Bool) :=
  if decide (a_.params ≠ b_.params) then some false else if decide (a_.regs ≠ b_.regs) then some false else Option.bind (laws_eqBlockS a_.blocks b_.blocks) fun r0_1 => if !(r0_1) then some false else some true

noncomputable def laws_eqCodeS (a_ : List Code_) (b_ : List Code_) : Option (Bool) :=
  if decide (((a_.length : Int)) ≠ ((b_.length : Int))) then some false else Option.bind (forN (S := Unit) (X := Bool) (fun i1_1 xs1_1 => Option.bind (getI a_ i1_1) fun x1_1 => Option.bind (getI b_ i1_1) fun x1_2 => Option.bind (laws_eqCode x1_1 x1_2) fun r1_1 => if !(r1_1) then some (.inr false) else some (.inl ())) (((a_.length : Int) : Int) - 0).toNat 0 ()) (Sum.elim (fun xs0_1 => some true) (fun e0 => some e0))

noncomputable def laws_eqUnit (a_ : Unit_) (b_ : Unit_) : Option (Bool) :=
  Option.bind (laws_eqCodeS a_.codes b_.codes) fun r0_1 => if !(r0_1) then some false else some true

noncomputable def laws_FnExactSameRuns (aA : Unit_) (aB : Unit_) (aIn : List Int) (aSteps : Int) : Option (Bool) :=
  if decide (1048576 < ((aIn.length : Int))) then some true else Option.bind (laws_szUnit aA 1048576) fun r0_1 => if decide (r0_1 < 0) then some true else Option.bind (laws_szUnit aB r0_1) fun r0_2 => if decide (r0_2 < 0) then some true else Option.bind (laws_toUnit aA) fun r0_3 => Option.bind (laws_toUnit aB) fun r0_4 => Option.bind (laws_toIntS aIn) fun r0_5 => Option.bind (spec_SameRuns r0_3 r0_4 r0_5 aSteps) fun r0_6 => Option.bind (laws_toUnit aA) fun r0_7 => Option.bind (laws_toUnit aB) fun r0_8 => Option.bind (laws_toIntS aIn) fun r0_9 => Option.bind (impl_SameRuns r0_7 r0_8 r0_9 aSteps) fun r0_10 => if decide (r0_10 ≠ r0_6) then some false else Option.bind (laws_toUnit aA) fun r0_11 => Option.bind (laws_eqUnit r0_7 r0_11) fun r0_12 => if !(r0_12) then some false else Option.bind (laws_toUnit aB) fun r0_13 => Option.bind (laws_eqUnit r0_8 r0_13) fun r0_14 => if !(r0_14) then some false else Option.bind (laws_toIntS aIn) fun r0_15 => Option.bind (laws_eqIntS r0_9 r0_15) fun r0_16 => if !(r0_16) then some false else some true

end Go.Wk
