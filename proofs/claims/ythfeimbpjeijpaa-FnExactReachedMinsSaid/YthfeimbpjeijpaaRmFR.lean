/- For all functions the program's ReachedMins gives what the reference's gives, leaves its argument as it was and returns memory of its own; with no condition. -/
import Derived.Test.YthfeimbpjeijpaaRows
import Derived.Test.YthfeimbpjeijpaaRmWalks
import Derived.Test.YthfeimbpjeijpaaRmA
import Derived.Test.YthfeimbpjeijpaaWkS
import Derived.JoinedCond
namespace Go.Proofs.Ythfeimbpjeijpaa.fnExactReachedMins
open Go Go.Wk Go.ChangeShapes Go.WideShapes Go.RowKit
set_option maxRecDepth 10000

theorem own : ownKnob Try.prog.godebug = none := by kernel_rfl
theorem laidOut : laidOutB Try.prog = true := by kernel_rfl

theorem op3 : Opn Try.prog Int (fun m => (-9223372036854775808 ≤ m ∧ m < 9223372036854775808)) 3 :=
  op_int Try.underlying3
theorem op89 : Opn Try.prog Mins (fun m => ((-9223372036854775808 ≤ m.op ∧ m.op < 9223372036854775808) ∧ (-9223372036854775808 ≤ m.a_ ∧ m.a_ < 9223372036854775808) ∧ (-9223372036854775808 ≤ m.b ∧ m.b < 9223372036854775808) ∧ (-9223372036854775808 ≤ m.c ∧ m.c < 9223372036854775808) ∧ (-9223372036854775808 ≤ m.n_ ∧ m.n_ < 9223372036854775808))) 89 :=
  by
  have hs := op_struct Try.underlying89 rfl (by kernel_rfl) (opf_cons rfl (by kernel_rfl) op3 (opf_cons rfl (by kernel_rfl) op3 (opf_cons rfl (by kernel_rfl) op3 (opf_cons rfl (by kernel_rfl) op3 (opf_last rfl (by kernel_rfl) op3)))))
  exact op_map (β := Int × Int × Int × Int × Int) (fun b => ⟨b.1, b.2.1, b.2.2.1, b.2.2.2.1, b.2.2.2.2⟩) (by rintro h cs ⟨a0, a1, a2, a3, a4⟩ ⟨_, _, rfl, rfl, _, _, rfl, rfl, _, _, rfl, rfl, _, _, rfl, rfl, rfl⟩; rfl) (fun _ h => h) hs
theorem op22 : Opn Try.prog (List Mins) (fun m => (m.length ≤ 140737488351232 ∧ ∀ ym_ ∈ m, ((-9223372036854775808 ≤ ym_.op ∧ ym_.op < 9223372036854775808) ∧ (-9223372036854775808 ≤ ym_.a_ ∧ ym_.a_ < 9223372036854775808) ∧ (-9223372036854775808 ≤ ym_.b ∧ ym_.b < 9223372036854775808) ∧ (-9223372036854775808 ≤ ym_.c ∧ ym_.c < 9223372036854775808) ∧ (-9223372036854775808 ≤ ym_.n_ ∧ ym_.n_ < 9223372036854775808)))) 22 :=
  op_list Try.underlying22 (by kernel_rfl) (by decide) (of_decide_eq_true (by kernel_rfl)) op89
theorem op24 : Opn Try.prog Mfn (fun m => ((-9223372036854775808 ≤ m.params ∧ m.params < 9223372036854775808) ∧ (-9223372036854775808 ≤ m.slots ∧ m.slots < 9223372036854775808) ∧ (m.ins.length ≤ 140737488351232 ∧ ∀ ymins_ ∈ m.ins, ((-9223372036854775808 ≤ ymins_.op ∧ ymins_.op < 9223372036854775808) ∧ (-9223372036854775808 ≤ ymins_.a_ ∧ ymins_.a_ < 9223372036854775808) ∧ (-9223372036854775808 ≤ ymins_.b ∧ ymins_.b < 9223372036854775808) ∧ (-9223372036854775808 ≤ ymins_.c ∧ ymins_.c < 9223372036854775808) ∧ (-9223372036854775808 ≤ ymins_.n_ ∧ ymins_.n_ < 9223372036854775808))))) 24 :=
  by
  have hs := op_struct Try.underlying24 rfl (by kernel_rfl) (opf_cons rfl (by kernel_rfl) op3 (opf_cons rfl (by kernel_rfl) op3 (opf_last rfl (by kernel_rfl) op22)))
  exact op_map (β := Int × Int × (List Mins)) (fun b => ⟨b.1, b.2.1, b.2.2⟩) (fun _ _ _ h => h) (fun _ h => h) hs

theorem contract (H : Type) (enc : TypeId × Value → H) (W : World) (base : Nat) (args : Array Value) (ds gs : List (DataW H)) (before : List MemPlace)
    (hval : ∀ (j : Nat) t v, Try.f3.params[j]? = some t → args[j]? = some v → Value.okWide Try.prog W .any base t v)
    (hW : DataW.Whole enc Try.prog Try.f3.params.toList Rows.fnExactReachedMinsSpec.vars false W args.toList ds gs before)
    (hsz : (DataW.weightsEach Try.prog (Try.f3.params.toList ++ Rows.fnExactReachedMinsSpec.plain.varTypes Try.prog) (ds ++ gs)).all (· ≤ reachBytes) = true) :
    Calls Try.prog 3 args W fun e W' => ∃ v, e = .returned v ∧ Rows.fnExactReachedMinsSpec.post enc Try.prog Try.f3 false true false false W args v W' := by
  have hW' := hW
  obtain ⟨p, q, hA0, hV, rfl, hfz, hnd⟩ := hW
  have hA : DataW.TrodAll enc Try.prog W 0 (fun _ => true) true Try.f3.params.toList args.toList ds p := hA0
  rw [Try.params3] at hA hval hsz
  have hwt : ∀ n ∈ DataW.weightsEach Try.prog [24] (ds ++ gs), n ≤ reachBytes := fun n hn =>
    of_decide_eq_true (List.all_eq_true.1 hsz n hn)
  obtain ⟨v0, vs0, d0, ds0, p0, q0, hargs, rfl, rfl, h0, r0⟩ := trodAll_cons hA
  obtain ⟨rfl, rfl, rfl⟩ := trodAll_nil r0
  obtain rfl : args = #[v0] := by cases args; simp_all
  obtain ⟨rfl, rfl⟩ := trodVars_none hV
  clear hA0 hA r0 hfz hnd
  simp only [List.append_nil, List.cons_append, List.nil_append] at hwt
  obtain ⟨m0, g0, k0⟩ := op_arg op24 h0 (fun n hn => hwt n (by simp [DataW.weightsEach, hn]))
  obtain ⟨c0, rfl, z0⟩ := okWide_struct Try.underlying24 (hval 0 24 v0 rfl rfl)
  obtain ⟨_, _, e, rfl, _, _, rfl, rfl, s1⟩ := g0
  obtain ⟨xs1, rfl, -⟩ := id s1
  obtain rfl : c0 = #[(.int .i64 (m0.params)), (.int .i64 (m0.slots)), xs1] := Array.ext' e
  clear e
  have hc := laws_FnExactReachedMins_ok W m0 xs1 s1 true (Reach.law m0 (by have := k0.2.2.1; omega))
  refine hc.mono fun e W' h => ?_
  cases e with
  | returned v =>
    obtain ⟨rfl, hb⟩ := h
    exact ⟨_, rfl, post_true laidOut (by rw [Try.params3]; exact of_decide_eq_true (by kernel_rfl)) rfl Try.underlying4 rfl rfl hW' hb⟩
  | _ => exact h.elim

set_option maxRecDepth 100000 in
theorem lifted (os : Os) (started : os.Started) (H : Type) (enc : TypeId × Value → H) :
    ReturnsInHanded {} Try.checked os 3 .any (Rows.fnExactReachedMinsSpec.pre6 enc Try.prog Try.f3 Rows.fnExactReachedMinsRow.domain false) (Rows.fnExactReachedMinsSpec.post enc Try.prog Try.f3 false true false false) := by
  refine returnsInHanded_of_change_sized (C := Try.checked) own started (by kernel_rfl) Try.func3
    (ChangeSpec.witness6 (enc := enc) (C := Try.checked) false ⟨#[], #[(.agg #[(.int .i64 (0)), (.int .i64 (0)), (.slice none 0 0)])], []⟩ 8 (by kernel_rfl) (by kernel_rfl) (by kernel_rfl) (by kernel_rfl)) ?_
  intro W base args ds gs before hval hW _ hsz _
  exact contract H enc W base args ds gs before hval hW hsz

/-- THE ROW. -/
theorem proved : Rows.FnExactReachedMinsSaid :=
  OpenClaim.holds_of_wide 3 Try.f3 rfl rfl rfl rfl rfl rfl rfl ⟨rfl, rfl, rfl, rfl, rfl⟩ rfl rfl rfl rfl rfl (by kernel_rfl) Try.func3 (by kernel_rfl)
    (of_decide_eq_true (by kernel_rfl)) (by unfold Func.isWrapper; first | (rw [if_pos (by decide +kernel)]; kernel_rfl) | (rw [if_neg (by decide +kernel)]; exact ⟨rfl, rfl⟩))
    (fun os started H enc _ => lifted os started H enc)
end Go.Proofs.Ythfeimbpjeijpaa.fnExactReachedMins
