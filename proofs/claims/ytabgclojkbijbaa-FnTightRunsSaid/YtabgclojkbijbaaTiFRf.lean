/- A unit whose registers are told fresh numbers in the order in which they are met runs as it ran before, on every drawn unit. -/
import Derived.Test.YtabgclojkbijbaaRows
import Derived.Test.YtabgclojkbijbaaTiWalks
import Derived.Test.YtabgclojkbijbaaTiA
import Derived.Test.YtabgclojkbijbaaWkS
import Derived.JoinedCond
namespace Go.Proofs.Ytabgclojkbijbaa.fnTightRuns
open Go Go.Wk Go.ChangeShapes Go.WideShapes Go.RowKit
set_option maxRecDepth 10000
theorem own : ownKnob Try.prog.godebug = none := by kernel_rfl
theorem laidOut : laidOutB Try.prog = true := by kernel_rfl
theorem op5 : Opn Try.prog UInt8 (fun m => True) 5 :=
  op_u8 Try.underlying5
theorem op22 : Opn Try.prog (List UInt8) (fun m => (m.length ≤ 140737488351232 ∧ ∀ ym_ ∈ m, True)) 22 :=
  op_list Try.underlying22 (by kernel_rfl) (by decide) (of_decide_eq_true (by kernel_rfl)) op5
theorem contract (H : Type) (enc : TypeId × Value → H) (W : World) (base : Nat) (args : Array Value) (ds gs : List (DataW H)) (before : List MemPlace)
    (hval : ∀ (j : Nat) t v, Try.f3.params[j]? = some t → args[j]? = some v → Value.okWide Try.prog W .any base t v)
    (hW : DataW.Whole enc Try.prog Try.f3.params.toList Rows.fnTightRunsSpec.vars false W args.toList ds gs before)
    (hsz : (DataW.weightsEach Try.prog (Try.f3.params.toList ++ Rows.fnTightRunsSpec.plain.varTypes Try.prog) (ds ++ gs)).all (· ≤ reachBytes) = true) :
    Calls Try.prog 3 args W fun e W' => ∃ v, e = .returned v ∧ Rows.fnTightRunsSpec.post enc Try.prog Try.f3 false true false false W args v W' := by
  have hW' := hW
  obtain ⟨p, q, hA0, hV, rfl, hfz, hnd⟩ := hW
  have hA : DataW.TrodAll enc Try.prog W 0 (fun _ => true) true Try.f3.params.toList args.toList ds p := hA0
  rw [Try.params3] at hA hval hsz
  have hwt : ∀ n ∈ DataW.weightsEach Try.prog [22] (ds ++ gs), n ≤ reachBytes := fun n hn =>
    of_decide_eq_true (List.all_eq_true.1 hsz n hn)
  obtain ⟨v0, vs0, d0, ds0, p0, q0, hargs, rfl, rfl, h0, r0⟩ := trodAll_cons hA
  obtain ⟨rfl, rfl, rfl⟩ := trodAll_nil r0
  obtain rfl : args = #[v0] := by cases args; simp_all
  obtain ⟨rfl, rfl⟩ := trodVars_none hV
  clear hA0 hA r0 hfz hnd
  simp only [List.append_nil] at hwt
  obtain ⟨m0, g0, k0⟩ := op_arg op22 h0 (fun n hn => hwt n (by simp [DataW.weightsEach, hn]))
  rw [arg_cells (by rw [Try.underlying22]; trivial) (hval 0 22 v0 rfl rfl)] at g0
  have hc := laws_FnTightRuns_ok W m0 v0 g0 true (Unt.lawTight m0)
  refine hc.mono fun e W' h => ?_
  cases e with
  | returned v =>
    obtain ⟨rfl, hb⟩ := h
    exact ⟨_, rfl, post_true laidOut (by rw [Try.params3]; exact of_decide_eq_true (by kernel_rfl)) rfl Try.underlying4 rfl rfl hW' hb⟩
  | _ => exact h.elim
set_option maxRecDepth 100000 in
theorem lifted (os : Os) (started : os.Started) (H : Type) (enc : TypeId × Value → H) :
    ReturnsInHanded {} Try.checked os 3 .any (Rows.fnTightRunsSpec.pre6 enc Try.prog Try.f3 Rows.fnTightRunsRow.domain false) (Rows.fnTightRunsSpec.post enc Try.prog Try.f3 false true false false) := by
  refine returnsInHanded_of_change_sized (C := Try.checked) own started (by kernel_rfl) Try.func3
    (ChangeSpec.witness6 (enc := enc) (C := Try.checked) false ⟨#[], #[(.slice none 0 0)], []⟩ 8 (by kernel_rfl) (by kernel_rfl) (by kernel_rfl) (by kernel_rfl)) ?_
  intro W base args ds gs before hval hW _ hsz _
  exact contract H enc W base args ds gs before hval hW hsz
theorem facts1 : jf1 Try.prog 3 Try.f3 Rows.fnTightRunsSpec Rows.fnTightRunsRow = true := by kernel_rfl
theorem facts2 : jf2 Try.prog 3 Try.f3 Rows.fnTightRunsSpec Rows.fnTightRunsRow = true := by kernel_rfl
theorem facts3 : jf3 Try.prog 3 Try.f3 Rows.fnTightRunsSpec Rows.fnTightRunsRow = true := by kernel_rfl
theorem facts4 : jf4 Try.prog 3 Try.f3 Rows.fnTightRunsSpec Rows.fnTightRunsRow = true := by kernel_rfl
theorem facts5 : jf5 Try.prog 3 Try.f3 Rows.fnTightRunsSpec Rows.fnTightRunsRow = true := by kernel_rfl
theorem facts6 : jf6 Try.prog 3 Try.f3 Rows.fnTightRunsSpec Rows.fnTightRunsRow = true := by kernel_rfl
theorem proved : Rows.FnTightRunsSaid :=
  OpenClaim.holds_of_wide 3 Try.f3 rfl rfl rfl rfl rfl rfl rfl ⟨rfl, rfl, rfl, rfl, rfl⟩ rfl rfl rfl rfl rfl (by kernel_rfl) Try.func3 (jf_all facts1 facts2 facts3 facts4 facts5 facts6)
    (of_decide_eq_true (by kernel_rfl)) (by unfold Func.isWrapper; first | (rw [if_pos (by decide +kernel)]; kernel_rfl) | (rw [if_neg (by decide +kernel)]; exact ⟨rfl, rfl⟩))
    (fun os started H enc _ => lifted os started H enc)
end Go.Proofs.Ytabgclojkbijbaa.fnTightRuns
