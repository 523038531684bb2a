/- SameRuns of impl and spec agree on drawn units, and a unit has the same runs as itself. -/
import Derived.Test.YtjbcoilagfdidaaRows
import Derived.Test.YtjbcoilagfdidaaSaWalks
import Derived.Test.YtjbcoilagfdidaaSaZ
import Derived.Test.YtjbcoilagfdidaaWkQ
import Derived.JoinedCond
namespace Go.Proofs.Ytjbcoilagfdidaa.fnSameRuns
open Go Go.Wk Go.ChangeShapes Go.WideShapes Go.RowKit
set_option maxRecDepth 10000

theorem own : ownKnob Try.prog.godebug = none := by kernel_rfl
theorem laidOut : laidOutB Try.prog = true := by kernel_rfl

theorem op5 : Opn Try.prog UInt8 (fun m => True) 5 :=
  op_u8 Try.underlying5
theorem op37 : Opn Try.prog (List UInt8) (fun m => (m.length ≤ 140737488351232 ∧ ∀ ym_ ∈ m, True)) 37 :=
  op_list Try.underlying37 (by kernel_rfl) (by decide) (of_decide_eq_true (by kernel_rfl)) op5

theorem contract (H : Type) (enc : TypeId × Value → H) (W : World) (base : Nat) (args : Array Value) (ds gs : List (DataW H)) (before : List MemPlace)
    (hval : ∀ (j : Nat) t v, Try.f7.params[j]? = some t → args[j]? = some v → Value.okWide Try.prog W .any base t v)
    (hW : DataW.Whole enc Try.prog Try.f7.params.toList Rows.fnSameRunsSpec.vars false W args.toList ds gs before)
    (hsz : (DataW.weightsEach Try.prog (Try.f7.params.toList ++ Rows.fnSameRunsSpec.plain.varTypes Try.prog) (ds ++ gs)).all (· ≤ reachBytes) = true) :
    Calls Try.prog 7 args W fun e W' => ∃ v, e = .returned v ∧ Rows.fnSameRunsSpec.post enc Try.prog Try.f7 false true false false W args v W' := by
  have hW' := hW
  obtain ⟨p, q, hA0, hV, rfl, hfz, hnd⟩ := hW
  have hA : DataW.TrodAll enc Try.prog W 0 (fun _ => true) true Try.f7.params.toList args.toList ds p := hA0
  rw [Try.params7] at hA hval hsz
  have hwt : ∀ n ∈ DataW.weightsEach Try.prog [37] (ds ++ gs), n ≤ reachBytes := fun n hn =>
    of_decide_eq_true (List.all_eq_true.1 hsz n hn)
  obtain ⟨v0, vs0, d0, ds0, p0, q0, hargs, rfl, rfl, h0, r0⟩ := trodAll_cons hA
  obtain ⟨rfl, rfl, rfl⟩ := trodAll_nil r0
  obtain rfl : args = #[v0] := by cases args; simp_all
  obtain ⟨rfl, rfl⟩ := trodVars_none hV
  clear hA0 hA r0 hfz hnd
  simp only [List.append_nil, List.cons_append, List.nil_append] at hwt
  obtain ⟨m0, g0, k0⟩ := op_arg op37 h0 (fun n hn => hwt n (by simp [DataW.weightsEach, hn]))
  rw [arg_cells (by rw [Try.underlying37]; trivial) (hval 0 37 v0 rfl rfl)] at g0
  have hc := laws_FnSameRuns_ok W m0 v0 g0 true (Unt.lawSameD m0)
  refine hc.mono fun e W' h => ?_
  cases e with
  | returned v =>
    obtain ⟨rfl, hb⟩ := h
    exact ⟨_, rfl, post_true laidOut (by rw [Try.params7]; exact of_decide_eq_true (by kernel_rfl)) rfl Try.underlying4 rfl rfl hW' hb⟩
  | _ => exact h.elim

set_option maxRecDepth 100000 in
theorem lifted (os : Os) (started : os.Started) (H : Type) (enc : TypeId × Value → H) :
    ReturnsInHanded {} Try.checked os 7 .any (Rows.fnSameRunsSpec.pre6 enc Try.prog Try.f7 Rows.fnSameRunsRow.domain false) (Rows.fnSameRunsSpec.post enc Try.prog Try.f7 false true false false) := by
  refine returnsInHanded_of_change_sized (C := Try.checked) own started (by kernel_rfl) Try.func7
    (ChangeSpec.witness6 (enc := enc) (C := Try.checked) false ⟨#[], #[(.slice none 0 0)], []⟩ 8 (by kernel_rfl) (by kernel_rfl) (by kernel_rfl) (by kernel_rfl)) ?_
  intro W base args ds gs before hval hW _ hsz _
  exact contract H enc W base args ds gs before hval hW hsz

/-- THE ROW. -/
theorem proved : Rows.FnSameRunsSaid :=
  OpenClaim.holds_of_wide 7 Try.f7 rfl rfl rfl rfl rfl rfl rfl ⟨rfl, rfl, rfl, rfl, rfl⟩ rfl rfl rfl rfl rfl (by kernel_rfl) Try.func7 (by kernel_rfl)
    (of_decide_eq_true (by kernel_rfl)) (by unfold Func.isWrapper; first | (rw [if_pos (by decide +kernel)]; kernel_rfl) | (rw [if_neg (by decide +kernel)]; exact ⟨rfl, rfl⟩))
    (fun os started H enc _ => lifted os started H enc)
end Go.Proofs.Ytjbcoilagfdidaa.fnSameRuns
