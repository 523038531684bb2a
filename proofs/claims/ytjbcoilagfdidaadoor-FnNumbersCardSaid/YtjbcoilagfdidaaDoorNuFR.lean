/- NumbersFor of impl and spec agree on drawn units, and a unit can be run with each of its lists. -/
import Derived.Test.YtjbcoilagfdidaaDoorCards
import Derived.Test.YtjbcoilagfdidaaDoorTie
import Derived.Test.YtjbcoilagfdidaaDoorNuWalks
import Derived.Test.YtjbcoilagfdidaaDoorNuZa
import Derived.Test.YtjbcoilagfdidaaDoorWkAc
import Derived.JoinedCond
namespace Go.Proofs.YtjbcoilagfdidaaDoor.fnNumbers
open Go Go.Wk Go.ChangeShapes Go.WideShapes Go.RowKit
set_option maxRecDepth 4000

theorem own : ownKnob Tryd.prog.godebug = none := by kernel_rfl
theorem laidOut : laidOutB Tryd.prog = true := by kernel_rfl

theorem op5 : Opn Tryd.prog UInt8 (fun m => True) 5 :=
  op_u8 Tryd.underlying5
theorem op22 : Opn Tryd.prog (List UInt8) (fun m => (m.length ≤ 140737488351232 ∧ ∀ ym_ ∈ m, True)) 22 :=
  op_list Tryd.underlying22 (by kernel_rfl) (by decide) (of_decide_eq_true (by kernel_rfl)) op5

theorem opx73 : Opx Tryd.prog Arr3 (fun _ m => .agg [.lit (.int .i64 m.a0), .lit (.int .i64 m.a1), .lit (.int .i64 m.a2)]) 73 := opx_arr3 Tryd.underlying73 Tryd.underlying3 (by kernel_rfl) (by kernel_rfl)
theorem inj73 : ∀ a b : Arr3, (.agg [.lit (.int .i64 a.a0), .lit (.int .i64 a.a1), .lit (.int .i64 a.a2)] : DataW Unit) = .agg [.lit (.int .i64 b.a0), .lit (.int .i64 b.a1), .lit (.int .i64 b.a2)] → a = b := inj_arr3
theorem gTab : Tryd.prog.globalNamed "loop.example/wholeway/impl.tries" = some 0 := by kernel_rfl
theorem gTabType : (Tryd.prog.globals[0]?).map (·.type) = some 74 := by kernel_rfl
/-- What the list of the row gives. -/
theorem table {W : World} (h : laidMetH Tryd.prog Rows.fnNumbersRow.laid W) : GT.rep (hp W) [.slice (some ⟨0, 0, none⟩) 3 3] glob_impl_tries :=
  table_rep (D := fun _ m => .agg [.lit (.int .i64 m.a0), .lit (.int .i64 m.a1), .lit (.int .i64 m.a2)]) gTab gTabType Tryd.underlying74 (by kernel_rfl) opx73 inj73 (d := Rows.laid_loop_example_wholeway_impl_tries) rfl rfl (by decide) (by kernel_rfl) h

theorem contract (H : Type) (enc : TypeId × Value → H) (W : World) (base : Nat) (args : Array Value) (ds gs : List (DataW H)) (before : List MemPlace)
    (hval : ∀ (j : Nat) t v, Tryd.f3.params[j]? = some t → args[j]? = some v → Value.okWide Tryd.prog W .any base t v)
    (hW : DataW.Whole enc Tryd.prog Tryd.f3.params.toList Rows.fnNumbersSpec.vars false W args.toList ds gs before)
    (hsz : (DataW.weightsEach Tryd.prog (Tryd.f3.params.toList ++ Rows.fnNumbersSpec.plain.varTypes Tryd.prog) (ds ++ gs)).all (· ≤ reachBytes) = true)
    (hL : laidMetH Tryd.prog Rows.fnNumbersRow.laid W) :
    Calls Tryd.prog 3 args W fun e W' => ∃ v, e = .returned v ∧ Rows.fnNumbersSpec.post enc Tryd.prog Tryd.f3 false true false false W args v W' := by
  have hW' := hW
  obtain ⟨p, q, hA0, hV, rfl, hfz, hnd⟩ := hW
  have hA : DataW.TrodAll enc Tryd.prog W 0 (fun _ => true) true Tryd.f3.params.toList args.toList ds p := hA0
  rw [Tryd.params3] at hA hval hsz
  have hwt : ∀ n ∈ DataW.weightsEach Tryd.prog ([22] ++ Rows.fnNumbersSpec.plain.varTypes Tryd.prog) (ds ++ gs), n ≤ reachBytes := fun n hn =>
    of_decide_eq_true (List.all_eq_true.1 hsz n hn)
  obtain ⟨gv, rfl⟩ : ∃ gv, gs = [gv] := by
    match gs, hV with
    | [x], _ => exact ⟨x, rfl⟩
    | [], h => exact h.elim
    | _ :: _ :: _, h =>
      obtain ⟨_, _, _, _, _, _, _, _, _, _, h, _⟩ := h
      exact h.elim
  have hG := table hL
  obtain ⟨v0, vs0, d0, ds0, p0, q0, hargs, rfl, rfl, h0, r0⟩ := trodAll_cons hA
  obtain ⟨rfl, rfl, rfl⟩ := trodAll_nil r0
  obtain rfl : args = #[v0] := by cases args; simp_all
  clear hA0 hA hV r0 hfz hnd
  simp only [List.append_nil, List.cons_append, List.nil_append] at hwt
  obtain ⟨m0, g0, k0⟩ := op_arg op22 h0 (fun n hn => hwt n (by simp [DataW.weightsEach, hn]))
  rw [arg_cells (by rw [Tryd.underlying22]; trivial) (hval 0 22 v0 rfl rfl)] at g0
  have hc := laws_FnNumbers_ok W m0 v0 g0 hG true (Unt.lawNums m0)
  refine hc.mono fun e W' h => ?_
  cases e with
  | returned v =>
    obtain ⟨rfl, hb⟩ := h
    exact ⟨_, rfl, post_true_vars laidOut (by rw [Tryd.params3]; exact of_decide_eq_true (by kernel_rfl)) rfl Tryd.underlying4 (by kernel_rfl) rfl hW' hb⟩
  | _ => exact h.elim

/-- A world for the witness: the table as its text lays it. -/
noncomputable def laidWorld (os : Os) : World :=
  { World.holding Tryd.prog os ⟨#[], #[], []⟩ with heap := (World.holding Tryd.prog os ⟨#[], #[], []⟩).heap.modify 0 fun
      | .cells _ t frozen => .cells #[.int .i64 0, .int .i64 0, .int .i64 0, .int .i64 1, .int .i64 2, .int .i64 3, .int .i64 255, .int .i64 16, .int .i64 7] t frozen
      | o => o }
theorem laid_met (os : Os) : laidMet Tryd.prog Rows.fnNumbersRow.laid ((laidWorld os).forCall (fun _ _ => 0) ⟨#[], #[(.slice none 0 0)], []⟩).memory :=
  laidMet_of_run' 8 (by kernel_rfl) (by kernel_rfl)
theorem reads (os : Os) {H : Type} (enc : TypeId × Value → H) : ∃ places, DataW.whole enc Tryd.prog ((laidWorld os).forCall (fun _ _ => 0) ⟨#[], #[(.slice none 0 0)], []⟩).memory Tryd.f3.params.toList Rows.fnNumbersSpec.vars false (#[(.slice none 0 0)] : Array Value).toList 8 = some ([.nil], [Rows.laid_loop_example_wholeway_impl_tries], places) :=
  ⟨MemPlace.row ⟨0, 0, none⟩ 9, by kernel_rfl⟩

set_option maxRecDepth 100000 in
theorem lifted (os : Os) (started : os.Started) (H : Type) (enc : TypeId × Value → H) (F : Stop.Interp) :
    ReturnsInHanded {} Tryd.checked os 3 .any ((OpenSpec.ofChange Rows.fnNumbersSpec).preRow enc Tryd.prog Tryd.f3 Rows.fnNumbersRow.domain false Rows.fnNumbersRow.laid) (((OpenSpec.ofChange Rows.fnNumbersSpec).at F).post enc Tryd.prog Tryd.f3 false true false false) := by
  obtain ⟨places, hx⟩ := reads os enc
  refine returnsInHanded_of_row (C := Tryd.checked) (s := OpenSpec.ofChange Rows.fnNumbersSpec) own started (by kernel_rfl) Tryd.func3
    (witness_row_at (enc := enc) (C := Tryd.checked) false (laidWorld os) #[(.slice none 0 0)] rfl (by kernel_rfl) (by kernel_rfl) (by kernel_rfl)
      (OpenSpec.preRow_of_cond 8 hx (by kernel_rfl) (fun k hk => by cases hk) (by kernel_rfl) (laid_met os))) ?_
  intro W base args ds gs before hval hW _ _ hsz hL _ _
  exact contract H enc W base args ds gs before hval hW hsz hL

/-- THE ROW. -/
theorem said : Rows.FnNumbersSaid :=
  OpenClaim.holds_of_cond 3 Tryd.f3 rfl rfl rfl rfl rfl rfl rfl ⟨rfl, rfl, rfl, rfl, rfl⟩ rfl rfl rfl rfl rfl (by kernel_rfl) Tryd.func3 (by kernel_rfl)
    (of_decide_eq_true (by kernel_rfl)) (by unfold Func.isWrapper; first | (rw [if_pos (by decide +kernel)]; kernel_rfl) | (rw [if_neg (by decide +kernel)]; exact ⟨rfl, rfl⟩))
    (fun os started H enc _ F => by rw [OpenClaim.pre_eq_preRow]; exact lifted os started H enc F)

theorem plain (f : FuncId) (fn : Func) (hf : Tryd.pinned.checked.prog.funcNamed "loop.example/wholeway/laws.FnNumbers" = some f) (hfn : Tryd.pinned.checked.prog.funcs[f]? = some fn) :
    true = Tryd.pinned.checked.prog.looks [] ∧ ∀ (j : Nat) t, fn.params[j]? = some t → Tryd.pinned.checked.prog.wantsStandIn t = false := by
  obtain rfl : f = 3 := Option.some.inj ((show Tryd.prog.funcNamed "loop.example/wholeway/laws.FnNumbers" = some 3 by kernel_rfl).symm.trans hf) |>.symm
  obtain rfl : fn = Tryd.f3 := (Option.some.inj (Tryd.func3.symm.trans hfn)).symm
  refine ⟨by kernel_rfl, fun j t ht => ?_⟩
  rw [Tryd.params3] at ht
  have hall : ([22] : List TypeId).all (fun t => Tryd.prog.wantsStandIn t == false) = true := by kernel_rfl
  have hm : t ∈ ([22] : List TypeId) := by simpa using Array.mem_of_getElem? ht
  have := List.all_eq_true.1 hall t hm
  show Tryd.prog.wantsStandIn t = false
  simpa using this

/-- THE CARD. -/
theorem card : Rows.FnNumbersCardSaid :=
  Claim7.holds_tied_plain_at .later [] _ _ _ _ said (fun _ h => by cases h) (by kernel_rfl) (fun _ h => by cases h) fnNumbers_row_tie rfl ⟨rfl, rfl⟩ (by kernel_rfl) rfl plain (by kernel_rfl)
end Go.Proofs.YtjbcoilagfdidaaDoor.fnNumbers
