/- The law FnEncodeMins answers true for every argument, whatever the listed table's world; no condition beyond the row's own. -/
import Derived.Test.YtmhjfaoefcdelaaDoorCards
import Derived.Test.YtmhjfaoefcdelaaDoorTie
import Derived.Test.YtmhjfaoefcdelaaDoorTwWalks
import Derived.Test.YtmhjfaoefcdelaaDoorTwPEnm
import Derived.Test.YtmhjfaoefcdelaaDoorWkR
import Derived.JoinedCond
namespace Go.Proofs.YtmhjfaoefcdelaaDoor.fnEncodeMins
open Go Go.Wk Go.ChangeShapes Go.WideShapes Go.RowKit
set_option maxRecDepth 4000

theorem own : ownKnob Tryd.prog.godebug = none := by kernel_rfl
theorem laidOut : laidOutB Tryd.prog = true := by kernel_rfl

theorem op5 : Opn Tryd.prog UInt8 (fun m => True) 5 :=
  op_u8 Tryd.underlying5
theorem op24 : Opn Tryd.prog (List UInt8) (fun m => (m.length ≤ 140737488351232 ∧ ∀ ym_ ∈ m, True)) 24 :=
  op_list Tryd.underlying24 (by kernel_rfl) (by decide) (of_decide_eq_true (by kernel_rfl)) op5

theorem opx9 : Opx Tryd.prog Str (fun _ m => .lit (.string m.b)) 9 := opx_str Tryd.underlying9
theorem opx3 : Opx Tryd.prog Int (fun _ m => .lit (.int .i64 m)) 3 := opx_int Tryd.underlying3
theorem opx62 : Opx Tryd.prog form (fun _ m => .agg [.lit (.string m.name.b), .lit (.int .i64 m.fields)]) 62 := by
  have hs := opx_struct Tryd.underlying62 rfl (by kernel_rfl) (opxf_cons rfl (by kernel_rfl) opx9 (opxf_last rfl (by kernel_rfl) opx3))
  exact opx_map (β := Str × Int) (fun b => ⟨b.1, b.2⟩) (by rintro h cs ⟨a0, a1⟩ ⟨_, _, rfl, rfl, rfl⟩; rfl) (fun _ _ => rfl) hs
theorem inj62 : ∀ a b : form, (.agg [.lit (.string a.name.b), .lit (.int .i64 a.fields)] : DataW Unit) = .agg [.lit (.string b.name.b), .lit (.int .i64 b.fields)] → a = b := by
  intro a b h
  cases a; cases b
  simp only [DataW.agg.injEq, List.cons.injEq, DataW.lit.injEq, Lit.string.injEq, Lit.int.injEq, true_and, and_true] at h
  obtain ⟨h0, h1⟩ := h
  obtain rfl := Str.ext' h0
  subst h1
  rfl

theorem gTab : Tryd.prog.globalNamed "loop.example/wholeway/impl.forms" = some 0 := by kernel_rfl
theorem gTabType : (Tryd.prog.globals[0]?).map (·.type) = some 91 := by kernel_rfl
/-- What the list of the row gives. -/
theorem table {W : World} (h : laidMetH Tryd.prog Rows.fnEncodeMinsRow.laid W) : GT.rep (hp W) [.slice (some ⟨0, 0, none⟩) 23 23] glob_impl_forms :=
  table_rep (D := fun _ m => .agg [.lit (.string m.name.b), .lit (.int .i64 m.fields)]) gTab gTabType Tryd.underlying91 (by kernel_rfl) opx62 inj62 (d := Rows.laid_loop_example_wholeway_impl_forms) rfl rfl (by decide) (by kernel_rfl) h

theorem contract (H : Type) (enc : TypeId × Value → H) (W : World) (base : Nat) (args : Array Value) (ds gs : List (DataW H)) (before : List MemPlace)
    (hval : ∀ (j : Nat) t v, Tryd.f4.params[j]? = some t → args[j]? = some v → Value.okWide Tryd.prog W .any base t v)
    (hW : DataW.Whole enc Tryd.prog Tryd.f4.params.toList Rows.fnEncodeMinsSpec.vars false W args.toList ds gs before)
    (hsz : (DataW.weightsEach Tryd.prog (Tryd.f4.params.toList ++ Rows.fnEncodeMinsSpec.plain.varTypes Tryd.prog) (ds ++ gs)).all (· ≤ reachBytes) = true)
    (hL : laidMetH Tryd.prog Rows.fnEncodeMinsRow.laid W) :
    Calls Tryd.prog 4 args W fun e W' => ∃ v, e = .returned v ∧ Rows.fnEncodeMinsSpec.post enc Tryd.prog Tryd.f4 false true false false W args v W' := by
  have hW' := hW
  obtain ⟨p, q, hA0, hV, rfl, hfz, hnd⟩ := hW
  have hA : DataW.TrodAll enc Tryd.prog W 0 (fun _ => true) true Tryd.f4.params.toList args.toList ds p := hA0
  rw [Tryd.params4] at hA hval hsz
  have hwt : ∀ n ∈ DataW.weightsEach Tryd.prog ([24] ++ Rows.fnEncodeMinsSpec.plain.varTypes Tryd.prog) (ds ++ gs), n ≤ reachBytes := fun n hn =>
    of_decide_eq_true (List.all_eq_true.1 hsz n hn)
  obtain ⟨gv, rfl⟩ : ∃ gv, gs = [gv] := by
    match gs, hV with
    | [x], _ => exact ⟨x, rfl⟩
    | [], h => exact h.elim
    | _ :: _ :: _, h =>
      obtain ⟨_, _, _, _, _, _, _, _, _, _, h, _⟩ := h
      exact h.elim
  have hG := table hL
  obtain ⟨v0, vs0, d0, ds0, p0, q0, hargs, rfl, rfl, h0, r0⟩ := trodAll_cons hA
  obtain ⟨rfl, rfl, rfl⟩ := trodAll_nil r0
  obtain rfl : args = #[v0] := by cases args; simp_all
  clear hA0 hA hV r0 hfz hnd
  simp only [List.append_nil, List.cons_append, List.nil_append] at hwt
  obtain ⟨m0, g0, k0⟩ := op_arg op24 h0 (fun n hn => hwt n (by simp [DataW.weightsEach, hn]))
  rw [arg_cells (by rw [Tryd.underlying24]; trivial) (hval 0 24 v0 rfl rfl)] at g0
  have hc := laws_FnEncodeMins_ok W m0 v0 g0 hG true (Lay.lawTwo m0)
  refine hc.mono fun e W' h => ?_
  cases e with
  | returned v =>
    obtain ⟨rfl, hb⟩ := h
    exact ⟨_, rfl, post_true_vars laidOut (by rw [Tryd.params4]; exact of_decide_eq_true (by kernel_rfl)) rfl Tryd.underlying4 (by kernel_rfl) rfl hW' hb⟩
  | _ => exact h.elim

/-- A world for the witness: the table as its text lays it. -/
noncomputable def laidWorld (os : Os) : World :=
  { World.holding Tryd.prog os ⟨#[], #[], []⟩ with heap := (World.holding Tryd.prog os ⟨#[], #[], []⟩).heap.modify 0 fun
      | .cells _ t frozen => .cells #[.string ⟨#[]⟩, .int .i64 0, .string ⟨#[115, 101, 116]⟩, .int .i64 9, .string ⟨#[109, 111, 118, 101]⟩, .int .i64 3, .string ⟨#[97, 100, 100]⟩, .int .i64 7, .string ⟨#[115, 117, 98]⟩, .int .i64 7, .string ⟨#[109, 117, 108]⟩, .int .i64 7, .string ⟨#[100, 105, 118]⟩, .int .i64 7, .string ⟨#[114, 101, 109]⟩, .int .i64 7, .string ⟨#[108, 101, 115, 115]⟩, .int .i64 7, .string ⟨#[115, 97, 109, 101]⟩, .int .i64 7, .string ⟨#[110, 111, 116]⟩, .int .i64 3, .string ⟨#[108, 111, 97, 100]⟩, .int .i64 3, .string ⟨#[115, 116, 111, 114, 101]⟩, .int .i64 3, .string ⟨#[115, 97, 121]⟩, .int .i64 1, .string ⟨#[99, 97, 108, 108]⟩, .int .i64 8, .string ⟨#[107, 101, 101, 112]⟩, .int .i64 9, .string ⟨#[116, 97, 107, 101]⟩, .int .i64 9, .string ⟨#[103, 105, 118, 101]⟩, .int .i64 9, .string ⟨#[102, 101, 116, 99, 104]⟩, .int .i64 9, .string ⟨#[114, 101, 115, 117, 108, 116]⟩, .int .i64 1, .string ⟨#[106, 117, 109, 112]⟩, .int .i64 8, .string ⟨#[98, 114, 97, 110, 99, 104]⟩, .int .i64 9, .string ⟨#[98, 97, 99, 107]⟩, .int .i64 1] t frozen
      | o => o }
theorem laid_met (os : Os) : laidMet Tryd.prog Rows.fnEncodeMinsRow.laid ((laidWorld os).forCall (fun _ _ => 0) ⟨#[], #[(.slice none 0 0)], []⟩).memory :=
  laidMet_of_run' 8 (by kernel_rfl) (by kernel_rfl)
theorem reads (os : Os) {H : Type} (enc : TypeId × Value → H) : ∃ places, DataW.whole enc Tryd.prog ((laidWorld os).forCall (fun _ _ => 0) ⟨#[], #[(.slice none 0 0)], []⟩).memory Tryd.f4.params.toList Rows.fnEncodeMinsSpec.vars false (#[(.slice none 0 0)] : Array Value).toList 8 = some ([.nil], [Rows.laid_loop_example_wholeway_impl_forms], places) :=
  ⟨MemPlace.row ⟨0, 0, none⟩ 46, by kernel_rfl⟩

set_option maxRecDepth 100000 in
theorem lifted (os : Os) (started : os.Started) (H : Type) (enc : TypeId × Value → H) (F : Stop.Interp) :
    ReturnsInHanded {} Tryd.checked os 4 .any ((OpenSpec.ofChange Rows.fnEncodeMinsSpec).preRow enc Tryd.prog Tryd.f4 Rows.fnEncodeMinsRow.domain false Rows.fnEncodeMinsRow.laid) (((OpenSpec.ofChange Rows.fnEncodeMinsSpec).at F).post enc Tryd.prog Tryd.f4 false true false false) := by
  obtain ⟨places, hx⟩ := reads os enc
  refine returnsInHanded_of_row (C := Tryd.checked) (s := OpenSpec.ofChange Rows.fnEncodeMinsSpec) own started (by kernel_rfl) Tryd.func4
    (witness_row_at (enc := enc) (C := Tryd.checked) false (laidWorld os) #[(.slice none 0 0)] rfl (by kernel_rfl) (by kernel_rfl) (by kernel_rfl)
      (OpenSpec.preRow_of_cond 8 hx (by kernel_rfl) (fun k hk => by cases hk) (by kernel_rfl) (laid_met os))) ?_
  intro W base args ds gs before hval hW _ _ hsz hL _ _
  exact contract H enc W base args ds gs before hval hW hsz hL

/-- THE ROW. -/
theorem said : Rows.FnEncodeMinsSaid :=
  OpenClaim.holds_of_cond 4 Tryd.f4 rfl rfl rfl rfl rfl rfl rfl ⟨rfl, rfl, rfl, rfl, rfl⟩ rfl rfl rfl rfl rfl (by kernel_rfl) Tryd.func4 (by kernel_rfl)
    (of_decide_eq_true (by kernel_rfl)) (by unfold Func.isWrapper; first | (rw [if_pos (by decide +kernel)]; kernel_rfl) | (rw [if_neg (by decide +kernel)]; exact ⟨rfl, rfl⟩))
    (fun os started H enc _ F => by rw [OpenClaim.pre_eq_preRow]; exact lifted os started H enc F)

theorem plain (f : FuncId) (fn : Func) (hf : Tryd.pinned.checked.prog.funcNamed "loop.example/wholeway/laws.FnEncodeMins" = some f) (hfn : Tryd.pinned.checked.prog.funcs[f]? = some fn) :
    false = Tryd.pinned.checked.prog.looks [] ∧ ∀ (j : Nat) t, fn.params[j]? = some t → Tryd.pinned.checked.prog.wantsStandIn t = false := by
  obtain rfl : f = 4 := Option.some.inj ((show Tryd.prog.funcNamed "loop.example/wholeway/laws.FnEncodeMins" = some 4 by kernel_rfl).symm.trans hf) |>.symm
  obtain rfl : fn = Tryd.f4 := (Option.some.inj (Tryd.func4.symm.trans hfn)).symm
  refine ⟨by kernel_rfl, fun j t ht => ?_⟩
  rw [Tryd.params4] at ht
  have hall : ([24] : List TypeId).all (fun t => Tryd.prog.wantsStandIn t == false) = true := by kernel_rfl
  have hm : t ∈ ([24] : List TypeId) := by simpa using Array.mem_of_getElem? ht
  have := List.all_eq_true.1 hall t hm
  show Tryd.prog.wantsStandIn t = false
  simpa using this

/-- THE CARD. -/
theorem card : Rows.FnEncodeMinsCardSaid :=
  Claim7.holds_tied_plain_at .later [] _ _ _ _ said (fun _ h => by cases h) (by kernel_rfl) (fun _ h => by cases h) fnEncodeMins_row_tie rfl ⟨rfl, rfl⟩ (by kernel_rfl) rfl plain (by kernel_rfl)
end Go.Proofs.YtmhjfaoefcdelaaDoor.fnEncodeMins
