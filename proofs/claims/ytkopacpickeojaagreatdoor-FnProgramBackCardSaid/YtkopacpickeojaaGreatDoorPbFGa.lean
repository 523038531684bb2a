/- A drawn program's text is the same on both sides, and reads back as that program. -/
import Derived.Test.YtkopacpickeojaaGreatDoorCards
import Derived.Test.YtkopacpickeojaaGreatDoorTie
import Derived.Test.YtkopacpickeojaaGreatDoorPbWalks
import Derived.Test.YtkopacpickeojaaGreatDoorPbAb
import Derived.Test.YtkopacpickeojaaGreatDoorWkAd
import Derived.JoinedCond
import Derived.Deep.DeepLaidRun
namespace Go.Proofs.YtkopacpickeojaaGreatDoor.fnProgramBack
open Go Go.Wk Go.ChangeShapes Go.WideShapes Go.RowKit Go.Deep
set_option maxRecDepth 4000
theorem own : ownKnob Tryz.prog.godebug = none := by kernel_rfl
theorem br1 : laidOutB Tryz.prog = true := by kernel_rfl
theorem op5 : Opn Tryz.prog UInt8 (fun m => True) 5 :=
 bz8 Tryz.underlying5
theorem cf3 : Opn Tryz.prog (List UInt8) (fun m => (m.length ≤ 140737488351232 ∧ ∀ ym_ ∈ m, True)) 22 :=
 bq3 Tryz.underlying22 (by kernel_rfl) (by decide) (of_decide_eq_true (by kernel_rfl)) op5
theorem ca2 : Opx Tryz.prog Str (fun _ m => .lit (.string m.b)) 9 := bo1 Tryz.underlying9
theorem cf5 : ∀ a b : Str, (.lit (.string a.b) : DataW Unit) = .lit (.string b.b) → a = b := by
 intro a b h
 simp only [DataW.lit.injEq, Lit.string.injEq] at h
 exact Str.ext' h
theorem cd1 : Opx Tryz.prog Int (fun _ m => .lit (.int .i64 m)) 3 := bp7 Tryz.underlying3
theorem bw9 : Opx Tryz.prog k9 (fun _ m => .agg [.lit (.string m.sign.b), .lit (.int .i64 m.level)]) 146 := by
 have hs := ap5 Tryz.underlying146 rfl (by kernel_rfl) (ay8 rfl (by kernel_rfl) ca2 (ay0 rfl (by kernel_rfl) cd1))
 exact bo2 (β := Str × Int) (fun b => ⟨b.1, b.2⟩) (by rintro h cs ⟨a0, a1⟩ ⟨_, _, rfl, rfl, rfl⟩; rfl) (fun _ _ => rfl) hs
theorem bv6 : ∀ a b : k9, (.agg [.lit (.string a.sign.b), .lit (.int .i64 a.level)] : DataW Unit) = .agg [.lit (.string b.sign.b), .lit (.int .i64 b.level)] → a = b := by
 intro a b h
 cases a; cases b
 simp only [DataW.agg.injEq, List.cons.injEq, DataW.lit.injEq, Lit.string.injEq, Lit.int.injEq, true_and, and_true] at h
 obtain ⟨h0, h1⟩ := h
 obtain rfl := Str.ext' h0
 subst h1
 rfl
theorem bk6 : ∀ (v : Value) (u : k9) (h : kX), v.formed Tryz.prog 146 = true → GT.rep h v.cells.toList u → v = MV.venc u := by
 intro v u h hf hr
 obtain ⟨cs, rfl⟩ := an6 Tryz.underlying146 hf
 exact congrArg Value.agg (Array.ext' hr)
theorem ce6 : ∀ a b : Int, (.lit (.int .i64 a) : DataW Unit) = .lit (.int .i64 b) → a = b := by
 intro a b h
 simp only [DataW.lit.injEq, Lit.int.injEq, true_and] at h
 exact h
theorem cb0 : ∀ (v : Value) (u : Int) (h : kX), v.formed Tryz.prog 3 = true → GT.rep h v.cells.toList u → v = MV.venc u := be6 Tryz.underlying3
theorem gn0 : Tryz.prog.globalNamed "loop.example/wholeway/impl.keys" = some 0 := by kernel_rfl
theorem gt0 : (Tryz.prog.globals[0]?).map (·.type) = some 100 := by kernel_rfl
theorem ce4 {W : World} (h : laidMet Tryz.prog Rows.fnProgramBackRow.laid W) : GT.rep (hp W) [.slice (some ⟨0, 0, none⟩) 9 9] k7 :=
 ay5 (D := fun _ m => .lit (.string m.b)) gn0 gt0 Tryz.underlying100 (by kernel_rfl) ca2 cf5 (d := Rows.laid_loop_example_wholeway_impl_keys) rfl rfl (by decide) (by kernel_rfl) (vn h (List.mem_of_getElem? (i := 5) rfl))
theorem gn1 : Tryz.prog.globalNamed "loop.example/wholeway/impl.opSign" = some 1 := by kernel_rfl
theorem gt1 : (Tryz.prog.globals[1]?).map (·.type) = some 147 := by kernel_rfl
theorem ce0 {W : World} (h : laidMet Tryz.prog Rows.fnProgramBackRow.laid W) : GT.rep (hp W) [.slice (some ⟨1, 0, none⟩) 1 1] [kO] :=
 al8 (D := fun _ m => .agg [.lit (.string m.sign.b), .lit (.int .i64 m.level)]) (m := kO) gn1 gt1 Tryz.underlying147 Tryz.underlying3 bw9 bv6 bk6 (by kernel_rfl) (vn h (List.mem_of_getElem? (i := 6) rfl))
theorem gn2 : Tryz.prog.globalNamed "loop.example/wholeway/impl.stmtKeys" = some 2 := by kernel_rfl
theorem gt2 : (Tryz.prog.globals[2]?).map (·.type) = some 151 := by kernel_rfl
theorem cd5 {W : World} (h : laidMet Tryz.prog Rows.fnProgramBackRow.laid W) : GT.rep (hp W) [.slice (some ⟨2, 0, none⟩) 1 1] [kz] :=
 ah1 (D := fun _ m => .lit (.int .i64 m)) (m := kz) gn2 gt2 Tryz.underlying151 Tryz.underlying9 cd1 ce6 cb0 (of_decide_eq_true (by kernel_rfl)) (by kernel_rfl) (vn h (List.mem_of_getElem? (i := 7) rfl))
theorem gn6 : Tryz.prog.globalNamed "internal/strconv.uint64pow10" = some 6 := by kernel_rfl
theorem gt6 : (Tryz.prog.globals[6]?).map (·.type) = some 200 := by kernel_rfl
theorem ce3 {W : World} (h : laidMet Tryz.prog Rows.fnProgramBackRow.laid W) : GT.rep (hp W) [.pointer (some ⟨6, 0, none⟩)] lB :=
 bj8 (k := .u64) (zs := [1, 10, 100, 1000, 10000, 100000, 1000000, 10000000, 100000000, 1000000000, 10000000000, 100000000000, 1000000000000, 10000000000000, 100000000000000, 1000000000000000, 10000000000000000, 100000000000000000, 1000000000000000000, 10000000000000000000]) gn6 gt6 Tryz.underlying200 Tryz.underlying177 (by kernel_rfl) (by kernel_rfl) rfl (vn h (List.mem_of_getElem? (i := 2) rfl))
theorem ad1 : (Rows.fnProgramBackRow.laid.filter fun x => x.2.handleName?.isSome) = [] := by kernel_rfl
theorem bd6 (H : Type) (enc : TypeId × Value → H) (W : World) (base : Nat) (args : Array Value) (ds gs : List (DataW H)) (before : List MemPlace)
  (hval : ∀ (j : Nat) t v, Tryz.f3.params[j]? = some t → args[j]? = some v → Value.okWide Tryz.prog W .any base t v)
  (hW : DataW.Whole enc Tryz.prog Tryz.f3.params.toList Rows.fnProgramBackSpec.vars false W args.toList ds gs before)
  (hsz : (DataW.weightsEach Tryz.prog (Tryz.f3.params.toList ++ Rows.fnProgramBackSpec.plain.varTypes Tryz.prog) (ds ++ gs)).all (· ≤ reachBytes) = true)
  (hL : laidMetH Tryz.prog Rows.fnProgramBackRow.laid W) :
  Calls Tryz.prog 3 args W fun e W' => ∃ v, e = .returned v ∧ Rows.fnProgramBackSpec.post enc Tryz.prog Tryz.f3 false true false false W args v W' := by
 have hW' := hW
 obtain ⟨p, q, hA0, hV, rfl, hfz, hnd⟩ := hW
 have hA : DataW.TrodAll enc Tryz.prog W 0 (fun _ => true) true Tryz.f3.params.toList args.toList ds p := hA0
 rw [Tryz.params3] at hA hval hsz
 have hwt : ∀ n ∈ DataW.weightsEach Tryz.prog ([22] ++ Rows.fnProgramBackSpec.plain.varTypes Tryz.prog) (ds ++ gs), n ≤ reachBytes := fun n hn =>
  of_decide_eq_true (List.all_eq_true.1 hsz n hn)
 have hL0 := (ac9 ad1).1 hL
 obtain ⟨gv0, gv1, gv2, rfl⟩ : ∃ gv0 gv1 gv2, gs = [gv0, gv1, gv2] := by
  have hlen := xP hV
  match gs, hlen with
  | [gv0, gv1, gv2], _ => exact ⟨gv0, gv1, gv2, rfl⟩
 obtain ⟨v0, vs0, d0, ds0, p0, q0, hargs, rfl, rfl, h0, r0⟩ := trodAll_cons hA
 obtain ⟨rfl, rfl, rfl⟩ := trodAll_nil r0
 obtain rfl : args = #[v0] := by cases args; simp_all
 clear hA0 hA hV r0 hfz hnd
 simp only [List.append_nil, List.cons_append, List.nil_append] at hwt
 obtain ⟨m0, g0, k0⟩ := bw3 cf3 h0 (fun n hn => hwt n (by simp [DataW.weightsEach, hn]))
 rw [ax7 (by rw [Tryz.underlying22]; trivial) (hval 0 22 v0 rfl rfl)] at g0
 have hc := ui W m0 v0 g0 (ce4 hL0) (ce0 hL0) (cd5 hL0) (ce3 hL0) true (Prg.law_programBack m0)
 refine hc.mono fun e W' h => ?_
 cases e with
 | returned v =>
  obtain ⟨rfl, hb⟩ := h
  exact ⟨_, rfl, z8 br1 (by rw [Tryz.params3]; exact of_decide_eq_true (by kernel_rfl)) rfl Tryz.underlying4 (by kernel_rfl) rfl hW' hb⟩
 | _ => exact h.elim
noncomputable def low : Nat := (World.holding Tryz.prog default ⟨#[], #[], []⟩).heap.size
def lay (cs : Array Value) : Obj → Obj
 | .cells _ t frozen => .cells cs t frozen
 | o => o
noncomputable def xv (os : Os) : World :=
 let w0 := World.holding Tryz.prog os ⟨#[.cells #[.string ⟨#[118, 97, 108, 117, 101, 32, 111, 117, 116, 32, 111, 102, 32, 114, 97, 110, 103, 101]⟩] 198, .cells #[.string ⟨#[105, 110, 118, 97, 108, 105, 100, 32, 115, 121, 110, 116, 97, 120]⟩] 198, .map #[⟨.int .i64 3, .agg #[.string ⟨#[43]⟩, .int .i64 3], 0⟩, ⟨.int .i64 4, .agg #[.string ⟨#[45]⟩, .int .i64 3], 1⟩, ⟨.int .i64 5, .agg #[.string ⟨#[42]⟩, .int .i64 4], 2⟩, ⟨.int .i64 6, .agg #[.string ⟨#[47]⟩, .int .i64 4], 3⟩, ⟨.int .i64 7, .agg #[.string ⟨#[37]⟩, .int .i64 4], 4⟩, ⟨.int .i64 8, .agg #[.string ⟨#[60]⟩, .int .i64 2], 5⟩, ⟨.int .i64 9, .agg #[.string ⟨#[61]⟩, .int .i64 2], 6⟩, ⟨.int .i64 10, .agg #[.string ⟨#[38]⟩, .int .i64 1], 7⟩] 8, .map #[⟨.string ⟨#[98, 97, 99, 107]⟩, .int .i64 7, 0⟩, ⟨.string ⟨#[100, 111]⟩, .int .i64 8, 1⟩, ⟨.string ⟨#[105, 102]⟩, .int .i64 5, 2⟩, ⟨.string ⟨#[108, 101, 116]⟩, .int .i64 1, 3⟩, ⟨.string ⟨#[108, 111, 111, 112]⟩, .int .i64 6, 4⟩, ⟨.string ⟨#[112, 117, 116]⟩, .int .i64 4, 5⟩, ⟨.string ⟨#[115, 97, 121]⟩, .int .i64 3, 6⟩] 7], #[], []⟩
 { w0 with heap := ((((((((w0.heap.modify 7 (lay #[.int .u8 0, .int .u8 1, .int .u8 28, .int .u8 2, .int .u8 29, .int .u8 14, .int .u8 24, .int .u8 3, .int .u8 30, .int .u8 22, .int .u8 20, .int .u8 15, .int .u8 25, .int .u8 17, .int .u8 4, .int .u8 8, .int .u8 31, .int .u8 27, .int .u8 13, .int .u8 23, .int .u8 21, .int .u8 19, .int .u8 16, .int .u8 7, .int .u8 26, .int .u8 12, .int .u8 18, .int .u8 6, .int .u8 11, .int .u8 5, .int .u8 10, .int .u8 9])).modify 8 (lay #[.int .u8 0, .int .u8 1, .int .u8 56, .int .u8 2, .int .u8 57, .int .u8 49, .int .u8 28, .int .u8 3, .int .u8 61, .int .u8 58, .int .u8 42, .int .u8 50, .int .u8 38, .int .u8 29, .int .u8 17, .int .u8 4, .int .u8 62, .int .u8 47, .int .u8 59, .int .u8 36, .int .u8 45, .int .u8 43, .int .u8 51, .int .u8 22, .int .u8 53, .int .u8 39, .int .u8 33, .int .u8 30, .int .u8 24, .int .u8 18, .int .u8 12, .int .u8 5, .int .u8 63, .int .u8 55, .int .u8 48, .int .u8 27, .int .u8 60, .int .u8 41, .int .u8 37, .int .u8 16, .int .u8 46, .int .u8 35, .int .u8 44, .int .u8 21, .int .u8 52, .int .u8 32, .int .u8 23, .int .u8 11, .int .u8 54, .int .u8 26, .int .u8 40, .int .u8 15, .int .u8 34, .int .u8 20, .int .u8 31, .int .u8 10, .int .u8 25, .int .u8 14, .int .u8 19, .int .u8 9, .int .u8 13, .int .u8 8, .int .u8 7, .int .u8 6])).modify 6 (lay #[.int .u64 1, .int .u64 10, .int .u64 100, .int .u64 1000, .int .u64 10000, .int .u64 100000, .int .u64 1000000, .int .u64 10000000, .int .u64 100000000, .int .u64 1000000000, .int .u64 10000000000, .int .u64 100000000000, .int .u64 1000000000000, .int .u64 10000000000000, .int .u64 100000000000000, .int .u64 1000000000000000, .int .u64 10000000000000000, .int .u64 100000000000000000, .int .u64 1000000000000000000, .int .u64 10000000000000000000])).modify 5 (lay #[.iface 196 (.pointer (some ⟨low + 0, 0, none⟩))])).modify 4 (lay #[.iface 196 (.pointer (some ⟨low + 1, 0, none⟩))])).modify 0 (lay #[.string ⟨#[102, 110]⟩, .string ⟨#[108, 101, 116]⟩, .string ⟨#[115, 97, 121]⟩, .string ⟨#[112, 117, 116]⟩, .string ⟨#[105, 102]⟩, .string ⟨#[101, 108, 115, 101]⟩, .string ⟨#[108, 111, 111, 112]⟩, .string ⟨#[98, 97, 99, 107]⟩, .string ⟨#[100, 111]⟩])).modify 1 (lay #[.map (some (low + 2))])).modify 2 (lay #[.map (some (low + 3))])) }
set_option maxRecDepth 100000 in
theorem bj9 (os : Os) : laidMet Tryz.prog Rows.fnProgramBackRow.laid ((xv os).forCall (fun _ _ => 0) ⟨#[], #[(.slice none 0 0)], []⟩).memory :=
 laidMet_of_run3 8 (by kernel_rfl) (by kernel_rfl) (by kernel_rfl)
theorem reads (os : Os) {H : Type} (enc : TypeId × Value → H) : ∃ places, DataW.whole enc Tryz.prog ((xv os).forCall (fun _ _ => 0) ⟨#[], #[(.slice none 0 0)], []⟩).memory Tryz.f3.params.toList Rows.fnProgramBackSpec.vars false (#[(.slice none 0 0)] : Array Value).toList 8 = some ([.nil], [Rows.laid_loop_example_wholeway_impl_keys, Rows.laid_loop_example_wholeway_impl_opSign, Rows.laid_loop_example_wholeway_impl_stmtKeys], places) :=
 ⟨(MemPlace.row ⟨0, 0, none⟩ 9 ++ [] ++ (MemPlace.row ⟨1, 0, none⟩ 1 ++ [.map (low + 2)] ++ (MemPlace.row ⟨2, 0, none⟩ 1 ++ [.map (low + 3)] ++ []))), by kernel_rfl⟩
set_option maxRecDepth 100000 in
theorem lifted (os : Os) (started : os.Started) (H : Type) (enc : TypeId × Value → H) (F : Stop.Interp) :
  ReturnsInHanded {} Tryz.checked os 3 .any ((OpenSpec.ofChange Rows.fnProgramBackSpec).preRow enc Tryz.prog Tryz.f3 Rows.fnProgramBackRow.domain false Rows.fnProgramBackRow.laid) (((OpenSpec.ofChange Rows.fnProgramBackSpec).at F).post enc Tryz.prog Tryz.f3 false true false false) := by
 obtain ⟨places, hx⟩ := reads os enc
 refine returnsInHanded_of_row (C := Tryz.checked) (s := OpenSpec.ofChange Rows.fnProgramBackSpec) own started (by kernel_rfl) Tryz.func3
  (witness_row_at (enc := enc) (C := Tryz.checked) false (xv os) #[(.slice none 0 0)] rfl (by kernel_rfl) (by kernel_rfl) (by kernel_rfl)
   (OpenSpec.preRow_of_cond 8 hx (by kernel_rfl) (fun k hk => by cases hk) (by kernel_rfl) ((ac9 ad1).2 (bj9 os)))) ?_
 intro W base args ds gs before hval hW _ _ hsz hL _ _
 exact bd6 H enc W base args ds gs before hval hW hsz hL
theorem ca8 : Rows.fnProgramBackRow.inPlace = Tryz.pinned.checked.prog.inPlace 3 := by kernel_rfl
theorem bz3 : Rows.fnProgramBackRow.unfollowed = Tryz.pinned.checked.prog.unfollowed 3 := by kernel_rfl
theorem cc1 : Rows.fnProgramBackRow.recurses = Tryz.pinned.checked.prog.recurses 3 := by kernel_rfl
theorem by9 : Rows.fnProgramBackRow.named = Tryz.pinned.checked.prog.varsNamed 3 := by kernel_rfl
theorem bx2 : joinedFacts Tryz.pinned.checked.prog 3 Tryz.f3 Rows.fnProgramBackSpec Rows.fnProgramBackRow = true := by
 unfold joinedFacts
 rw [← ca8, ← bz3, ← cc1, ← by9]
 kernel_rfl
theorem cf0 : Rows.FnProgramBackSaid :=
 OpenClaim.holds_of_cond 3 Tryz.f3 rfl rfl rfl rfl rfl rfl rfl ⟨rfl, rfl, rfl, rfl, rfl⟩ rfl rfl rfl rfl rfl (by kernel_rfl) Tryz.func3 bx2
  (of_decide_eq_true (by kernel_rfl)) (by unfold Func.isWrapper; first | (rw [if_pos (by decide +kernel)]; kernel_rfl) | (rw [if_neg (by decide +kernel)]; exact ⟨rfl, rfl⟩))
  (fun os started H enc _ F => by rw [OpenClaim.pre_eq_preRow]; exact lifted os started H enc F)
theorem plain (f : FuncId) (fn : Func) (hf : Tryz.pinned.checked.prog.funcNamed "loop.example/wholeway/laws.FnProgramBack" = some f) (hfn : Tryz.pinned.checked.prog.funcs[f]? = some fn) :
  true = Tryz.pinned.checked.prog.looks [] ∧ ∀ (j : Nat) t, fn.params[j]? = some t → Tryz.pinned.checked.prog.wantsStandIn t = false := by
 obtain rfl : f = 3 := Option.some.inj ((show Tryz.prog.funcNamed "loop.example/wholeway/laws.FnProgramBack" = some 3 by kernel_rfl).symm.trans hf) |>.symm
 obtain rfl : fn = Tryz.f3 := (Option.some.inj (Tryz.func3.symm.trans hfn)).symm
 refine ⟨by kernel_rfl, fun j t ht => ?_⟩
 rw [Tryz.params3] at ht
 have hall : ([22] : List TypeId).all (fun t => Tryz.prog.wantsStandIn t == false) = true := by kernel_rfl
 have hm : t ∈ ([22] : List TypeId) := by simpa using Array.mem_of_getElem? ht
 have := List.all_eq_true.1 hall t hm
 show Tryz.prog.wantsStandIn t = false
 simpa using this
theorem card : Rows.FnProgramBackCardSaid :=
 Claim7.holds_tied_plain_at .later [] _ _ _ _ cf0 (fun _ h => by cases h) (by kernel_rfl) (fun _ h => by cases h) fnProgramBack_row_tie rfl ⟨rfl, rfl⟩ (by kernel_rfl) rfl plain (by kernel_rfl)
end Go.Proofs.YtkopacpickeojaaGreatDoor.fnProgramBack
