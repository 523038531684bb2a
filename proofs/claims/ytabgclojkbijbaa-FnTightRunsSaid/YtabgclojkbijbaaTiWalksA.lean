/- A part of the proof of FnTightRunsSaid. -/
import Derived.Test.YtabgclojkbijbaaTiModels
import Derived.Test.YtabgclojkbijbaaChecked
import Derived.Laws.Pointers
import Derived.Tactics
import Derived.Tactics2
import Derived.Test.YtabgclojkbijbaaWkAd
namespace Go.Proofs.Ytabgclojkbijbaa
open Go Go.Wk Go.RowKit
set_option maxRecDepth 4000
set_option maxHeartbeats 4000000
open Try
theorem mxo : Try.prog.follows .mixedOrders = true := by kernel_rfl
theorem fo_25_0 : FieldOff Try.prog 25 0 0 := by have h := FieldOff.mk (k := 0) underlying25 rfl sizeOf23; exact h
theorem fo_30_0 : FieldOff Try.prog 30 0 0 := by have h := FieldOff.mk (k := 0) underlying30 rfl sizeOf26; exact h
theorem fo_30_1 : FieldOff Try.prog 30 1 1 := by have h := FieldOff.mk (k := 1) underlying30 rfl sizeOf3; exact h
theorem fo_30_2 : FieldOff Try.prog 30 2 2 := by have h := FieldOff.mk (k := 2) underlying30 rfl sizeOf3; exact h
theorem fo_30_3 : FieldOff Try.prog 30 3 3 := by have h := FieldOff.mk (k := 3) underlying30 rfl sizeOf26; exact h
theorem fo_51_0 : FieldOff Try.prog 51 0 0 := by have h := FieldOff.mk (k := 0) underlying51 rfl sizeOf25; exact h
theorem fo_51_1 : FieldOff Try.prog 51 1 1 := by have h := FieldOff.mk (k := 1) underlying51 rfl sizeOf30; exact h
theorem fo_51_2 : FieldOff Try.prog 51 2 5 := by have h := FieldOff.mk (k := 2) underlying51 rfl sizeOf3; exact h
theorem fo_51_3 : FieldOff Try.prog 51 3 6 := by have h := FieldOff.mk (k := 3) underlying51 rfl sizeOf4; exact h
theorem fo_51_4 : FieldOff Try.prog 51 4 7 := by have h := FieldOff.mk (k := 4) underlying51 rfl sizeOf26; exact h
theorem fo_59_0 : FieldOff Try.prog 59 0 0 := by have h := FieldOff.mk (k := 0) underlying59 rfl sizeOf3; exact h
theorem fo_59_1 : FieldOff Try.prog 59 1 1 := by have h := FieldOff.mk (k := 1) underlying59 rfl sizeOf3; exact h
theorem fo_59_2 : FieldOff Try.prog 59 2 2 := by have h := FieldOff.mk (k := 2) underlying59 rfl sizeOf57; exact h
theorem fo_62_0 : FieldOff Try.prog 62 0 0 := by have h := FieldOff.mk (k := 0) underlying62 rfl sizeOf22; exact h
theorem fo_62_1 : FieldOff Try.prog 62 1 1 := by have h := FieldOff.mk (k := 1) underlying62 rfl sizeOf3; exact h
theorem fo_66_0 : FieldOff Try.prog 66 0 0 := by have h := FieldOff.mk (k := 0) underlying66 rfl sizeOf3; exact h
theorem fo_66_1 : FieldOff Try.prog 66 1 1 := by have h := FieldOff.mk (k := 1) underlying66 rfl sizeOf26; exact h
theorem fo_71_0 : FieldOff Try.prog 71 0 0 := by have h := FieldOff.mk (k := 0) underlying71 rfl sizeOf68; exact h
theorem fo_71_1 : FieldOff Try.prog 71 1 1 := by have h := FieldOff.mk (k := 1) underlying71 rfl sizeOf69; exact h
theorem fo_71_2 : FieldOff Try.prog 71 2 2 := by have h := FieldOff.mk (k := 2) underlying71 rfl sizeOf3; exact h
theorem fo_71_3 : FieldOff Try.prog 71 3 3 := by have h := FieldOff.mk (k := 3) underlying71 rfl sizeOf3; exact h
theorem fo_71_4 : FieldOff Try.prog 71 4 4 := by have h := FieldOff.mk (k := 4) underlying71 rfl sizeOf26; exact h
theorem fo_75_0 : FieldOff Try.prog 75 0 0 := by have h := FieldOff.mk (k := 0) underlying75 rfl sizeOf3; exact h
theorem fo_75_1 : FieldOff Try.prog 75 1 1 := by have h := FieldOff.mk (k := 1) underlying75 rfl sizeOf3; exact h
theorem fo_75_2 : FieldOff Try.prog 75 2 2 := by have h := FieldOff.mk (k := 2) underlying75 rfl sizeOf26; exact h
theorem fo_75_3 : FieldOff Try.prog 75 3 3 := by have h := FieldOff.mk (k := 3) underlying75 rfl sizeOf3; exact h
theorem fo_80_0 : FieldOff Try.prog 80 0 0 := by have h := FieldOff.mk (k := 0) underlying80 rfl sizeOf25; exact h
theorem fo_80_1 : FieldOff Try.prog 80 1 1 := by have h := FieldOff.mk (k := 1) underlying80 rfl sizeOf3; exact h
theorem fo_80_2 : FieldOff Try.prog 80 2 2 := by have h := FieldOff.mk (k := 2) underlying80 rfl sizeOf3; exact h
theorem fo_80_3 : FieldOff Try.prog 80 3 3 := by have h := FieldOff.mk (k := 3) underlying80 rfl sizeOf26; exact h
theorem fo_80_4 : FieldOff Try.prog 80 4 4 := by have h := FieldOff.mk (k := 4) underlying80 rfl sizeOf78; exact h
theorem fo_80_5 : FieldOff Try.prog 80 5 20 := by have h := FieldOff.mk (k := 5) underlying80 rfl sizeOf26; exact h
theorem st_22 : SliceTy Try.prog 22 5 1 := ⟨underlying22, sizeOf5⟩
theorem st_23 : SliceTy Try.prog 23 59 3 := ⟨underlying23, sizeOf59⟩
theorem st_26 : SliceTy Try.prog 26 3 1 := ⟨underlying26, sizeOf3⟩
theorem st_57 : SliceTy Try.prog 57 71 5 := ⟨underlying57, sizeOf71⟩
theorem st_68 : SliceTy Try.prog 68 66 2 := ⟨underlying68, sizeOf66⟩
theorem st_69 : SliceTy Try.prog 69 75 4 := ⟨underlying69, sizeOf75⟩
theorem et_23 : ElemTy Try.prog 23 59 3 (.agg #[(.int .i64 (0)), (.int .i64 (0)), (.slice none 0 0)]) := ⟨underlying23, ⟨_, (by kernel_rfl : Try.prog.info? 59 = some t59), rfl, by decide, rfl⟩, rfl, by decide⟩
theorem et_26 : ElemTy Try.prog 26 3 1 (.int .i64 (0)) := ⟨underlying26, ⟨_, (by kernel_rfl : Try.prog.info? 3 = some t3), rfl, by decide, rfl⟩, rfl, by decide⟩
theorem et_57 : ElemTy Try.prog 57 71 5 (.agg #[(.slice none 0 0), (.slice none 0 0), (.int .i64 (0)), (.int .i64 (0)), (.slice none 0 0)]) := ⟨underlying57, ⟨_, (by kernel_rfl : Try.prog.info? 71 = some t71), rfl, by decide, rfl⟩, rfl, by decide⟩
theorem et_68 : ElemTy Try.prog 68 66 2 (.agg #[(.int .i64 (0)), (.slice none 0 0)]) := ⟨underlying68, ⟨_, (by kernel_rfl : Try.prog.info? 66 = some t66), rfl, by decide, rfl⟩, rfl, by decide⟩
theorem et_69 : ElemTy Try.prog 69 75 4 (.agg #[(.int .i64 (0)), (.int .i64 (0)), (.slice none 0 0), (.int .i64 (0))]) := ⟨underlying69, ⟨_, (by kernel_rfl : Try.prog.info? 75 = some t75), rfl, by decide, rfl⟩, rfl, by decide⟩
theorem spec_l30Open_ok (w0 : World) (hz : Heap) (hle0 : Heap.le hz (hp w0)) (code : List UInt8) (v1 : Value) (h1 : GT.rep hz [v1] code) :
    ConM Try.prog 11 [v1] w0 (spec_l30Open code) fun r v w' => ∃ (b1 : Nat) (x2 : Value) (hz2 : Heap), v = (pV b1) ∧ Heap.le hz hz2 ∧ GT.rep hz2 [x2] r.b ∧ Mem w0 hz2 w' [junk w0 hz, blk b1 [x2, (nV r.p)] 62] := by
  unfold spec_l30Open
  refine gcon func11 rfl fun r => ?_
  have hm := Mem.startA hle0
  refine gS (gR (gA rfl (gE (gS (gS (gR (gM rfl ?_)))))))
  obtain ⟨aE, aF, rfl, aQ⟩ := ro_slice h1
  refine gY (yV st_22 rfl) (gB rfl (gE (gJg (fun aA a w => ∃ (aB : Value), GT.rep hz [aB] (aA) ∧ St 11 [(0, aB)] w0 hz [junk w0 hz] a w) (fun aA => ?_) ?_)))
  ·
   refine gsd 5 rfl (fun aH => ?_) fun aH => ?_
   ·
    refine gct rfl (gR (gM rfl (gb fun aI aJ => ?_)))
    obtain ⟨aK, aL⟩ := subM_some.1 aJ
    obtain ⟨aM, aN, aO⟩ : ∃ nv, nv = subV (GT.sz (UInt8)) (.slice aE code.length aF) (0 : Int).toNat (2000 : Int).toNat ∧ GT.rep hz [nv] aI := ⟨_, rfl, by rw [← aL]; exact rep_subV h1 (by omega) (by omega)⟩
    exact gY (yG rfl (yl_eq aN (y_slcH (α := UInt8) st_22 h1 rfl rfl rfl aK _))) (gA rfl (gE (gZ fun a hf => ⟨aM, aO, hf.sb rfl, hm.pk [0] rfl rfl⟩)))
   exact gcf rfl (gSk (gZ fun a hf => ⟨(.slice aE code.length aF), h1, hf.sb rfl, hm.pk [0] rfl rfl⟩))
  repeat clear hm
  rintro aA a w ⟨aB, aG, hf, hm⟩
  refine gv hf (gS (gR (gM rfl ?_)))
  obtain ⟨aC, aD, rfl, aR⟩ := ro_slice aG
  exact gY (yG rfl (y_build (vs := [(0, (.slice aC aA.length aD))]) (cs := #[(.slice aC aA.length aD), (nV 0)]) rfl rfl (by kernel_rfl))) (gBx hm rfl fun aP w hm => gA rfl (gE (gRt (gr1 results11 rfl ⟨aP, (.slice aC aA.length aD), hz, rfl, (Heap.le_refl _), aG, hm.pk [1, 0] rfl rfl⟩))))
theorem pspec_l30Rd__pick_ok (w0 : World) (hz : Heap) (r_ : l30Rd) (bp0 : Nat) (v1p : Value) (h1p : GT.rep hz [v1p] r_.b) (n_ : Int) (hm0 : Mem w0 hz w0 [blk bp0 [v1p, (nV r_.p)] 62]) :
    ConM Try.prog 13 [(pV bp0), (nV n_)] w0 (pspec_l30Rd__pick r_ n_) fun r v w' => v = (nV r.1) ∧ Mem w0 hz w' [blk bp0 [v1p, (nV r.2.p)] 62] := by
  unfold pspec_l30Rd__pick
  refine gcon func13 rfl fun r => ?_
  have hm := hm0
  refine gS (gR (gA rfl (gE (gS (gR (gM rfl (gM rfl (gY (yG rfl (y_nilptr rfl rfl)) (gF fo_62_1 rfl (gL hm 0 isAgg3 rfl (gB rfl (gY (yG rfl (y_nilptr rfl rfl)) (gF fo_62_1 rfl (gS1 hm 0 sizeOf3 rfl rfl fun w hm => gE (gS (gS (gJ hm (fun aA => [(0, (pV bp0)), (1, (nV n_)), (24, (.bool (aA)))]) (fun aA => [blk bp0 [v1p, (nV (w64 (r_.p + 1)))] 62]) (fun aA => ?_) ?_)))))))))))))))))
  ·
   refine gR (gM rfl (gB rfl (gM rfl (gsd 17 rfl (fun aH => ?_) fun aH => ?_))))
   ·
    exact gO rfl (gO rfl (gO rfl (gO rfl (gO rfl (gO rfl (gKt rfl (gE (gz hm [0] rfl))))))))
   refine gM rfl (gY (yG rfl (y_nilptr rfl rfl)) (gF fo_62_0 rfl (gL hm 0 isAgg22 rfl ?_)))
   obtain ⟨aZ, aa, rfl, ab⟩ := ro_slice h1p
   exact gY (yV st_22 rfl) (gB rfl (gKf rfl (gE (gz hm [0] rfl))))
  repeat clear hm
  intro aA w hm
  refine gs 24 rfl (fun aI => ?_) fun aI => ?_
  ·
   exact gct rfl (gS (gR (gA rfl (gE (gRt (gr1 results13 rfl ⟨rfl, hm.pk [0] rfl rfl⟩))))))
  refine gcf rfl (gSk (gS (gR (gM rfl (gY (yG rfl (y_nilptr rfl rfl)) (gF fo_62_1 rfl (gL hm 0 isAgg3 rfl (gB rfl (gA rfl (gE (gS (gS (gR (gM rfl (gM rfl (gY (yG rfl (y_nilptr rfl rfl)) (gF fo_62_0 rfl (gL hm 0 isAgg22 rfl ?_))))))))))))))))))
  obtain ⟨aJ, aK, rfl, ac⟩ := ro_slice h1p
  refine gY (yV st_22 rfl) (gB rfl (gE (gsd 36 rfl (fun aL => ?_) fun aL => ?_)))
  ·
   refine gct rfl (gS (gR (gM rfl (gY (yG rfl (y_nilptr rfl rfl)) (gF fo_62_0 rfl (gL hm 0 isAgg22 rfl (gM rfl (gg fun aB aM aC => ?_))))))))
   obtain ⟨ae, af, ag, he⟩ := idx_form h1p aC
   obtain ⟨rfl, _, rfl⟩ := sl3 he
   refine gI st_22 aM (idx_lt aC) rfl (gY (yl isAgg5 ((flat_cells (cs := [(.int .u8 ((aB).toNat : Int))]) (hm.now h1p) aC rfl).cell (j := 0) rfl) rfl) (gY (yG rfl (y_conv64 (b := aB) underlying5 underlying3 rfl rfl)) ?_))
   have ah := UInt8.toNat_lt (aB)
   refine gM rfl (gb fun ai aN => ?_)
   obtain ⟨aO, rfl⟩ := remM_some.1 aN
   exact gY (yG rfl (y_rem rfl rfl rfl aO)) (gA rfl (gE (gRt (gr1 results13 rfl ⟨rfl, hm.pk [0] rfl rfl⟩))))
  refine gcf rfl (gSk (gS (gW (.p 0 (.p 1 (.p 2 (.p 4 (.p 5 (.p 6 (.p 7 (.p 15 (.p 16 (.p 17 (.p 19 (.p 20 (.p 21 (.p 22 (.p 23 (.p 24 (.p 33 (.p 34 (.p 36 (.p 37 (.p 38 (.p 39 (.q 3 (.q 8 (.p 9 (.p 10 (.p 11 (.q 12 (.p 13 (.p 14 (.q 18 (.q 25 (.p 26 (.p 27 (.p 28 (.q 29 (.p 30 (.p 31 (.p 32 (.p 35 (.e 40 (.p 41 (.p 42 (.p 43 (.p 44 (.p 45 .fin))))) .nil))))))))))))))))))))))))))))))))))))))))) [3, 8, 12, 18, 25, 29, 40] [0, 1, 2, 4, 5, 6, 7, 9, 10, 11, 13, 14, 15, 16, 17, 19, 20, 21, 22, 23, 24, 26, 27, 28, 30, 31, 32, 33, 34, 35, 36, 37, 38, 39, 41, 42, 43, 44, 45] hm [0] [blk bp0 [(.slice aJ r_.b.length aK), (nV (w64 (r_.p + 1)))] 62] rfl mxo (by kernel_rfl) (fun _ _ _ h => h.2) fun w hm hS => tP rfl (fun w => yM rfl) (tP rfl (fun w => yG rfl (y_nilptr rfl rfl)) (tP rfl (fun w => yF fo_62_0 rfl) (tP rfl (fun w => yM rfl) (tP rfl (fun w => yM rfl) (tP rfl (fun w => yG rfl (y_nilptr rfl rfl)) (tP rfl (fun w => yF fo_62_0 rfl) (tP rfl (fun w => yM rfl) (tP rfl (fun w => yG rfl (y_nilptr rfl rfl)) (tP rfl (fun w => yF fo_62_0 rfl) (tP rfl (fun w => yM rfl) (tP rfl (fun w => yB rfl) (tP rfl (fun w => yB rfl) (tP rfl (fun w => yM rfl) (tP rfl (fun w => yG rfl (y_nilptr rfl rfl)) (tP rfl (fun w => yF fo_62_0 rfl) (tP rfl (fun w => yM rfl) (tP rfl (fun w => yB rfl) (tP rfl (fun w => yM rfl) (tP rfl (fun w => yM rfl) (tP rfl (fun w => yG rfl (y_nilptr rfl rfl)) (tP rfl (fun w => yF fo_62_0 rfl) (tQ rfl hS (fun w hm => yL hm 0 isAgg22 rfl) (tQ rfl hS (fun w hm => yL hm 0 isAgg22 rfl) (tP rfl (fun w => yV st_22 rfl) (gb fun aj aP => ?_))))))))))))))))))))))))))))
  obtain ⟨aQ, rfl⟩ := remM_some.1 aP
  refine tP rfl (fun w => yG rfl (y_rem rfl rfl rfl aQ)) (gg fun aD aR aE => ?_)
  obtain ⟨ak, al, am, he⟩ := idx_form h1p aE
  obtain ⟨rfl, _, rfl⟩ := sl3 he
  refine tP rfl (fun w => yI st_22 aR (idx_lt aE) rfl) (tQ rfl hS (fun w hm => yl isAgg5 ((flat_cells (cs := [(.int .u8 ((aD).toNat : Int))]) (hm.now h1p) aE rfl).cell (j := 0) rfl) rfl) (tP rfl (fun w => yG rfl (y_conv64 (b := aD) underlying5 underlying3 rfl rfl)) ?_))
  have an := UInt8.toNat_lt (aD)
  refine tP rfl (fun w => yB rfl) (tQ rfl hS (fun w hm => yL hm 0 isAgg22 rfl) (tQ rfl hS (fun w hm => yL hm 0 isAgg22 rfl) (tP rfl (fun w => yV st_22 rfl) (gb fun ao aS => ?_))))
  obtain ⟨aT, rfl⟩ := remM_some.1 aS
  refine tP rfl (fun w => yG rfl (y_rem rfl rfl rfl aT)) (gg fun aF aU aG => tP rfl (fun w => yI st_22 aU (idx_lt aG) rfl) (tQ rfl hS (fun w hm => yl isAgg5 ((flat_cells (cs := [(.int .u8 ((aF).toNat : Int))]) (hm.now h1p) aG rfl).cell (j := 0) rfl) rfl) (tP rfl (fun w => yG rfl (y_conv64 (b := aF) underlying5 underlying3 rfl rfl)) ?_)))
  have aq := UInt8.toNat_lt (aF)
  refine tP rfl (fun w => yB rfl) (tP rfl (fun w => yB rfl) (tP rfl (fun w => yB rfl) (tO (tY rfl (yL hm 0 isAgg22 rfl) (tAs hS (tP rfl (fun w => yV st_22 rfl) (gb fun ar aV => ?_)))))))
  obtain ⟨aW, rfl⟩ := quoM_some.1 aV
  refine tP rfl (fun w => yG rfl (y_quo rfl rfl rfl aW)) (tP rfl (fun w => yB rfl) (tP rfl (fun w => yB rfl) (tP rfl (fun w => yA rfl) (tE (gS (gR (gM rfl (gM rfl (gY (yG rfl (y_quo rfl rfl rfl (by decide))) (gB rfl (gA rfl (gE (gS (gR (gM rfl (gM rfl (gb fun au aX => ?_)))))))))))))))))
  obtain ⟨aY, rfl⟩ := remM_some.1 aX
  exact gY (yG rfl (y_rem rfl rfl rfl aY)) (gA rfl (gE (gRt (gr1 results13 rfl ⟨rfl, hm.pk [0] rfl rfl⟩))))
theorem pspec_l30Rd__num_ok (w0 : World) (hz : Heap) (r_ : l30Rd) (bp0 : Nat) (v1p : Value) (h1p : GT.rep hz [v1p] r_.b) (list : List Int) (v1 : Value) (h1 : GT.rep hz [v1] list) (hm0 : Mem w0 hz w0 [blk bp0 [v1p, (nV r_.p)] 62]) :
    ConM Try.prog 16 [(pV bp0), v1] w0 (pspec_l30Rd__num r_ list) fun r v w' => v = (nV r.1) ∧ Mem w0 hz w' [blk bp0 [v1p, (nV r.2.p)] 62] := by
  unfold pspec_l30Rd__num
  refine gcon func16 rfl fun r => ?_
  have hm := hm0
  refine gS (gR (gA rfl (gE (gS (gR (gM rfl (gM rfl (gM rfl ?_))))))))
  obtain ⟨aF, aG, rfl, aH⟩ := ro_slice h1
  refine gY (yV st_26 rfl) ?_
  obtain ⟨aB, hle, hm1, hsub, aC⟩ := hm.take2 (L1 := [blk bp0 [v1p, (nV r_.p)] 62]) (L2 := []) [0] [] (by decide) rfl rfl
  refine gCg rfl call13 (pspec_l30Rd__pick_ok _ aB r_ bp0 v1p (GT.mono hle h1p) (list.length : Int) hm1 ) ?_
  rintro aI aJ aK w ⟨rfl, hB⟩
  replace hm := aC _ _ hB; clear hB
  refine gg fun aD aE aA => ?_
  obtain ⟨aL, aM, aN, he⟩ := idx_form h1 aA
  obtain ⟨rfl, _, rfl⟩ := sl3 he
  exact gI st_26 aE (idx_lt aA) rfl (gY (yl isAgg3 ((flat_cells (cs := [(nV aD)]) (hm.now h1) aA rfl).cell (j := 0) rfl) rfl) (gA rfl (gE (gRt (gr1 results16 rfl ⟨rfl, hm.pk [0] rfl rfl⟩)))))
theorem spec_l1In_ok (w0 : World) (n_ : Int) (low : Int) (high : Int) :
    ConM Try.prog 20 [(nV n_), (nV low), (nV high)] w0 (spec_l1In n_ low high) fun r v w' => v = (.bool (r)) ∧ Below w0.heap.size w0 w' := by
  unfold spec_l1In
  refine gcon func20 rfl fun r => ?_
  have hm := Mem.start w0
  refine gS (gR (gA rfl (gE (gS (gJ hm (fun aA => [(6, (.bool (aA)))]) (fun aA => []) (fun aA => ?_) ?_)))))
  ·
   refine gR (gM rfl (gM rfl (gB rfl (gM rfl (gsd 10 rfl (fun aB => ?_) fun aB => ?_)))))
   ·
    exact gM rfl (gM rfl (gB rfl (gKt rfl (gA rfl (gE (gz hm [] rfl))))))
   exact gO rfl (gO rfl (gO rfl (gKf rfl (gA rfl (gE (gz hm [] rfl))))))
  repeat clear hm
  intro aA w hm
  exact gRt (gr1 results20 rfl ⟨rfl, hm.below⟩)
theorem spec_l7Args_ok (w0 : World) (op : Int) :
    ConM Try.prog 73 [(nV op)] w0 (spec_l7Args op) fun r v w' => v = (nV r) ∧ Below w0.heap.size w0 w' := by
  unfold spec_l7Args
  refine gcon func73 rfl fun r => ?_
  have hm := Mem.start w0
  refine gS (gR (gA rfl (gE (gS (gBk (gS (gR (gM rfl (gB rfl (gA rfl (gE (gsd 3 rfl (fun aC => ?_) fun aC => ?_))))))))))))
  ·
   exact gct rfl (gS (gR (gA rfl (gE (gRt (gr1 results73 rfl ⟨rfl, hm.below⟩))))))
  refine gcf rfl (gS (gJ hm (fun aA => [(0, (nV op)), (6, (.bool (aA)))]) (fun aA => []) (fun aA => ?_) ?_))
  ·
   refine gR (gM rfl (gB rfl (gM rfl (gsd 9 rfl (fun aD => ?_) fun aD => ?_))))
   ·
    exact gO rfl (gO rfl (gKt rfl (gM rfl (gO rfl (gO rfl (gKt rfl (gM rfl (gO rfl (gO rfl (gKt rfl (gA rfl (gE (gz hm [] rfl)))))))))))))
   refine gM rfl (gB rfl (gKf rfl (gM rfl (gsd 13 rfl (fun aE => ?_) fun aE => ?_))))
   ·
    exact gO rfl (gO rfl (gKt rfl (gM rfl (gO rfl (gO rfl (gKt rfl (gA rfl (gE (gz hm [] rfl)))))))))
   refine gM rfl (gB rfl (gKf rfl (gM rfl (gsd 17 rfl (fun aF => ?_) fun aF => ?_))))
   ·
    exact gO rfl (gO rfl (gKt rfl (gA rfl (gE (gz hm [] rfl)))))
   exact gM rfl (gB rfl (gKf rfl (gA rfl (gE (gz hm [] rfl)))))
  repeat clear hm
  intro aA w hm
  refine gs 6 rfl (fun aG => ?_) fun aG => ?_
  ·
   exact gct rfl (gS (gR (gA rfl (gE (gRt (gr1 results73 rfl ⟨rfl, hm.below⟩))))))
  refine gcf rfl (gS (gJ hm (fun aB => [(21, (.bool (aB)))]) (fun aB => []) (fun aB => ?_) ?_))
  ·
   refine gR (gM rfl (gC hm rfl call20 (spec_l1In_ok _ op 3 9) fun aJ aK w hm => gM rfl (gs 24 rfl (fun aH => ?_) fun aH => ?_)))
   ·
    exact gO rfl (gO rfl (gKt rfl (gA rfl (gE (gz hm [] rfl)))))
   exact gM rfl (gB rfl (gKf rfl (gA rfl (gE (gz hm [] rfl)))))
  repeat clear hm
  intro aB w hm
  refine gs 21 rfl (fun aI => ?_) fun aI => ?_
  ·
   exact gct rfl (gS (gR (gA rfl (gE (gRt (gr1 results73 rfl ⟨rfl, hm.below⟩))))))
  exact gcf rfl (gSk (gS (gR (gA rfl (gE (gRt (gr1 results73 rfl ⟨rfl, hm.below⟩)))))))
theorem spec_l7Makes_ok (w0 : World) (op : Int) :
    ConM Try.prog 74 [(nV op)] w0 (spec_l7Makes op) fun r v w' => v = (.bool (r)) ∧ Below w0.heap.size w0 w' := by
  unfold spec_l7Makes
  refine gcon func74 rfl fun r => ?_
  have hm := Mem.start w0
  refine gS (gR (gA rfl (gE (gS (gJ hm (fun aA => [(2, (.bool (aA)))]) (fun aA => []) (fun aA => ?_) ?_)))))
  ·
   refine gR (gM rfl (gC hm rfl call20 (spec_l1In_ok _ op 1 14) fun aD aE w hm => gM rfl (gs 5 rfl (fun aB => ?_) fun aB => ?_)))
   ·
    refine gM rfl (gB rfl (gKt rfl (gM rfl (gsd 9 rfl (fun aC => ?_) fun aC => ?_))))
    ·
     exact gM rfl (gB rfl (gKt rfl (gA rfl (gE (gz hm [] rfl)))))
    exact gO rfl (gO rfl (gKf rfl (gA rfl (gE (gz hm [] rfl)))))
   exact gO rfl (gO rfl (gKf rfl (gM rfl (gO rfl (gO rfl (gKf rfl (gA rfl (gE (gz hm [] rfl)))))))))
  repeat clear hm
  intro aA w hm
  exact gRt (gr1 results74 rfl ⟨rfl, hm.below⟩)
theorem spec_l7Some_ok (w0 : World) (hz : Heap) (r_ : l30Rd) (bp0 : Nat) (v1p : Value) (h1p : GT.rep hz [v1p] r_.b) (u : Unit_) (v1 : Value) (h1 : GT.rep hz [v1] u.codes) (regs : Int) (hm0 : Mem w0 hz w0 [blk bp0 [v1p, (nV r_.p)] 62]) :
    ConM Try.prog 45 [(pV bp0), (.agg #[v1]), (nV regs)] w0 (spec_l7Some r_ u regs) fun r v w' => ∃ (x1 : Value), v = (.agg #[(nV r.1.op), (nV r.1.to), x1, (nV r.1.n_)]) ∧ Mem w0 hz w' [blk bp0 [v1p, (nV r.2.p)] 62, ow [x1] r.1.args] := by
  unfold spec_l7Some
  refine gcon func45 rfl fun r => ?_
  have hm := hm0
  refine gS (gR (gBx hm rfl fun aK w hm => gAl hm zeroValue75 rfl fun aB w hm => gE (gS (gR (gM rfl (gf rfl (fun a hf => e_build (vs := #[(0, (nV 1)), (1, (nV 1)), (2, (nV 2)), (3, (nV 3)), (4, (nV 4)), (5, (nV 5)), (6, (nV 8)), (7, (nV 9)), (8, (nV 10)), (9, (nV 13)), (10, (nV 3)), (11, (nV 6)), (12, (nV 7)), (13, (nV 11)), (14, (nV 12)), (15, (nV 14))]) (cs := [(nV 1), (nV 1), (nV 2), (nV 3), (nV 4), (nV 5), (nV 8), (nV 9), (nV 10), (nV 13), (nV 3), (nV 6), (nV 7), (nV 11), (nV 12), (nV 14)]) et_26 hf hm rfl rfl (by kernel_rfl) rfl rfl) ?_))))))
  rintro _ w ⟨aJ, rfl, hm⟩
  replace hm := hm.lit (xs := ([1, 1, 2, 3, 4, 5, 8, 9, 10, 13, 3, 6, 7, 11, 12, 14] : List Int)) 0 rfl rfl rfl rfl
  obtain ⟨aU, hle, hm1, hsub, aV⟩ := hm.take2 (L1 := [blk bp0 [v1p, (nV r_.p)] 62]) (L2 := [ow [(sV aJ 0 16 16)] ([1, 1, 2, 3, 4, 5, 8, 9, 10, 13, 3, 6, 7, 11, 12, 14] : List Int), blk aB [(nV 0), (nV 0), (.slice none 0 0), (nV 0)] 75, blk aK [v1] 25]) [3] [0, 1, 2] (by decide) rfl rfl
  refine gCg rfl call16 (pspec_l30Rd__num_ok _ aU r_ bp0 v1p (GT.mono hle h1p) ([1, 1, 2, 3, 4, 5, 8, 9, 10, 13, 3, 6, 7, 11, 12, 14] : List Int) (sV aJ 0 16 16) (fz_ow (hsub 0 _ rfl)) hm1 ) ?_
  rintro aA ax ay w ⟨rfl, hB⟩
  replace hm := aV _ _ hB; clear hB
  refine gA rfl (gE (gS (gR (gM rfl (gM rfl (gM rfl ?_))))))
  obtain ⟨aW, hle, hm1, hsub, aX⟩ := hm.take2 (L1 := [blk bp0 [v1p, (nV aA.2.p)] 62]) (L2 := [ow [(sV aJ 0 16 16)] ([1, 1, 2, 3, 4, 5, 8, 9, 10, 13, 3, 6, 7, 11, 12, 14] : List Int), blk aB [(nV 0), (nV 0), (.slice none 0 0), (nV 0)] 75, blk aK [v1] 25]) [0] [1, 2, 3] (by decide) rfl rfl
  refine gCg rfl call13 (pspec_l30Rd__pick_ok _ aW (⟨r_.b, aA.2.p⟩ : l30Rd) bp0 v1p (GT.mono hle h1p) regs hm1 ) ?_
  rintro aD az bA w ⟨rfl, hB⟩
  replace hm := aX _ _ hB; clear hB
  refine gY (yG rfl (y_build (vs := [(0, (nV aA.1)), (1, (nV aD.1))]) (cs := #[(nV aA.1), (nV aD.1), (.slice none 0 0), (nV 0)]) rfl rfl (by kernel_rfl))) (gAl hm zeroValue75 rfl fun aC w hm => gSN hm 0 sizeOf75 (one_cons rfl (one_cons rfl (one_cons rfl (one_cons rfl one_nil)))) rfl fun w hm => gE (gS (gR (gM rfl (gC hm rfl call73 (spec_l7Args_ok _ aA.1) fun bB bC w hm => gA rfl (gE (gS (gS (gR (gM rfl (gB rfl (gE (gJe hm (fun aE => [(0, (pV bp0)), (2, (nV regs)), (6, (pV aB)), (7, (nV aA.1)), (8, (pV aC)), (9, (nV aE.2.2))]) (fun aE => [blk bp0 [v1p, (nV aE.1)] 62, blk aB [(nV 0), (nV 0), (.slice none 0 0), (nV 0)] 75, blk aC [(nV aA.1), (nV aD.1), (.slice none 0 0), (nV aE.2.1)] 75]) (fun bD aY => ?_) ?_)))))))))))))
  ·
   refine gsd 22 rfl (fun aZ => ?_) fun aZ => ?_
   ·
    refine gct rfl (gS (gS (gR (gF fo_25_0 rfl (gL hm 4 isAgg23 rfl ?_)))))
    obtain ⟨aP, aQ, rfl, bE⟩ := ro_slice h1
    refine gY (yV st_23 rfl) (gB rfl (gE (gsd 26 rfl (fun aa => ?_) fun aa => ?_)))
    ·
     refine gct rfl (gS (gR (gM rfl (gM rfl ?_))))
     obtain ⟨ab, hle, hm1, hsub, ac⟩ := hm.take2 (L1 := [blk bp0 [v1p, (nV aD.2.p)] 62]) (L2 := [blk aC [(nV aA.1), (nV aD.1), (.slice none 0 0), (nV 0)] 75, ow [(sV aJ 0 16 16)] ([1, 1, 2, 3, 4, 5, 8, 9, 10, 13, 3, 6, 7, 11, 12, 14] : List Int), blk aB [(nV 0), (nV 0), (.slice none 0 0), (nV 0)] 75, blk aK [(.slice aP u.codes.length aQ)] 25]) [1] [0, 2, 3, 4] (by decide) rfl rfl
     refine gCg rfl call13 (pspec_l30Rd__pick_ok _ ab (⟨r_.b, aD.2.p⟩ : l30Rd) bp0 v1p (GT.mono hle h1p) regs hm1 ) ?_
     rintro aL bF bG w ⟨rfl, hB⟩
     replace hm := ac _ _ hB; clear hB
     refine gf rfl (fun a hf => e_build (vs := #[(0, (nV aL.1))]) (cs := [(nV aL.1)]) et_26 hf hm rfl rfl (by kernel_rfl) rfl rfl) ?_
     rintro _ w ⟨aM, rfl, hm⟩
     replace hm := hm.lit (xs := ([aL.1] : List Int)) 0 rfl rfl rfl rfl
     exact gY (yG rfl (y_build (vs := [(0, (nV 13)), (1, (nV (-1))), (2, (sV aM 0 1 1))]) (cs := #[(nV 13), (nV (-1)), (sV aM 0 1 1), (nV 0)]) rfl rfl (by kernel_rfl))) (gSN hm 4 sizeOf75 (one_cons rfl (one_cons rfl (one_cons rfl (one_cons rfl one_nil)))) rfl fun w hm => gE (gRt (gEr aY (grc 4 results45 hm rfl isAgg75 sizeOf75 ⟨(sV aM 0 1 1), rfl, hm.pk [1, 0] rfl rfl⟩))))
    refine gcf rfl (gSk (gS (gR (gM rfl (gF fo_25_0 rfl (gL hm 4 isAgg23 rfl (gY (yV st_23 rfl) ?_)))))))
    obtain ⟨ae, hle, hm1, hsub, af⟩ := hm.take2 (L1 := [blk bp0 [v1p, (nV aD.2.p)] 62]) (L2 := [blk aC [(nV aA.1), (nV aD.1), (.slice none 0 0), (nV 0)] 75, ow [(sV aJ 0 16 16)] ([1, 1, 2, 3, 4, 5, 8, 9, 10, 13, 3, 6, 7, 11, 12, 14] : List Int), blk aB [(nV 0), (nV 0), (.slice none 0 0), (nV 0)] 75, blk aK [(.slice aP u.codes.length aQ)] 25]) [1] [0, 2, 3, 4] (by decide) rfl rfl
    refine gCg rfl call13 (pspec_l30Rd__pick_ok _ ae (⟨r_.b, aD.2.p⟩ : l30Rd) bp0 v1p (GT.mono hle h1p) (u.codes.length : Int) hm1 ) ?_
    rintro bH bJ bK w ⟨rfl, hB⟩
    replace hm := af _ _ hB; clear hB
    refine gF fo_75_3 rfl (gS1 hm 1 sizeOf3 rfl rfl fun w hm => gE (gR (gF fo_25_0 rfl (gL hm 4 isAgg23 rfl (gF fo_75_3 rfl (gL hm 1 isAgg3 rfl (gg fun bL ag aN => ?_)))))))
    obtain ⟨bM, bN, bO, he⟩ := idx_form' h1 aN
    obtain ⟨rfl, _, rfl⟩ := sl3 he
    obtain ⟨bP, ah, bQ⟩ := rk_Code_ h1 aN
    exact gI st_23 ag (idx_lt aN) rfl (gF fo_59_0 rfl (gY (yl isAgg3 ((ah.mono hm.lez).cell (j := 0) rfl) rfl) (gA rfl (gE (gze hm [0, 3, 1] rfl)))))
   exact gcf rfl (gSk (gze hm [1, 3, 0] rfl))
  repeat clear hm
  intro aE w hm
  refine gS (gS (gR (gM rfl (gB rfl (gE (gJ hm (fun aF => [(0, (pV bp0)), (2, (nV regs)), (6, (pV aB)), (7, (nV aA.1)), (8, (pV aC)), (9, (nV aE.2.2))]) (fun aF => [blk bp0 [v1p, (nV aF.1)] 62, blk aB [(nV 0), (nV 0), (.slice none 0 0), (nV 0)] 75, blk aC [(nV aA.1), (nV aD.1), (.slice none 0 0), (nV aF.2)] 75]) (fun aF => ?_) ?_))))))
  ·
   refine gsd 46 rfl (fun ai => ?_) fun ai => ?_
   ·
    refine gct rfl (gR (gM rfl (gf rfl (fun a hf => e_build (vs := #[(0, (nV 0)), (1, (nV 1)), (2, (nV 2)), (3, (nV 3)), (4, (nV 15)), (5, (nV 16)), (6, (nV 255))]) (cs := [(nV 0), (nV 1), (nV 2), (nV 3), (nV 15), (nV 16), (nV 255)]) et_26 hf hm rfl rfl (by kernel_rfl) rfl rfl) ?_)))
    rintro _ w ⟨aR, rfl, hm⟩
    replace hm := hm.lit (xs := ([0, 1, 2, 3, 15, 16, 255] : List Int)) 0 rfl rfl rfl rfl
    obtain ⟨aj, hle, hm1, hsub, ak⟩ := hm.take2 (L1 := [blk bp0 [v1p, (nV aE.1)] 62]) (L2 := [ow [(sV aR 0 7 7)] ([0, 1, 2, 3, 15, 16, 255] : List Int), blk aB [(nV 0), (nV 0), (.slice none 0 0), (nV 0)] 75, blk aC [(nV aA.1), (nV aD.1), (.slice none 0 0), (nV aE.2.1)] 75]) [1] [0, 2, 3] (by decide) rfl rfl
    refine gCg rfl call16 (pspec_l30Rd__num_ok _ aj (⟨r_.b, aE.1⟩ : l30Rd) bp0 v1p (GT.mono hle h1p) ([0, 1, 2, 3, 15, 16, 255] : List Int) (sV aR 0 7 7) (fz_ow (hsub 0 _ rfl)) hm1 ) ?_
    rintro bR bS bT w ⟨rfl, hB⟩
    replace hm := ak _ _ hB; clear hB
    exact gF fo_75_3 rfl (gS1 hm 3 sizeOf3 rfl rfl fun w hm => gE (gz hm [0, 2, 3] rfl))
   exact gcf rfl (gSk (gz hm [0, 1, 2] rfl))
  repeat clear hm
  intro aF w hm
  refine gS (gS (gR (gM rfl (gC hm rfl call74 (spec_l7Makes_ok _ aA.1) fun bU bV w hm => gN rfl (gE (gJ hm (fun aG => [(0, (pV bp0)), (2, (nV regs)), (6, (pV aB)), (8, (pV aC)), (9, (nV aE.2.2))]) (fun aG => [blk bp0 [v1p, (nV aF.1)] 62, blk aB [(nV 0), (nV 0), (.slice none 0 0), (nV 0)] 75, blk aC [(nV aA.1), (nV aG), (.slice none 0 0), (nV aF.2)] 75]) (fun aG => ?_) ?_))))))
  ·
   refine gsn 53 rfl (fun al => ?_) fun al => ?_
   ·
    exact gct rfl (gR (gF fo_75_1 rfl (gS1 hm 2 sizeOf3 rfl rfl fun w hm => gE (gz hm [0, 1, 2] rfl))))
   exact gcf rfl (gSk (gz hm [0, 1, 2] rfl))
  repeat clear hm
  intro aG w hm
  refine gS (gS (gR (gA rfl (gE (gBk (gb fun _ aS => ?_))))))
  replace aS := fitI_some.1 aS
  replace hm := hm.nilow (α := Int)
  refine gNg (fun aT aH a w => ∃ (aI : Value), St 69 [(0, (pV bp0)), (2, (nV regs)), (6, (pV aB)), (8, (pV aC)), (9, (nV aE.2.2)), (10, (nV aT))] w0 hz [blk bp0 [v1p, (nV aH.1)] 62, blk aB [(nV 0), (nV 0), (.slice none 0 0), (nV 0)] 75, blk aC [(nV aA.1), (nV aG), aI, (nV aF.2)] 75, ow [aI] aH.2] a w) (fun a hf => ⟨(.slice none 0 0), hf.sb rfl, hm.pk [1, 2, 3, 0] rfl rfl⟩) ?_ ?_
  ·
   repeat clear hm
   rintro _ _ aT aH a w ⟨aI, hf, hm⟩ bW bX bY _
   refine gv hf (gS (gS (gR (gM rfl (gM rfl (gB rfl (gE (go _ 57 rfl (decide_eq_true (by omega)) (gct rfl (gSk (gS (gBk (gW (.p 0 (.p 2 (.p 3 (.q 1 (.e 4 (.e 5 (.e 6 (.p 7 (.e 8 .fin .nil)) .nil) .nil) .nil))))) [4, 5] [0, 2, 3, 7] hm [1, 2, 3] [blk aB [(nV 0), (nV 0), (.slice none 0 0), (nV 0)] 75, blk aC [(nV aA.1), (nV aG), aI, (nV aF.2)] 75, ow [aI] aH.2] rfl mxo (by kernel_rfl) (fun _ _ _ h => h.2) fun w hm hS => tP rfl (fun w => yF fo_75_2 rfl) (tP rfl (fun w => yM rfl) (tP rfl (fun w => yM rfl) (tQ rfl hS (fun w hm => yL hm 1 isAgg26 rfl) (tO (gb fun aO am => ?_))))))))))))))))))
   obtain ⟨an, hle, hm1, hsub, ao⟩ := hm.take2 (L1 := [blk bp0 [v1p, (nV aH.1)] 62]) (L2 := [blk aB [(nV 0), (nV 0), (.slice none 0 0), (nV 0)] 75, blk aC [(nV aA.1), (nV aG), aI, (nV aF.2)] 75, ow [aI] aH.2]) [0] [1, 2, 3] (by decide) rfl rfl
   refine tf rfl rfl (fun a hf => e_call hf rfl call13 rfl (pspec_l30Rd__pick_ok _ an (⟨r_.b, aH.1⟩ : l30Rd) bp0 v1p (GT.mono hle h1p) regs hm1  _ am)) ?_
   rintro bZ w ⟨rfl, hB⟩
   replace hm := ao _ _ hB; clear hB
   refine tAk hm [1, 2, 3] rfl fun hS => tO (tf rfl rfl (fun a hf => e_build (vs := #[(0, (nV aO.1))]) (cs := [(nV aO.1)]) et_26 hf hm rfl rfl (by kernel_rfl) rfl rfl) ?_)
   rintro _ w ⟨b5, rfl, hm⟩
   replace hm := hm.lit (xs := ([aO.1] : List Int)) 0 rfl rfl rfl rfl
   refine tAk hm [2, 3, 4] rfl fun hS => tO (gb fun b6 aq => ?_)
   obtain ⟨ar, au⟩ := appM_some.1 aq
   refine tf rfl rfl (fun a hf => e_append 4 et_26 hf hm rfl (hm.ow_rep 0 rfl) rfl rfl rfl ar) ?_
   rintro av w hm
   rw [au] at hm
   refine tAn rfl (tP rfl (fun w => yF fo_75_2 rfl) (tO (tf0 rfl rfl (fun a hf => e_store1 3 hf hm rfl sizeOf26 rfl rfl rfl (rep_one (hm.ow_rep 4 rfl)) rfl) ?_)))
   rintro _ w hm
   exact tAn rfl (tE (gR (gM rfl (gP (by omega) (by omega) rfl (gA rfl (gE (gZe fun a hf => ⟨av, hf.sb rfl, hm.pk [1, 2, 3, 4] rfl rfl⟩)))))))
  repeat clear hm
  rintro b7 b8 a w ⟨aw, hf, hm⟩ b9 ba
  exact gv hf (gS (gS (gR (gM rfl (gM rfl (gB rfl (gE (go _ 57 rfl (decide_eq_false (by omega)) (gcf rfl (gXt (gHh (gS (gR (gY (yn (hm.blk_at 2 rfl) isAgg75 sizeOf75 rfl) (gSN hm 1 sizeOf75 (one_cons rfl (one_cons rfl (one_cons (rep_one (hm.ow_rep 3 rfl)) (one_cons rfl one_nil)))) rfl fun w hm => gE (gRt (grc 1 results45 hm rfl isAgg75 sizeOf75 ⟨aw, rfl, hm.pk [0, 3] rfl rfl⟩)))))))))))))))))
theorem spec_l7To_ok (w0 : World) (hz : Heap) (r_ : l30Rd) (bp0 : Nat) (v1p : Value) (h1p : GT.rep hz [v1p] r_.b) (b_ : Int) (n_ : Int) (hm0 : Mem w0 hz w0 [blk bp0 [v1p, (nV r_.p)] 62]) :
    ConM Try.prog 46 [(pV bp0), (nV b_), (nV n_)] w0 (spec_l7To r_ b_ n_) fun r v w' => v = (nV r.1) ∧ Mem w0 hz w' [blk bp0 [v1p, (nV r.2.p)] 62] := by
  unfold spec_l7To
  refine gcon func46 rfl fun r => ?_
  have hm := hm0
  refine gS (gR (gA rfl (gE (gS (gS (gJ hm (fun aA => [(0, (pV bp0)), (1, (nV b_)), (2, (nV n_)), (15, (.bool (aA.2)))]) (fun aA => [blk bp0 [v1p, (nV aA.1)] 62]) (fun aA => ?_) ?_))))))
  ·
   refine gR (gM rfl (gM rfl (gB rfl (gB rfl (gM rfl (gsd 11 rfl (fun aB => ?_) fun aB => ?_))))))
   ·
    refine gM rfl ?_
    obtain ⟨aC, hle, hm1, hsub, aD⟩ := hm.take2 (L1 := [blk bp0 [v1p, (nV r_.p)] 62]) (L2 := []) [0] [] (by decide) rfl rfl
    refine gCg rfl call13 (pspec_l30Rd__pick_ok _ aC r_ bp0 v1p (GT.mono hle h1p) 4 hm1 ) ?_
    rintro aJ aK aL w ⟨rfl, hB⟩
    replace hm := aD _ _ hB; clear hB
    exact gB rfl (gKt rfl (gE (gz hm [0] rfl)))
   exact gO rfl (gO rfl (gO rfl (gKf rfl (gE (gz hm [0] rfl)))))
  repeat clear hm
  intro aA w hm
  refine gs 15 rfl (fun aE => ?_) fun aE => ?_
  ·
   refine gct rfl (gS (gR (gM rfl (gB rfl (gM rfl (gM rfl (gB rfl (gM rfl (gB rfl ?_)))))))))
   obtain ⟨aF, hle, hm1, hsub, aG⟩ := hm.take2 (L1 := [blk bp0 [v1p, (nV aA.1)] 62]) (L2 := []) [0] [] (by decide) rfl rfl
   refine gCg rfl call13 (pspec_l30Rd__pick_ok _ aF (⟨r_.b, aA.1⟩ : l30Rd) bp0 v1p (GT.mono hle h1p) (w64 ((w64 (n_ - 1)) - b_)) hm1 ) ?_
   rintro aM aN aO w ⟨rfl, hB⟩
   replace hm := aG _ _ hB; clear hB
   exact gB rfl (gA rfl (gE (gRt (gr1 results46 rfl ⟨rfl, hm.pk [0] rfl rfl⟩))))
  refine gcf rfl (gSk (gS (gR (gM rfl (gM rfl (gB rfl ?_))))))
  obtain ⟨aH, hle, hm1, hsub, aI⟩ := hm.take2 (L1 := [blk bp0 [v1p, (nV aA.1)] 62]) (L2 := []) [0] [] (by decide) rfl rfl
  refine gCg rfl call13 (pspec_l30Rd__pick_ok _ aH (⟨r_.b, aA.1⟩ : l30Rd) bp0 v1p (GT.mono hle h1p) (w64 (n_ - 1)) hm1 ) ?_
  rintro aP aQ aR w ⟨rfl, hB⟩
  replace hm := aI _ _ hB; clear hB
  exact gB rfl (gA rfl (gE (gRt (gr1 results46 rfl ⟨rfl, hm.pk [0] rfl rfl⟩))))
theorem spec_l7Code_ok (w0 : World) (hz : Heap) (r_ : l30Rd) (bp0 : Nat) (v1p : Value) (h1p : GT.rep hz [v1p] r_.b) (u : Unit_) (v1 : Value) (h1 : GT.rep hz [v1] u.codes) (hm0 : Mem w0 hz w0 [blk bp0 [v1p, (nV r_.p)] 62]) :
    ConM Try.prog 27 [(pV bp0), (.agg #[v1])] w0 (spec_l7Code r_ u) fun r v w' => ∃ (x1 : Value), v = (.agg #[(nV r.1.params), (nV r.1.regs), x1]) ∧ Mem w0 hz w' [blk bp0 [v1p, (nV r.2.p)] 62, ow [x1] r.1.blocks] := by
  unfold spec_l7Code
  refine gcon func27 rfl fun r => ?_
  have hm := hm0
  refine gS (gR (gBx hm rfl fun aE w hm => gAl hm zeroValue59 rfl fun aF w hm => gE (gS (gR (gM rfl (gf rfl (fun a hf => e_build (vs := #[(0, (nV 1)), (1, (nV 0)), (2, (nV 2)), (3, (nV 3))]) (cs := [(nV 1), (nV 0), (nV 2), (nV 3)]) et_26 hf hm rfl rfl (by kernel_rfl) rfl rfl) ?_))))))
  rintro _ w ⟨aW, rfl, hm⟩
  replace hm := hm.lit (xs := ([1, 0, 2, 3] : List Int)) 0 rfl rfl rfl rfl
  obtain ⟨an, hle, hm1, hsub, ao⟩ := hm.take2 (L1 := [blk bp0 [v1p, (nV r_.p)] 62]) (L2 := [ow [(sV aW 0 4 4)] ([1, 0, 2, 3] : List Int), blk aF [(nV 0), (nV 0), (.slice none 0 0)] 59, blk aE [v1] 25]) [3] [0, 1, 2] (by decide) rfl rfl
  refine gCg rfl call16 (pspec_l30Rd__num_ok _ an r_ bp0 v1p (GT.mono hle h1p) ([1, 0, 2, 3] : List Int) (sV aW 0 4 4) (fz_ow (hsub 0 _ rfl)) hm1 ) ?_
  rintro aB be bf w ⟨rfl, hB⟩
  replace hm := ao _ _ hB; clear hB
  refine gY (yG rfl (y_build (vs := [(0, (nV aB.1))]) (cs := #[(nV aB.1), (nV 0), (.slice none 0 0)]) rfl rfl (by kernel_rfl))) (gAl hm zeroValue59 rfl fun aG w hm => gSN hm 0 sizeOf59 (one_cons rfl (one_cons rfl (one_cons rfl one_nil))) rfl fun w hm => gE (gS (gW (.p 0 (.p 3 (.q 1 (.p 2 (.e 4 (.p 5 (.p 6 (.e 7 .fin .nil))) .nil))))) [4] [0, 2, 3, 5, 6] hm [0, 2, 3, 4] [blk aG [(nV aB.1), (nV 0), (.slice none 0 0)] 59, ow [(sV aW 0 4 4)] ([1, 0, 2, 3] : List Int), blk aF [(nV 0), (nV 0), (.slice none 0 0)] 59, blk aE [v1] 25] rfl mxo (by kernel_rfl) (fun _ _ _ h => h.2) fun w hm hS => tP rfl (fun w => yF fo_59_0 rfl) (tP rfl (fun w => yM rfl) (tQ rfl hS (fun w hm => yL hm 0 isAgg3 rfl) (tP rfl (fun w => yB rfl) (tO (gb fun aJ aq => ?_))))))))
  obtain ⟨ar, hle, hm1, hsub, au⟩ := hm.take2 (L1 := [blk bp0 [v1p, (nV aB.2.p)] 62]) (L2 := [blk aG [(nV aB.1), (nV 0), (.slice none 0 0)] 59, ow [(sV aW 0 4 4)] ([1, 0, 2, 3] : List Int), blk aF [(nV 0), (nV 0), (.slice none 0 0)] 59, blk aE [v1] 25]) [1] [0, 2, 3, 4] (by decide) rfl rfl
  refine tf rfl rfl (fun a hf => e_call hf rfl call13 rfl (pspec_l30Rd__pick_ok _ ar (⟨r_.b, aB.2.p⟩ : l30Rd) bp0 v1p (GT.mono hle h1p) 5 hm1  _ aq)) ?_
  rintro bg w ⟨rfl, hB⟩
  replace hm := au _ _ hB; clear hB
  refine tAk hm [1, 2, 3, 4] rfl fun hS => tP rfl (fun w => yB rfl) (tP rfl (fun w => yF fo_59_1 rfl) (tO (tf0 rfl rfl (fun a hf => e_store1 1 hf hm rfl sizeOf3 rfl rfl rfl rfl rfl) ?_)))
  rintro _ w hm
  refine tAn rfl (tE (gS (gR (gM rfl (gf rfl (fun a hf => e_build (vs := #[(0, (nV 3)), (1, (nV 5)), (2, (nV 2)), (3, (nV 1)), (4, (nV 7)), (5, (nV 4))]) (cs := [(nV 3), (nV 5), (nV 2), (nV 1), (nV 7), (nV 4)]) et_26 hf hm rfl rfl (by kernel_rfl) rfl rfl) ?_)))))
  rintro _ w ⟨ak, rfl, hm⟩
  replace hm := hm.lit (xs := ([3, 5, 2, 1, 7, 4] : List Int)) 0 rfl rfl rfl rfl
  obtain ⟨av, hle, hm1, hsub, aw⟩ := hm.take2 (L1 := [blk bp0 [v1p, (nV aJ.2.p)] 62]) (L2 := [ow [(sV ak 0 6 6)] ([3, 5, 2, 1, 7, 4] : List Int), blk aG [(nV aB.1), (nV (w64 ((w64 (aB.1 + 2)) + aJ.1))), (.slice none 0 0)] 59, ow [(sV aW 0 4 4)] ([1, 0, 2, 3] : List Int), blk aF [(nV 0), (nV 0), (.slice none 0 0)] 59, blk aE [v1] 25]) [1] [0, 2, 3, 4, 5] (by decide) rfl rfl
  refine gCg rfl call16 (pspec_l30Rd__num_ok _ av (⟨r_.b, aJ.2.p⟩ : l30Rd) bp0 v1p (GT.mono hle h1p) ([3, 5, 2, 1, 7, 4] : List Int) (sV ak 0 6 6) (fz_ow (hsub 0 _ rfl)) hm1 ) ?_
  rintro aS bh bi w ⟨rfl, hB⟩
  replace hm := aw _ _ hB; clear hB
  refine gA rfl (gE (gS (gS (gR (gA rfl (gE (gBk (gb fun _ al => ?_))))))))
  replace al := fitI_some.1 al
  replace hm := hm.nilow (α := Block_)
  refine gNg (fun aR aA a w => ∃ (aX : Value), St 100 [(0, (pV bp0)), (3, (pV aE)), (4, (pV aF)), (5, (pV aG)), (6, (nV aS.1)), (7, (nV aR))] w0 hz [blk bp0 [v1p, (nV aA.1)] 62, blk aE [v1] 25, blk aF [(nV 0), (nV 0), (.slice none 0 0)] 59, blk aG [(nV aB.1), (nV (w64 ((w64 (aB.1 + 2)) + aJ.1))), aX] 59, ow [aX] aA.2] a w) (fun a hf => ⟨(.slice none 0 0), hf.sb rfl, hm.pk [1, 6, 5, 3, 0] rfl rfl⟩) ?_ ?_
  ·
   repeat clear hm
   rintro _ _ aR aA a w ⟨aX, hf, hm⟩ bj bk bm _
   refine gv hf (gS (gS (gR (gM rfl (gM rfl (gB rfl (gE (go _ 26 rfl (decide_eq_true (by omega)) (gct rfl (gSk (gS (gBk (gS (gR (gY (yG rfl (y_build (vs := []) (cs := #[(.slice none 0 0), (.slice none 0 0), (nV 0), (nV 0), (.slice none 0 0)]) rfl rfl (by kernel_rfl))) (gAl hm zeroValue71 rfl fun aI w hm => gSN hm 0 sizeOf71 (one_cons rfl (one_cons rfl (one_cons rfl (one_cons rfl (one_cons rfl one_nil))))) rfl fun w hm => gE (gS (gS (gR (gM rfl (gf rfl (fun a hf => e_build (vs := #[(0, (nV 1)), (1, (nV 2)), (2, (nV 0)), (3, (nV 3)), (4, (nV 4))]) (cs := [(nV 1), (nV 2), (nV 0), (nV 3), (nV 4)]) et_26 hf hm rfl rfl (by kernel_rfl) rfl rfl) ?_)))))))))))))))))))))
   rintro _ w ⟨am, rfl, hm⟩
   replace hm := hm.lit (xs := ([1, 2, 0, 3, 4] : List Int)) 0 rfl rfl rfl rfl
   obtain ⟨ax, hle, hm1, hsub, ay⟩ := hm.take2 (L1 := [blk bp0 [v1p, (nV aA.1)] 62]) (L2 := [ow [(sV am 0 5 5)] ([1, 2, 0, 3, 4] : List Int), blk aI [(.slice none 0 0), (.slice none 0 0), (nV 0), (nV 0), (.slice none 0 0)] 71, blk aE [v1] 25, blk aF [(nV 0), (nV 0), (.slice none 0 0)] 59, blk aG [(nV aB.1), (nV (w64 ((w64 (aB.1 + 2)) + aJ.1))), aX] 59, ow [aX] aA.2]) [2] [0, 1, 3, 4, 5, 6] (by decide) rfl rfl
   refine gCg rfl call16 (pspec_l30Rd__num_ok _ ax (⟨r_.b, aA.1⟩ : l30Rd) bp0 v1p (GT.mono hle h1p) ([1, 2, 0, 3, 4] : List Int) (sV am 0 5 5) (fz_ow (hsub 0 _ rfl)) hm1 ) ?_
   rintro bo bp bq w ⟨rfl, hB⟩
   replace hm := ay _ _ hB; clear hB
   refine gA rfl (gE ?_)
   obtain ⟨aC, aD, rfl, br⟩ := ro_slice (hm.ow_rep 6 rfl)
   refine gJg (fun aN a w => ∃ (aH : Value), St 100 [(0, (pV bp0)), (3, (pV aE)), (4, (pV aF)), (5, (pV aG)), (6, (nV aS.1)), (7, (nV aR)), (8, (pV aI))] w0 hz [blk bp0 [v1p, (nV aN.1)] 62, blk aE [v1] 25, blk aF [(nV 0), (nV 0), (.slice none 0 0)] 59, blk aG [(nV aB.1), (nV (w64 ((w64 (aB.1 + 2)) + aJ.1))), (.slice aC aA.2.length aD)] 59, ow [(.slice aC aA.2.length aD)] aA.2, blk aI [(.slice none 0 0), aH, (nV 0), (nV 0), (.slice none 0 0)] 71, ow [aH] aN.2] a w) (fun aN => ?_) ?_
   ·
    refine gBk ?_
    replace hm := hm.nilow (α := Ins_)
    refine gMg (fun aP a w => ∃ (aO : Value), St 100 [(0, (pV bp0)), (3, (pV aE)), (4, (pV aF)), (5, (pV aG)), (6, (nV aS.1)), (7, (nV aR)), (8, (pV aI)), (9, (nV aP.2.2))] w0 hz [blk bp0 [v1p, (nV aP.1)] 62, blk aE [v1] 25, blk aF [(nV 0), (nV 0), (.slice none 0 0)] 59, blk aG [(nV aB.1), (nV (w64 ((w64 (aB.1 + 2)) + aJ.1))), (.slice aC aA.2.length aD)] 59, ow [(.slice aC aA.2.length aD)] aA.2, blk aI [(.slice none 0 0), aO, (nV 0), (nV 0), (.slice none 0 0)] 71, ow [aO] aP.2.1] a w) (fun a hf => ⟨(.slice none 0 0), hf.sb rfl, hm.pk [1, 4, 5, 6, 7, 3, 0] rfl rfl⟩) ?_
    repeat clear hm
    rintro bt az aP a w ⟨aO, hf, hm⟩ bu bA
    refine gv hf (gS (gS (gR (gM rfl (gB rfl (gE (gsd 34 rfl (fun bB => ?_) fun bB => ?_)))))))
    ·
     refine gct rfl (gSk (gS (gBk (gW (.p 0 (.p 2 (.p 4 (.q 1 (.q 3 (.e 5 (.e 6 (.e 7 (.e 8 (.p 9 (.e 10 .fin .nil)) .nil) .nil) .nil) .nil)))))) [1, 3, 5, 6, 7] [0, 2, 4, 9] hm [1, 2, 3, 4, 5, 6] [blk aE [v1] 25, blk aF [(nV 0), (nV 0), (.slice none 0 0)] 59, blk aG [(nV aB.1), (nV (w64 ((w64 (aB.1 + 2)) + aJ.1))), (.slice aC aA.2.length aD)] 59, ow [(.slice aC aA.2.length aD)] aA.2, blk aI [(.slice none 0 0), aO, (nV 0), (nV 0), (.slice none 0 0)] 71, ow [aO] aP.2.1] rfl mxo (by kernel_rfl) (fun _ _ _ h => h.2) fun w hm hS => tP rfl (fun w => yF fo_71_1 rfl) (tP rfl (fun w => yM rfl) (tP rfl (fun w => yF fo_59_1 rfl) (tQ rfl hS (fun w hm => yL hm 4 isAgg69 rfl) (tQ rfl hS (fun w hm => yn (hm.blk_at 0 rfl) isAgg25 sizeOf25 rfl) (tO (tY rfl (yL hm 3 isAgg3 rfl) (tAs hS (tO (gb fun aK bC => ?_)))))))))))))
     obtain ⟨bD, hle, hm1, hsub, bE⟩ := hm.take2 (L1 := [blk bp0 [v1p, (nV aP.1)] 62]) (L2 := [blk aE [v1] 25, blk aF [(nV 0), (nV 0), (.slice none 0 0)] 59, blk aG [(nV aB.1), (nV (w64 ((w64 (aB.1 + 2)) + aJ.1))), (.slice aC aA.2.length aD)] 59, ow [(.slice aC aA.2.length aD)] aA.2, blk aI [(.slice none 0 0), aO, (nV 0), (nV 0), (.slice none 0 0)] 71, ow [aO] aP.2.1]) [0] [1, 2, 3, 4, 5, 6] (by decide) rfl rfl
     refine tf rfl rfl (fun a hf => e_call hf rfl call45 rfl (spec_l7Some_ok _ bD (⟨r_.b, aP.1⟩ : l30Rd) bp0 v1p (GT.mono hle h1p) u v1 (GT.mono hle h1) (w64 ((w64 (aB.1 + 2)) + aJ.1)) hm1  _ bC)) ?_
     rintro bv w ⟨aV, rfl, hB⟩
     replace hm := bE _ _ hB; clear hB
     refine tAk hm [2, 3, 4, 5, 6, 7] rfl fun hS => tO (tf rfl rfl (fun a hf => e_build (vs := #[(0, (.agg #[(nV aK.1.op), (nV aK.1.to), aV, (nV aK.1.n_)]))]) (cs := [(nV aK.1.op), (nV aK.1.to), aV, (nV aK.1.n_)]) et_69 hf hm rfl rfl (by kernel_rfl) rfl rfl) ?_)
     rintro _ w ⟨aa, rfl, hm⟩
     replace hm := hm.els_nil (α := Ins_)
     replace hm : Mem w0 hz _ [els [] ([] : List Ins_), blk aa [(nV aK.1.op), (nV aK.1.to), aV, (nV aK.1.n_)] 75, blk bp0 [v1p, (nV aK.2.p)] 62, ow [(nV aK.1.op), (nV aK.1.to), aV, (nV aK.1.n_)] (aK.1 : Ins_), blk aE [v1] 25, blk aF [(nV 0), (nV 0), (.slice none 0 0)] 59, blk aG [(nV aB.1), (nV (w64 ((w64 (aB.1 + 2)) + aJ.1))), (.slice aC aA.2.length aD)] 59, ow [(.slice aC aA.2.length aD)] aA.2, blk aI [(.slice none 0 0), aO, (nV 0), (nV 0), (.slice none 0 0)] 71, ow [aO] aP.2.1] := mk_Ins_ aK.1.op aK.1.to aK.1.n_ hm 3 rfl
     replace hm := (hm.els_cons 0 3 (by decide) rfl rfl).pk (L' := [els [(nV aK.1.op), (nV aK.1.to), aV, (nV aK.1.n_)] ([aK.1] : List Ins_), blk aa [(nV aK.1.op), (nV aK.1.to), aV, (nV aK.1.n_)] 75, blk bp0 [v1p, (nV aK.2.p)] 62, blk aE [v1] 25, blk aF [(nV 0), (nV 0), (.slice none 0 0)] 59, blk aG [(nV aB.1), (nV (w64 ((w64 (aB.1 + 2)) + aJ.1))), (.slice aC aA.2.length aD)] 59, ow [(.slice aC aA.2.length aD)] aA.2, blk aI [(.slice none 0 0), aO, (nV 0), (nV 0), (.slice none 0 0)] 71, ow [aO] aP.2.1]) [0, 1, 2, 4, 5, 6, 7, 8, 9] rfl rfl
     replace hm := (hm.lit_els 1 0 (by decide) rfl rfl rfl rfl).pk (L' := [ow [(sV aa 0 1 1)] ([aK.1] : List Ins_), blk bp0 [v1p, (nV aK.2.p)] 62, blk aE [v1] 25, blk aF [(nV 0), (nV 0), (.slice none 0 0)] 59, blk aG [(nV aB.1), (nV (w64 ((w64 (aB.1 + 2)) + aJ.1))), (.slice aC aA.2.length aD)] 59, ow [(.slice aC aA.2.length aD)] aA.2, blk aI [(.slice none 0 0), aO, (nV 0), (nV 0), (.slice none 0 0)] 71, ow [aO] aP.2.1]) [1, 2, 3, 4, 5, 6, 7, 8] rfl rfl
     refine tAk hm [2, 3, 4, 5, 6, 7] rfl fun hS => tO (gb fun bw bF => ?_)
     obtain ⟨bG, bH⟩ := appM_some.1 bF
     replace hm := (hm.both 7 0 (by decide) rfl rfl).pk (L' := [blk bp0 [v1p, (nV aK.2.p)] 62, blk aE [v1] 25, blk aF [(nV 0), (nV 0), (.slice none 0 0)] 59, blk aG [(nV aB.1), (nV (w64 ((w64 (aB.1 + 2)) + aJ.1))), (.slice aC aA.2.length aD)] 59, ow [(.slice aC aA.2.length aD)] aA.2, blk aI [(.slice none 0 0), aO, (nV 0), (nV 0), (.slice none 0 0)] 71, both (ow [aO] aP.2.1) (ow [(sV aa 0 1 1)] ([aK.1] : List Ins_))]) [1, 2, 3, 4, 5, 6, 7] rfl rfl
     refine tf rfl rfl (fun a hf => e_appendD (xs := aP.2.1) (ys := ([aK.1] : List Ins_)) 6 et_69 hf hm rfl rfl rfl rfl bG) ?_
     rintro bJ w hm
     rw [bH] at hm
     refine tAn rfl (tP rfl (fun w => yF fo_71_1 rfl) (tO (tf0 rfl rfl (fun a hf => e_store1 5 hf hm rfl sizeOf69 rfl rfl rfl (rep_one (hm.ow_rep 6 rfl)) rfl) ?_)))
     rintro _ w hm
     exact tAn rfl (tE (gR (gM rfl (gB rfl (gA rfl (gE (gZe fun a hf => ⟨bJ, hf.sb rfl, hm.pk [0, 1, 2, 3, 4, 5, 6] rfl rfl⟩)))))))
    exact gcf rfl (gXt (gHh (gLp bA az (gZ fun a hf => ⟨aO, hf.sb rfl, hm.pk [0, 1, 2, 3, 4, 5, 6] rfl rfl⟩))))
   repeat clear hm
   rintro aN a w ⟨aH, hf, hm⟩
   refine gv hf (gS (gR (gM rfl (gF fo_59_1 rfl (gL hm 3 isAgg3 rfl ?_)))))
   obtain ⟨bK, hle, hm1, hsub, bL⟩ := hm.take2 (L1 := [blk bp0 [v1p, (nV aN.1)] 62]) (L2 := [blk aE [v1] 25, blk aF [(nV 0), (nV 0), (.slice none 0 0)] 59, blk aG [(nV aB.1), (nV (w64 ((w64 (aB.1 + 2)) + aJ.1))), (.slice aC aA.2.length aD)] 59, ow [(.slice aC aA.2.length aD)] aA.2, blk aI [(.slice none 0 0), aH, (nV 0), (nV 0), (.slice none 0 0)] 71, ow [aH] aN.2]) [0] [1, 2, 3, 4, 5, 6] (by decide) rfl rfl
   refine gCg rfl call13 (pspec_l30Rd__pick_ok _ bK (⟨r_.b, aN.1⟩ : l30Rd) bp0 v1p (GT.mono hle h1p) (w64 ((w64 (aB.1 + 2)) + aJ.1)) hm1 ) ?_
   rintro aU bx bz w ⟨rfl, hB⟩
   replace hm := bL _ _ hB; clear hB
   refine gF fo_71_3 rfl (gS1 hm 5 sizeOf3 rfl rfl fun w hm => gE (gS (gR (gM rfl (gf rfl (fun a hf => e_build (vs := #[(0, (nV 2)), (1, (nV 1)), (2, (nV 2)), (3, (nV 1)), (4, (nV 3))]) (cs := [(nV 2), (nV 1), (nV 2), (nV 1), (nV 3)]) et_26 hf hm rfl rfl (by kernel_rfl) rfl rfl) ?_)))))
   rintro _ w ⟨ah, rfl, hm⟩
   replace hm := hm.lit (xs := ([2, 1, 2, 1, 3] : List Int)) 0 rfl rfl rfl rfl
   obtain ⟨bM, hle, hm1, hsub, bN⟩ := hm.take2 (L1 := [blk bp0 [v1p, (nV aU.2.p)] 62]) (L2 := [ow [(sV ah 0 5 5)] ([2, 1, 2, 1, 3] : List Int), blk aE [v1] 25, blk aF [(nV 0), (nV 0), (.slice none 0 0)] 59, blk aG [(nV aB.1), (nV (w64 ((w64 (aB.1 + 2)) + aJ.1))), (.slice aC aA.2.length aD)] 59, ow [(.slice aC aA.2.length aD)] aA.2, blk aI [(.slice none 0 0), aH, (nV 0), (nV aU.1), (.slice none 0 0)] 71, ow [aH] aN.2]) [1] [0, 2, 3, 4, 5, 6, 7] (by decide) rfl rfl
   refine gCg rfl call16 (pspec_l30Rd__num_ok _ bM (⟨r_.b, aU.2.p⟩ : l30Rd) bp0 v1p (GT.mono hle h1p) ([2, 1, 2, 1, 3] : List Int) (sV ah 0 5 5) (fz_ow (hsub 0 _ rfl)) hm1 ) ?_
   rintro ab cA cB w ⟨rfl, hB⟩
   replace hm := bN _ _ hB; clear hB
   refine gF fo_71_2 rfl (gS1 hm 6 sizeOf3 rfl rfl fun w hm => gE (gS (gS (gJ hm (fun aT => [(0, (pV bp0)), (3, (pV aE)), (4, (pV aF)), (5, (pV aG)), (6, (nV aS.1)), (7, (nV aR)), (8, (pV aI)), (68, (.bool (aT.2)))]) (fun aT => [blk bp0 [v1p, (nV aT.1)] 62, blk aE [v1] 25, blk aF [(nV 0), (nV 0), (.slice none 0 0)] 59, blk aG [(nV aB.1), (nV (w64 ((w64 (aB.1 + 2)) + aJ.1))), (.slice aC aA.2.length aD)] 59, ow [(.slice aC aA.2.length aD)] aA.2, blk aI [(.slice none 0 0), aH, (nV ab.1), (nV aU.1), (.slice none 0 0)] 71, ow [aH] aN.2]) (fun aT => ?_) ?_))))
   ·
    refine gR (gM rfl (gB rfl (gM rfl (gsd 58 rfl (fun bO => ?_) fun bO => ?_))))
    ·
     exact gO rfl (gO rfl (gO rfl (gO rfl (gO rfl (gO rfl (gO rfl (gO rfl (gO rfl (gKt rfl (gE (gz hm [0, 2, 3, 4, 5, 6, 7] rfl)))))))))))
    refine gM rfl (gM rfl (gB rfl (gB rfl (gM rfl (gsd 63 rfl (fun bP => ?_) fun bP => ?_)))))
    ·
     refine gM rfl ?_
     obtain ⟨bQ, hle, hm1, hsub, bR⟩ := hm.take2 (L1 := [blk bp0 [v1p, (nV ab.2.p)] 62]) (L2 := [ow [(sV ah 0 5 5)] ([2, 1, 2, 1, 3] : List Int), blk aE [v1] 25, blk aF [(nV 0), (nV 0), (.slice none 0 0)] 59, blk aG [(nV aB.1), (nV (w64 ((w64 (aB.1 + 2)) + aJ.1))), (.slice aC aA.2.length aD)] 59, ow [(.slice aC aA.2.length aD)] aA.2, blk aI [(.slice none 0 0), aH, (nV ab.1), (nV aU.1), (.slice none 0 0)] 71, ow [aH] aN.2]) [0] [1, 2, 3, 4, 5, 6, 7] (by decide) rfl rfl
     refine gCg rfl call13 (pspec_l30Rd__pick_ok _ bQ (⟨r_.b, ab.2.p⟩ : l30Rd) bp0 v1p (GT.mono hle h1p) 3 hm1 ) ?_
     rintro cC cD cE w ⟨rfl, hB⟩
     replace hm := bR _ _ hB; clear hB
     exact gB rfl (gKt rfl (gKf rfl (gE (gz hm [0, 2, 3, 4, 5, 6, 7] rfl))))
    exact gO rfl (gO rfl (gO rfl (gKf rfl (gKf rfl (gE (gz hm [0, 2, 3, 4, 5, 6, 7] rfl))))))
   repeat clear hm
   intro aT w hm
   refine gJ hm (fun aM => [(0, (pV bp0)), (3, (pV aE)), (4, (pV aF)), (5, (pV aG)), (6, (nV aS.1)), (7, (nV aR)), (8, (pV aI))]) (fun aM => [blk bp0 [v1p, (nV aT.1)] 62, blk aE [v1] 25, blk aF [(nV 0), (nV 0), (.slice none 0 0)] 59, blk aG [(nV aB.1), (nV (w64 ((w64 (aB.1 + 2)) + aJ.1))), (.slice aC aA.2.length aD)] 59, ow [(.slice aC aA.2.length aD)] aA.2, blk aI [(.slice none 0 0), aH, (nV aM), (nV aU.1), (.slice none 0 0)] 71, ow [aH] aN.2]) (fun aM => ?_) ?_
   ·
    refine gs 68 rfl (fun bS => ?_) fun bS => ?_
    ·
     exact gct rfl (gR (gF fo_71_2 rfl (gS1 hm 5 sizeOf3 rfl rfl fun w hm => gE (gz hm [0, 1, 2, 3, 4, 5, 6] rfl))))
    exact gcf rfl (gSk (gz hm [0, 1, 2, 3, 4, 5, 6] rfl))
   repeat clear hm
   intro aM w hm
   refine gS (gS (gR (gF fo_71_2 rfl (gL hm 5 isAgg3 rfl (gE (gJg (fun aL a w => ∃ (aQ : Value), St 100 [(0, (pV bp0)), (3, (pV aE)), (4, (pV aF)), (5, (pV aG)), (6, (nV aS.1)), (7, (nV aR)), (8, (pV aI))] w0 hz [blk bp0 [v1p, (nV aL.1)] 62, blk aE [v1] 25, blk aF [(nV 0), (nV 0), (.slice none 0 0)] 59, blk aG [(nV aB.1), (nV (w64 ((w64 (aB.1 + 2)) + aJ.1))), (.slice aC aA.2.length aD)] 59, ow [(.slice aC aA.2.length aD)] aA.2, blk aI [(.slice none 0 0), aH, (nV aM), (nV aL.2.1), aQ] 71, ow [aH] aN.2, ow [aQ] aL.2.2] a w) (fun aL => ?_) ?_))))))
   ·
    refine gBk (gS (gR (gB rfl (gA rfl (gE (gJg (fun aY a w => ∃ (ac : Value), St 100 [(0, (pV bp0)), (3, (pV aE)), (4, (pV aF)), (5, (pV aG)), (6, (nV aS.1)), (7, (nV aR)), (8, (pV aI))] w0 hz [blk bp0 [v1p, (nV aY.1)] 62, blk aE [v1] 25, blk aF [(nV 0), (nV 0), (.slice none 0 0)] 59, blk aG [(nV aB.1), (nV (w64 ((w64 (aB.1 + 2)) + aJ.1))), (.slice aC aA.2.length aD)] 59, ow [(.slice aC aA.2.length aD)] aA.2, blk aI [(.slice none 0 0), aH, (nV aM), (nV aY.2.1), ac] 71, ow [aH] aN.2, ow [ac] aY.2.2] a w) (fun aY => ?_) ?_))))))
    ·
     refine gsd 72 rfl (fun bT => ?_) fun bT => ?_
     ·
      refine gct rfl (gS (gR (gF fo_71_3 rfl (gS1 hm 5 sizeOf3 rfl rfl fun w hm => gE (gR (gM rfl (gM rfl (gM rfl ?_))))))))
      obtain ⟨bU, hle, hm1, hsub, bV⟩ := hm.take2 (L1 := [blk bp0 [v1p, (nV aT.1)] 62]) (L2 := [blk aE [v1] 25, blk aF [(nV 0), (nV 0), (.slice none 0 0)] 59, blk aG [(nV aB.1), (nV (w64 ((w64 (aB.1 + 2)) + aJ.1))), (.slice aC aA.2.length aD)] 59, ow [(.slice aC aA.2.length aD)] aA.2, blk aI [(.slice none 0 0), aH, (nV aM), (nV 0), (.slice none 0 0)] 71, ow [aH] aN.2]) [0] [1, 2, 3, 4, 5, 6] (by decide) rfl rfl
      refine gCg rfl call46 (spec_l7To_ok _ bU (⟨r_.b, aT.1⟩ : l30Rd) bp0 v1p (GT.mono hle h1p) aR aS.1 hm1 ) ?_
      rintro ai cF cG w ⟨rfl, hB⟩
      replace hm := bV _ _ hB; clear hB
      refine gf rfl (fun a hf => e_build (vs := #[(0, (nV ai.1))]) (cs := [(nV ai.1)]) et_26 hf hm rfl rfl (by kernel_rfl) rfl rfl) ?_
      rintro _ w ⟨bW, rfl, hm⟩
      replace hm := hm.lit (xs := ([ai.1] : List Int)) 0 rfl rfl rfl rfl
      exact gF fo_71_4 rfl (gS1 hm 6 sizeOf26 rfl rfl fun w hm => gE (gZ fun a hf => ⟨(sV bW 0 1 1), hf.sb rfl, hm.pk [1, 2, 3, 4, 5, 6, 7, 0] rfl rfl⟩))
     refine gcf rfl (gS (gR (gB rfl (gA rfl (gE (gJg (fun ae a w => ∃ (af : Value), St 100 [(0, (pV bp0)), (3, (pV aE)), (4, (pV aF)), (5, (pV aG)), (6, (nV aS.1)), (7, (nV aR)), (8, (pV aI))] w0 hz [blk bp0 [v1p, (nV ae.1)] 62, blk aE [v1] 25, blk aF [(nV 0), (nV 0), (.slice none 0 0)] 59, blk aG [(nV aB.1), (nV (w64 ((w64 (aB.1 + 2)) + aJ.1))), (.slice aC aA.2.length aD)] 59, ow [(.slice aC aA.2.length aD)] aA.2, blk aI [(.slice none 0 0), aH, (nV aM), (nV aU.1), af] 71, ow [aH] aN.2, ow [af] ae.2] a w) (fun ae => ?_) ?_))))))
     ·
      refine gsd 81 rfl (fun bX => ?_) fun bX => ?_
      ·
       refine gct rfl (gR (gM rfl (gM rfl (gM rfl ?_))))
       obtain ⟨bY, hle, hm1, hsub, bZ⟩ := hm.take2 (L1 := [blk bp0 [v1p, (nV aT.1)] 62]) (L2 := [blk aE [v1] 25, blk aF [(nV 0), (nV 0), (.slice none 0 0)] 59, blk aG [(nV aB.1), (nV (w64 ((w64 (aB.1 + 2)) + aJ.1))), (.slice aC aA.2.length aD)] 59, ow [(.slice aC aA.2.length aD)] aA.2, blk aI [(.slice none 0 0), aH, (nV aM), (nV aU.1), (.slice none 0 0)] 71, ow [aH] aN.2]) [0] [1, 2, 3, 4, 5, 6] (by decide) rfl rfl
       refine gCg rfl call46 (spec_l7To_ok _ bY (⟨r_.b, aT.1⟩ : l30Rd) bp0 v1p (GT.mono hle h1p) aR aS.1 hm1 ) ?_
       rintro aZ cH cI w ⟨rfl, hB⟩
       replace hm := bZ _ _ hB; clear hB
       refine gM rfl (gM rfl (gM rfl ?_))
       obtain ⟨b5, hle, hm1, hsub, b6⟩ := hm.take2 (L1 := [blk bp0 [v1p, (nV aZ.2.p)] 62]) (L2 := [blk aE [v1] 25, blk aF [(nV 0), (nV 0), (.slice none 0 0)] 59, blk aG [(nV aB.1), (nV (w64 ((w64 (aB.1 + 2)) + aJ.1))), (.slice aC aA.2.length aD)] 59, ow [(.slice aC aA.2.length aD)] aA.2, blk aI [(.slice none 0 0), aH, (nV aM), (nV aU.1), (.slice none 0 0)] 71, ow [aH] aN.2]) [0] [1, 2, 3, 4, 5, 6] (by decide) rfl rfl
       refine gCg rfl call46 (spec_l7To_ok _ b5 (⟨r_.b, aZ.2.p⟩ : l30Rd) bp0 v1p (GT.mono hle h1p) aR aS.1 hm1 ) ?_
       rintro aj cJ cK w ⟨rfl, hB⟩
       replace hm := b6 _ _ hB; clear hB
       refine gf rfl (fun a hf => e_build (vs := #[(0, (nV aZ.1)), (1, (nV aj.1))]) (cs := [(nV aZ.1), (nV aj.1)]) et_26 hf hm rfl rfl (by kernel_rfl) rfl rfl) ?_
       rintro _ w ⟨b7, rfl, hm⟩
       replace hm := hm.lit (xs := ([aZ.1, aj.1] : List Int)) 0 rfl rfl rfl rfl
       exact gF fo_71_4 rfl (gS1 hm 6 sizeOf26 rfl rfl fun w hm => gE (gZ fun a hf => ⟨(sV b7 0 2 2), hf.sb rfl, hm.pk [1, 2, 3, 4, 5, 6, 7, 0] rfl rfl⟩))
      refine gcf rfl (gSk ?_)
      replace hm := hm.nilow (α := Int)
      exact gZ fun a hf => ⟨(.slice none 0 0), hf.sb rfl, hm.pk [1, 2, 3, 4, 5, 6, 7, 0] rfl rfl⟩
     repeat clear hm
     rintro ae a w ⟨af, hf, hm⟩
     exact gv hf (gZ fun a hf => ⟨af, hf.sb rfl, hm.pk [0, 1, 2, 3, 4, 5, 6, 7] rfl rfl⟩)
    repeat clear hm
    rintro aY a w ⟨ac, hf, hm⟩
    exact gv hf (gZ fun a hf => ⟨ac, hf.sb rfl, hm.pk [0, 1, 2, 3, 4, 5, 6, 7] rfl rfl⟩)
   repeat clear hm
   rintro aL a w ⟨aQ, hf, hm⟩
   refine gv hf (gR (gF fo_59_2 rfl (gL hm 3 isAgg57 rfl (gY (yn (hm.blk_at 5 rfl) isAgg71 sizeOf71 rfl) (gf rfl (fun a hf => e_build (vs := #[(0, (.agg #[(.slice none 0 0), aH, (nV aM), (nV aL.2.1), aQ]))]) (cs := [(.slice none 0 0), aH, (nV aM), (nV aL.2.1), aQ]) et_57 hf hm rfl rfl (by kernel_rfl) rfl rfl) ?_)))))
   rintro _ w ⟨ag, rfl, hm⟩
   replace hm := hm.els_nil (α := Block_)
   replace hm := hm.nilow (α := Phi_)
   replace hm := (mk_Block_ aM aL.2.1 hm 0 9 10 rfl).pk (L' := [ow [(.slice none 0 0), aH, (nV aM), (nV aL.2.1), aQ] ((⟨[], aN.2, aM, aL.2.1, aL.2.2⟩ : Block_) : Block_), els [] ([] : List Block_), blk ag [(.slice none 0 0), aH, (nV aM), (nV aL.2.1), aQ] 71, blk bp0 [v1p, (nV aL.1)] 62, blk aE [v1] 25, blk aF [(nV 0), (nV 0), (.slice none 0 0)] 59, blk aG [(nV aB.1), (nV (w64 ((w64 (aB.1 + 2)) + aJ.1))), (.slice aC aA.2.length aD)] 59, ow [(.slice aC aA.2.length aD)] aA.2, blk aI [(.slice none 0 0), aH, (nV aM), (nV aL.2.1), aQ] 71]) [0, 1, 2, 3, 4, 5, 6, 7, 8] rfl rfl
   replace hm := (hm.els_cons 1 0 (by decide) rfl rfl).pk (L' := [els [(.slice none 0 0), aH, (nV aM), (nV aL.2.1), aQ] ([(⟨[], aN.2, aM, aL.2.1, aL.2.2⟩ : Block_)] : List Block_), blk ag [(.slice none 0 0), aH, (nV aM), (nV aL.2.1), aQ] 71, blk bp0 [v1p, (nV aL.1)] 62, blk aE [v1] 25, blk aF [(nV 0), (nV 0), (.slice none 0 0)] 59, blk aG [(nV aB.1), (nV (w64 ((w64 (aB.1 + 2)) + aJ.1))), (.slice aC aA.2.length aD)] 59, ow [(.slice aC aA.2.length aD)] aA.2, blk aI [(.slice none 0 0), aH, (nV aM), (nV aL.2.1), aQ] 71]) [1, 2, 3, 4, 5, 6, 7, 8] rfl rfl
   replace hm := (hm.lit_els 1 0 (by decide) rfl rfl rfl rfl).pk (L' := [ow [(sV ag 0 1 1)] ([(⟨[], aN.2, aM, aL.2.1, aL.2.2⟩ : Block_)] : List Block_), blk bp0 [v1p, (nV aL.1)] 62, blk aE [v1] 25, blk aF [(nV 0), (nV 0), (.slice none 0 0)] 59, blk aG [(nV aB.1), (nV (w64 ((w64 (aB.1 + 2)) + aJ.1))), (.slice aC aA.2.length aD)] 59, ow [(.slice aC aA.2.length aD)] aA.2, blk aI [(.slice none 0 0), aH, (nV aM), (nV aL.2.1), aQ] 71]) [1, 2, 3, 4, 5, 6, 7] rfl rfl
   refine gb fun cL b8 => ?_
   obtain ⟨b9, ba⟩ := appM_some.1 b8
   replace hm := (hm.both 5 0 (by decide) rfl rfl).pk (L' := [blk bp0 [v1p, (nV aL.1)] 62, blk aE [v1] 25, blk aF [(nV 0), (nV 0), (.slice none 0 0)] 59, blk aG [(nV aB.1), (nV (w64 ((w64 (aB.1 + 2)) + aJ.1))), (.slice aC aA.2.length aD)] 59, both (ow [(.slice aC aA.2.length aD)] aA.2) (ow [(sV ag 0 1 1)] ([(⟨[], aN.2, aM, aL.2.1, aL.2.2⟩ : Block_)] : List Block_)), blk aI [(.slice none 0 0), aH, (nV aM), (nV aL.2.1), aQ] 71]) [1, 2, 3, 4, 5, 6] rfl rfl
   refine gf rfl (fun a hf => e_appendD (xs := aA.2) (ys := ([(⟨[], aN.2, aM, aL.2.1, aL.2.2⟩ : Block_)] : List Block_)) 4 et_57 hf hm rfl rfl rfl rfl b9) ?_
   rintro bc w hm
   rw [ba] at hm
   exact gF fo_59_2 rfl (gS1 hm 3 sizeOf57 (rep_one (hm.ow_rep 4 rfl)) rfl fun w hm => gE (gR (gM rfl (gP (by omega) (by omega) rfl (gA rfl (gE (gZe fun a hf => ⟨bc, hf.sb rfl, hm.pk [0, 1, 2, 3, 4] rfl rfl⟩)))))))
  repeat clear hm
  rintro cM cN a w ⟨bd, hf, hm⟩ cO cP
  exact gv hf (gS (gS (gR (gM rfl (gM rfl (gB rfl (gE (go _ 26 rfl (decide_eq_false (by omega)) (gcf rfl (gXt (gHh (gS (gR (gY (yn (hm.blk_at 3 rfl) isAgg59 sizeOf59 rfl) (gSN hm 2 sizeOf59 (one_cons rfl (one_cons rfl (one_cons (rep_one (hm.ow_rep 4 rfl)) one_nil))) rfl fun w hm => gE (gRt (grc 2 results27 hm rfl isAgg59 sizeOf59 ⟨bd, rfl, hm.pk [0, 4] rfl rfl⟩)))))))))))))))))
theorem spec_l7Preds_ok (w0 : World) (c_ : Code_) (v1 : Value) (h1 : GT.rep (hp w0) [v1] c_.blocks) (b_ : Int) :
    ConM Try.prog 28 [(.agg #[(nV c_.params), (nV c_.regs), v1]), (nV b_)] w0 (spec_l7Preds c_ b_) fun r v w' => ∃ (x1 : Value), v = x1 ∧ Mem w0 (hp w0) w' [ow [x1] r] := by
  unfold spec_l7Preds
  refine gcon func28 rfl fun r => ?_
  have hm := Mem.start w0
  refine gS (gR (gBx hm rfl fun aB w hm => gA rfl (gE (gS (gR (gf rfl (fun a hf => e_build0 (α := Int) et_26 hm rfl) ?_))))))
  rintro ae w hm
  refine gA rfl (gE (gS (gS (gR (gA rfl (gE ?_))))))
  obtain ⟨aS, aT, rfl, af⟩ := ro_slice (hm.ow_rep 0 rfl)
  refine gBk (gNg (fun aA aC a w => ∃ (aF : Value), St 43 [(1, (nV b_)), (2, (pV aB)), (5, aF), (6, (nV aA))] w0 (hp w0) [blk aB [(nV c_.params), (nV c_.regs), v1] 59, ow [aF] aC] a w) (fun a hf => ⟨(.slice aS ([] : List Int).length aT), hf.sb rfl, hm.pk [1, 0] rfl rfl⟩) ?_ ?_)
  ·
   repeat clear hm
   rintro _ _ aA aC a w ⟨aF, hf, hm⟩ ag ah ai _
   refine gv hf (gS (gS (gR (gM rfl (gF fo_59_2 rfl (gL hm 0 isAgg57 rfl ?_))))))
   obtain ⟨aM, aN, rfl, aj⟩ := ro_slice h1
   refine gY (yV st_57 rfl) (gB rfl (gE (go _ 13 rfl (decide_eq_true (by omega)) (gct rfl (gSk (gS (gBk (gS (gR (gA rfl (gE ?_)))))))))))
   obtain ⟨aG, aH, rfl, ak⟩ := ro_slice (hm.ow_rep 1 rfl)
   refine gJg (fun aI a w => ∃ (aD : Value), St 43 [(1, (nV b_)), (2, (pV aB)), (5, aD), (6, (nV aA))] w0 (hp w0) [blk aB [(nV c_.params), (nV c_.regs), (.slice aM c_.blocks.length aN)] 59, ow [aD] aI] a w) (fun aI => ?_) ?_
   ·
    refine gBk (gMf hm (fun aJ => [(1, (nV b_)), (2, (pV aB)), (5, (.slice aG aC.length aH)), (6, (nV aA)), (7, (nV aJ))]) (fun aJ => [blk aB [(nV c_.params), (nV c_.regs), (.slice aM c_.blocks.length aN)] 59, ow [(.slice aG aC.length aH)] aC]) [0, 1] rfl ?_)
    repeat clear hm
    intro al aO aJ w hm am aP
    refine gS (gS (gR (gM rfl (gF fo_59_2 rfl (gL hm 0 isAgg57 rfl (gM rfl (gg fun an aQ aE => ?_)))))))
    obtain ⟨ao, aq, ar, he⟩ := idx_form' h1 aE
    obtain ⟨rfl, _, rfl⟩ := sl3 he
    obtain ⟨au, av, aw, aR, ax, ay, aK⟩ := rk_Block_ h1 aE
    refine gI st_57 aQ (idx_lt aE) rfl (gF fo_71_4 rfl (gY (yl isAgg26 ((aR.mono hm.lez).cell (j := 4) rfl) rfl) ?_))
    obtain ⟨az, bA, rfl, bB⟩ := ro_slice aK
    refine gY (yV st_26 rfl) (gB rfl (gE (gsd 24 rfl (fun aU => ?_) fun aU => ?_)))
    ·
     refine gct rfl (gSk (gS (gBk (gS (gR (gF fo_59_2 rfl (gL hm 0 isAgg57 rfl (gM rfl (gI st_57 aQ (idx_lt aE) rfl (gF fo_71_4 rfl (gY (yl isAgg26 ((aR.mono hm.lez).cell (j := 4) rfl) rfl) (gM rfl (gg fun aV aW aL => ?_)))))))))))))
     obtain ⟨bC, bD, bE, he⟩ := idx_form aK aL
     obtain ⟨rfl, _, rfl⟩ := sl3 he
     refine gI st_26 aW (idx_lt aL) rfl (gY (yl isAgg3 ((flat_cells (cs := [(nV aV)]) (hm.now aK) aL rfl).cell (j := 0) rfl) rfl) (gM rfl (gB rfl (gE (gsd 37 rfl (fun aX => ?_) fun aX => ?_)))))
     ·
      refine gct rfl (gS (gR (gM rfl (gM rfl (gf rfl (fun a hf => e_build (vs := #[(0, (nV aA))]) (cs := [(nV aA)]) et_26 hf hm rfl rfl (by kernel_rfl) rfl rfl) ?_)))))
      rintro _ w ⟨bF, rfl, hm⟩
      replace hm := hm.lit (xs := ([aA] : List Int)) 0 rfl rfl rfl rfl
      refine gb fun bG aY => ?_
      obtain ⟨aZ, aa⟩ := appM_some.1 aY
      refine gf rfl (fun a hf => e_append 2 et_26 hf hm rfl (hm.ow_rep 0 rfl) rfl rfl rfl aZ) ?_
      rintro ab w hm
      rw [aa] at hm
      exact gA rfl (gE (gXt (gHm rfl (gHh (gLp aP aO (gZ fun a hf => ⟨ab, hf.sb rfl, hm.pk [1, 2] rfl rfl⟩))))))
     exact gcf rfl (gSk (gR (gM rfl (gB rfl (gA rfl (gE (gze hm [0, 1] rfl)))))))
    exact gcf rfl (gXt (gHh (gLp aP aO (gZ fun a hf => ⟨(.slice aG aC.length aH), hf.sb rfl, hm.pk [0, 1] rfl rfl⟩))))
   repeat clear hm
   rintro aI a w ⟨aD, hf, hm⟩
   exact gv hf (gR (gM rfl (gP (by omega) (by omega) rfl (gA rfl (gE (gZe fun a hf => ⟨aD, hf.sb rfl, hm.pk [0, 1] rfl rfl⟩))))))
  repeat clear hm
  rintro bH bJ a w ⟨ac, hf, hm⟩ bK bL
  refine gv hf (gS (gS (gR (gM rfl (gF fo_59_2 rfl (gL hm 0 isAgg57 rfl ?_))))))
  obtain ⟨bM, bN, rfl, bO⟩ := ro_slice h1
  exact gY (yV st_57 rfl) (gB rfl (gE (go _ 13 rfl (decide_eq_false (by omega)) (gcf rfl (gXt (gHh (gS (gR (gM rfl (gA rfl (gE (gRt (gr1 results28 rfl ⟨ac, rfl, hm.pk [1] rfl rfl⟩)))))))))))))
theorem spec_l7Unit_ok (w0 : World) (hz : Heap) (r_ : l30Rd) (bp0 : Nat) (v1p : Value) (h1p : GT.rep hz [v1p] r_.b) (hm0 : Mem w0 hz w0 [blk bp0 [v1p, (nV r_.p)] 62]) :
    ConM Try.prog 12 [(pV bp0)] w0 (spec_l7Unit r_) fun r v w' => ∃ (x1 : Value), v = (.agg #[x1]) ∧ Mem w0 hz w' [blk bp0 [v1p, (nV r.2.p)] 62, ow [x1] r.1.codes] := by
  unfold spec_l7Unit
  refine gcon func12 rfl fun r => ?_
  have hm := hm0
  refine gS (gR (gAl hm zeroValue25 rfl fun aG w hm => gE (gS (gR (gY (yG rfl (y_build (vs := []) (cs := #[(.slice none 0 0)]) rfl rfl (by kernel_rfl))) (gAl hm zeroValue25 rfl fun aH w hm => gSN hm 0 sizeOf25 (one_cons rfl one_nil) rfl fun w hm => gE (gS (gS (gR (gM rfl (gf rfl (fun a hf => e_build (vs := #[(0, (nV 1)), (1, (nV 2)), (2, (nV 1)), (3, (nV 3))]) (cs := [(nV 1), (nV 2), (nV 1), (nV 3)]) et_26 hf hm rfl rfl (by kernel_rfl) rfl rfl) ?_)))))))))))
  rintro _ w ⟨ay, rfl, hm⟩
  replace hm := hm.lit (xs := ([1, 2, 1, 3] : List Int)) 0 rfl rfl rfl rfl
  obtain ⟨bF, hle, hm1, hsub, bG⟩ := hm.take2 (L1 := [blk bp0 [v1p, (nV r_.p)] 62]) (L2 := [ow [(sV ay 0 4 4)] ([1, 2, 1, 3] : List Int), blk aH [(.slice none 0 0)] 25, blk aG [(.slice none 0 0)] 25]) [3] [0, 1, 2] (by decide) rfl rfl
  refine gCg rfl call16 (pspec_l30Rd__num_ok _ bF r_ bp0 v1p (GT.mono hle h1p) ([1, 2, 1, 3] : List Int) (sV ay 0 4 4) (fz_ow (hsub 0 _ rfl)) hm1 ) ?_
  rintro bq br bt w ⟨rfl, hB⟩
  replace hm := bG _ _ hB; clear hB
  refine gA rfl (gE (gJg (fun aC a w => ∃ (al : Value), St 95 [(0, (pV bp0)), (2, (pV aG)), (3, (pV aH))] w0 hz [blk bp0 [v1p, (nV aC.1)] 62, blk aG [(.slice none 0 0)] 25, blk aH [al] 25, ow [al] aC.2] a w) (fun aC => ?_) ?_))
  ·
   refine gBk ?_
   replace hm := hm.nilow (α := Code_)
   refine gMg (fun aV a w => ∃ (aU : Value), St 95 [(0, (pV bp0)), (2, (pV aG)), (3, (pV aH)), (4, (nV aV.2.2))] w0 hz [blk bp0 [v1p, (nV aV.1)] 62, blk aG [(.slice none 0 0)] 25, blk aH [aU] 25, ow [aU] aV.2.1] a w) (fun a hf => ⟨(.slice none 0 0), hf.sb rfl, hm.pk [1, 4, 3, 0] rfl rfl⟩) ?_
   repeat clear hm
   rintro bu bH aV a w ⟨aU, hf, hm⟩ bv bJ
   refine gv hf (gS (gS (gR (gM rfl (gB rfl (gE (gsd 14 rfl (fun bK => ?_) fun bK => ?_)))))))
   ·
    refine gct rfl (gSk (gS (gBk (gW (.p 0 (.p 2 (.q 1 (.e 3 (.e 4 (.e 5 (.e 6 (.p 7 (.e 8 .fin .nil)) .nil) .nil) .nil) .nil)))) [3, 4, 5] [0, 2, 7] hm [1, 2, 3] [blk aG [(.slice none 0 0)] 25, blk aH [aU] 25, ow [aU] aV.2.1] rfl mxo (by kernel_rfl) (fun _ _ _ h => h.2) fun w hm hS => tP rfl (fun w => yF fo_25_0 rfl) (tP rfl (fun w => yM rfl) (tQ rfl hS (fun w hm => yL hm 1 isAgg23 rfl) (tO (tY rfl (yn (hm.blk_at 2 rfl) isAgg25 sizeOf25 rfl) (tAs hS (tO (gb fun aR bL => ?_)))))))))))
    obtain ⟨bM, hle, hm1, hsub, bN⟩ := hm.take2 (L1 := [blk bp0 [v1p, (nV aV.1)] 62]) (L2 := [blk aG [(.slice none 0 0)] 25, blk aH [aU] 25, ow [aU] aV.2.1]) [0] [1, 2, 3] (by decide) rfl rfl
    refine tf rfl rfl (fun a hf => e_call hf rfl call27 rfl (spec_l7Code_ok _ bM (⟨r_.b, aV.1⟩ : l30Rd) bp0 v1p (GT.mono hle h1p) (⟨aV.2.1⟩ : Unit_) aU (fz_ow (hsub 2 _ rfl)) hm1  _ bL)) ?_
    rintro bw w ⟨ag, rfl, hB⟩
    replace hm := bN _ _ hB; clear hB
    refine tAk hm [2, 3, 4] rfl fun hS => tO (tf rfl rfl (fun a hf => e_build (vs := #[(0, (.agg #[(nV aR.1.params), (nV aR.1.regs), ag]))]) (cs := [(nV aR.1.params), (nV aR.1.regs), ag]) et_23 hf hm rfl rfl (by kernel_rfl) rfl rfl) ?_)
    rintro _ w ⟨ao, rfl, hm⟩
    replace hm := hm.els_nil (α := Code_)
    replace hm : Mem w0 hz _ [els [] ([] : List Code_), blk ao [(nV aR.1.params), (nV aR.1.regs), ag] 59, blk bp0 [v1p, (nV aR.2.p)] 62, ow [(nV aR.1.params), (nV aR.1.regs), ag] (aR.1 : Code_), blk aG [(.slice none 0 0)] 25, blk aH [aU] 25, ow [aU] aV.2.1] := mk_Code_ aR.1.params aR.1.regs hm 3 rfl
    replace hm := (hm.els_cons 0 3 (by decide) rfl rfl).pk (L' := [els [(nV aR.1.params), (nV aR.1.regs), ag] ([aR.1] : List Code_), blk ao [(nV aR.1.params), (nV aR.1.regs), ag] 59, blk bp0 [v1p, (nV aR.2.p)] 62, blk aG [(.slice none 0 0)] 25, blk aH [aU] 25, ow [aU] aV.2.1]) [0, 1, 2, 4, 5, 6] rfl rfl
    replace hm := (hm.lit_els 1 0 (by decide) rfl rfl rfl rfl).pk (L' := [ow [(sV ao 0 1 1)] ([aR.1] : List Code_), blk bp0 [v1p, (nV aR.2.p)] 62, blk aG [(.slice none 0 0)] 25, blk aH [aU] 25, ow [aU] aV.2.1]) [1, 2, 3, 4, 5] rfl rfl
    refine tAk hm [2, 3, 4] rfl fun hS => tO (gb fun bx bO => ?_)
    obtain ⟨bP, bQ⟩ := appM_some.1 bO
    replace hm := (hm.both 4 0 (by decide) rfl rfl).pk (L' := [blk bp0 [v1p, (nV aR.2.p)] 62, blk aG [(.slice none 0 0)] 25, blk aH [aU] 25, both (ow [aU] aV.2.1) (ow [(sV ao 0 1 1)] ([aR.1] : List Code_))]) [1, 2, 3, 4] rfl rfl
    refine tf rfl rfl (fun a hf => e_appendD (xs := aV.2.1) (ys := ([aR.1] : List Code_)) 3 et_23 hf hm rfl rfl rfl rfl bP) ?_
    rintro bR w hm
    rw [bQ] at hm
    refine tAn rfl (tP rfl (fun w => yF fo_25_0 rfl) (tO (tf0 rfl rfl (fun a hf => e_store1 2 hf hm rfl sizeOf23 rfl rfl rfl (rep_one (hm.ow_rep 3 rfl)) rfl) ?_)))
    rintro _ w hm
    exact tAn rfl (tE (gR (gM rfl (gB rfl (gA rfl (gE (gZe fun a hf => ⟨bR, hf.sb rfl, hm.pk [0, 1, 2, 3] rfl rfl⟩)))))))
   exact gcf rfl (gXt (gHh (gLp bJ bH (gZ fun a hf => ⟨aU, hf.sb rfl, hm.pk [0, 1, 2, 3] rfl rfl⟩))))
  repeat clear hm
  rintro aC a w ⟨al, hf, hm⟩
  refine gv hf (gS (gS (gR (gM rfl (gf rfl (fun a hf => e_build (vs := #[(0, (nV 0)), (1, (nV 0)), (2, (nV 1)), (3, (nV 3))]) (cs := [(nV 0), (nV 0), (nV 1), (nV 3)]) et_26 hf hm rfl rfl (by kernel_rfl) rfl rfl) ?_)))))
  rintro _ w ⟨az, rfl, hm⟩
  replace hm := hm.lit (xs := ([0, 0, 1, 3] : List Int)) 0 rfl rfl rfl rfl
  obtain ⟨bS, hle, hm1, hsub, bT⟩ := hm.take2 (L1 := [blk bp0 [v1p, (nV aC.1)] 62]) (L2 := [ow [(sV az 0 4 4)] ([0, 0, 1, 3] : List Int), blk aG [(.slice none 0 0)] 25, blk aH [al] 25, ow [al] aC.2]) [1] [0, 2, 3, 4] (by decide) rfl rfl
  refine gCg rfl call16 (pspec_l30Rd__num_ok _ bS (⟨r_.b, aC.1⟩ : l30Rd) bp0 v1p (GT.mono hle h1p) ([0, 0, 1, 3] : List Int) (sV az 0 4 4) (fz_ow (hsub 0 _ rfl)) hm1 ) ?_
  rintro bz cA cB w ⟨rfl, hB⟩
  replace hm := bT _ _ hB; clear hB
  refine gA rfl (gE ?_)
  obtain ⟨aZ, aD, rfl, cC⟩ := ro_slice (hm.ow_rep 4 rfl)
  refine gJ hm (fun am => [(2, (pV aG)), (3, (pV aH))]) (fun am => [blk aG [(.slice none 0 0)] 25, blk aH [(.slice aZ aC.2.length aD)] 25, ow [(.slice aZ aC.2.length aD)] am.1, blk bp0 [v1p, (nV am.2)] 62]) (fun am => ?_) ?_
  ·
   refine gBk (gMf hm (fun aK => [(0, (pV bp0)), (2, (pV aG)), (3, (pV aH)), (5, (nV aK.2.2))]) (fun aK => [blk bp0 [v1p, (nV aK.1)] 62, blk aG [(.slice none 0 0)] 25, blk aH [(.slice aZ aC.2.length aD)] 25, ow [(.slice aZ aC.2.length aD)] aK.2.1]) [0, 2, 3, 4] rfl ?_)
   repeat clear hm
   intro cD bU aK w hm cE bV
   refine gS (gS (gR (gM rfl (gB rfl (gE (gsd 29 rfl (fun bW => ?_) fun bW => ?_))))))
   ·
    refine gct rfl (gSk (gS (gJ hm (fun an => [(0, (pV bp0)), (2, (pV aG)), (3, (pV aH)), (5, (nV aK.2.2))]) (fun an => [blk bp0 [v1p, (nV an.1)] 62, blk aG [(.slice none 0 0)] 25, blk aH [(.slice aZ aC.2.length aD)] 25, ow [(.slice aZ aC.2.length aD)] an.2]) (fun an => ?_) ?_)))
    ·
     refine gBk (gS (gW (.p 0 (.p 2 (.p 3 (.q 1 (.e 4 (.p 5 (.e 6 (.p 7 (.p 8 .fin)) .nil)) .nil))))) [4, 6] [0, 2, 3, 5, 7, 8] hm [1, 2, 3] [blk aG [(.slice none 0 0)] 25, blk aH [(.slice aZ aC.2.length aD)] 25, ow [(.slice aZ aC.2.length aD)] aK.2.1] rfl mxo (by kernel_rfl) (fun _ _ _ h => h.2) fun w hm hS => tP rfl (fun w => yF fo_25_0 rfl) (tP rfl (fun w => yM rfl) (tP rfl (fun w => yF fo_25_0 rfl) (tQ rfl hS (fun w hm => yL hm 1 isAgg23 rfl) (tO (tY rfl (yL hm 2 isAgg23 rfl) (tAs hS ?_))))))))
     have cF := rep_len (hm.ow_rep 3 rfl)
     refine tP rfl (fun w => yV st_23 rfl) (tO (gb fun aP bX => ?_))
     obtain ⟨bY, hle, hm1, hsub, bZ⟩ := hm.take2 (L1 := [blk bp0 [v1p, (nV aK.1)] 62]) (L2 := [blk aG [(.slice none 0 0)] 25, blk aH [(.slice aZ aC.2.length aD)] 25, ow [(.slice aZ aC.2.length aD)] aK.2.1]) [0] [1, 2, 3] (by decide) rfl rfl
     refine tf rfl rfl (fun a hf => e_call hf rfl call13 rfl (pspec_l30Rd__pick_ok _ bY (⟨r_.b, aK.1⟩ : l30Rd) bp0 v1p (GT.mono hle h1p) (aC.2.length : Int) hm1  _ bX)) ?_
     rintro cG w ⟨rfl, hB⟩
     replace hm := bZ _ _ hB; clear hB
     refine tAk hm [1, 2, 3] rfl fun hS => gg fun aA b5 ac => ?_
     obtain ⟨aE, aF, cH, he⟩ := idx_form' (hm.ow_rep 3 rfl) ac
     obtain ⟨rfl, _, rfl⟩ := sl3 he
     obtain ⟨cI, cJ, cK⟩ := rk_Code_ (hm.ow_rep 3 rfl) ac
     have hL3_1 := rep_slice_len (hm.ow_rep 3 rfl)
     refine tP rfl (fun w => yI st_23 b5 (idx_lt2 ac hL3_1) rfl) (tP rfl (fun w => yA rfl) (tE ?_))
     obtain ⟨cL, hm⟩ := pin_Code_ hm 3 rfl ac
     refine gS (gR (gM rfl (gM rfl (gY (yG rfl (y_nilptr rfl rfl)) (gF fo_59_2 rfl (gY (yl isAgg57 ((hm.holeE_at 4 rfl).cell (j := 2) rfl) rfl) ?_))))))
     obtain ⟨aW, aJ, rfl, cM⟩ := ro_slice (hm.ow_rep 0 rfl)
     refine gY (yV st_57 rfl) ?_
     obtain ⟨b6, hle, hm1, hsub, b7⟩ := hm.take2 (L1 := [blk bp0 [v1p, (nV aP.2.p)] 62]) (L2 := [ow [(.slice aW aA.blocks.length aJ)] aA.blocks, blk aG [(.slice none 0 0)] 25, blk aH [(sV aE aF aC.2.length aD)] 25, holeE aE aF aC.2.length aD (aK.2.1 : List Code_) (aP.1).toNat [(nV aA.params), (nV aA.regs), (.slice aW aA.blocks.length aJ)]]) [1] [0, 2, 3, 4] (by decide) rfl rfl
     refine gCg rfl call13 (pspec_l30Rd__pick_ok _ b6 (⟨r_.b, aP.2.p⟩ : l30Rd) bp0 v1p (GT.mono hle h1p) (aA.blocks.length : Int) hm1 ) ?_
     rintro aS cN cO w ⟨rfl, hB⟩
     replace hm := b7 _ _ hB; clear hB
     refine gA rfl (gE (gS (gR (gM rfl (gM rfl (gY (yG rfl (y_nilptr rfl rfl)) (gF fo_59_1 rfl (gY (yl isAgg3 ((hm.holeE_at 4 rfl).cell (j := 1) rfl) rfl) ?_))))))))
     obtain ⟨b8, hle, hm1, hsub, b9⟩ := hm.take2 (L1 := [blk bp0 [v1p, (nV aS.2.p)] 62]) (L2 := [ow [(.slice aW aA.blocks.length aJ)] aA.blocks, blk aG [(.slice none 0 0)] 25, blk aH [(sV aE aF aC.2.length aD)] 25, holeE aE aF aC.2.length aD (aK.2.1 : List Code_) (aP.1).toNat [(nV aA.params), (nV aA.regs), (.slice aW aA.blocks.length aJ)]]) [0] [1, 2, 3, 4] (by decide) rfl rfl
     refine gCg rfl call13 (pspec_l30Rd__pick_ok _ b8 (⟨r_.b, aS.2.p⟩ : l30Rd) bp0 v1p (GT.mono hle h1p) aA.regs hm1 ) ?_
     rintro aI cP cQ w ⟨rfl, hB⟩
     replace hm := b9 _ _ hB; clear hB
     refine gY (yG rfl (y_build (vs := [(0, (nV aI.1))]) (cs := #[(nV aI.1), (.slice none 0 0)]) rfl rfl (by kernel_rfl))) (gAl hm zeroValue66 rfl fun aQ w hm => gSN hm 0 sizeOf66 (one_cons rfl (one_cons rfl one_nil)) rfl fun w hm => gE (gS (gS (gR (gM rfl (gY (yG rfl (y_nilptr rfl rfl)) (gY (yn (hm.holeE_at 5 rfl) isAgg59 sizeOf59 rfl) (gM rfl (gCg rfl call28 (spec_l7Preds_ok _ aA (.slice aW aA.blocks.length aJ) (hm.ow_rep 2 rfl) aS.1) ?_)))))))))
     rintro ba cR cS w ⟨_, rfl, hB⟩
     replace hm := hm.give hB; clear hB
     obtain ⟨cT, cU, rfl, cV⟩ := ro_slice (hm.ow_rep 0 rfl)
     refine gY (yV st_26 rfl) (gM rfl (gE (gBk ?_)))
     replace hm := hm.nilow (α := Int)
     refine gNg (fun bA ae a w => ∃ (af : Value), St 95 [(0, (pV bp0)), (2, (pV aG)), (3, (pV aH)), (5, (nV aK.2.2)), (6, (.pointer (some ⟨aE, aF + (aP.1).toNat * 3, none⟩))), (7, (nV aS.1)), (8, (pV aQ)), (59, (nV ((ba.length : Int)))), (60, (nV bA))] w0 hz [blk bp0 [v1p, (nV ae.1)] 62, blk aG [(.slice none 0 0)] 25, blk aH [(sV aE aF aC.2.length aD)] 25, holeE aE aF aC.2.length aD (aK.2.1 : List Code_) (aP.1).toNat [(nV aA.params), (nV aA.regs), (.slice aW aA.blocks.length aJ)], ow [(.slice aW aA.blocks.length aJ)] aA.blocks, blk aQ [(nV aI.1), af] 66, ow [af] ae.2] a w) (fun a hf => ⟨(.slice none 0 0), hf.sb rfl, hm.pk [3, 5, 6, 7, 4, 2, 0] rfl rfl⟩) ?_ ?_
     ·
      repeat clear hm
      rintro _ _ bA ae a w ⟨af, hf, hm⟩ cW cX cY _
      refine gv hf (gS (gR (gB rfl (gE (gS (go _ 61 rfl (decide_eq_true (by omega)) (gct rfl (gSk (gS (gBk (gW (.p 0 (.p 2 (.p 3 (.p 4 (.p 5 (.q 1 (.e 6 (.e 7 (.e 8 (.e 9 (.p 10 (.e 11 .fin .nil)) .nil) .nil) .nil) .nil))))))) [6, 7, 8] [0, 2, 3, 4, 5, 10] hm [1, 2, 3, 4, 5, 6] [blk aG [(.slice none 0 0)] 25, blk aH [(sV aE aF aC.2.length aD)] 25, holeE aE aF aC.2.length aD (aK.2.1 : List Code_) (aP.1).toNat [(nV aA.params), (nV aA.regs), (.slice aW aA.blocks.length aJ)], ow [(.slice aW aA.blocks.length aJ)] aA.blocks, blk aQ [(nV aI.1), af] 66, ow [af] ae.2] rfl mxo (by kernel_rfl) (fun _ _ _ h => h.2) fun w hm hS => tP rfl (fun w => yF fo_66_1 rfl) (tP rfl (fun w => yM rfl) (tP rfl (fun w => yM rfl) (tP rfl (fun w => yG rfl (y_nilptr rfl rfl)) (tP rfl (fun w => yF fo_59_1 rfl) (tQ rfl hS (fun w hm => yL hm 4 isAgg26 rfl) (tO (tY rfl (yl isAgg3 ((hm.holeE_at 3 rfl).cell (j := 1) rfl) rfl) (tAs hS (tO (gb fun aw bc => ?_)))))))))))))))))))))
      obtain ⟨bd, hle, hm1, hsub, be⟩ := hm.take2 (L1 := [blk bp0 [v1p, (nV ae.1)] 62]) (L2 := [blk aG [(.slice none 0 0)] 25, blk aH [(sV aE aF aC.2.length aD)] 25, holeE aE aF aC.2.length aD (aK.2.1 : List Code_) (aP.1).toNat [(nV aA.params), (nV aA.regs), (.slice aW aA.blocks.length aJ)], ow [(.slice aW aA.blocks.length aJ)] aA.blocks, blk aQ [(nV aI.1), af] 66, ow [af] ae.2]) [0] [1, 2, 3, 4, 5, 6] (by decide) rfl rfl
      refine tf rfl rfl (fun a hf => e_call hf rfl call13 rfl (pspec_l30Rd__pick_ok _ bd (⟨r_.b, ae.1⟩ : l30Rd) bp0 v1p (GT.mono hle h1p) aA.regs hm1  _ bc)) ?_
      rintro cZ w ⟨rfl, hB⟩
      replace hm := be _ _ hB; clear hB
      refine tAk hm [1, 2, 3, 4, 5, 6] rfl fun hS => tO (tf rfl rfl (fun a hf => e_build (vs := #[(0, (nV aw.1))]) (cs := [(nV aw.1)]) et_26 hf hm rfl rfl (by kernel_rfl) rfl rfl) ?_)
      rintro _ w ⟨c5, rfl, hm⟩
      replace hm := hm.lit (xs := ([aw.1] : List Int)) 0 rfl rfl rfl rfl
      refine tAk hm [2, 3, 4, 5, 6, 7] rfl fun hS => tO (gb fun c6 bf => ?_)
      obtain ⟨bg, bh⟩ := appM_some.1 bf
      refine tf rfl rfl (fun a hf => e_append 7 et_26 hf hm rfl (hm.ow_rep 0 rfl) rfl rfl rfl bg) ?_
      rintro bi w hm
      rw [bh] at hm
      refine tAn rfl (tP rfl (fun w => yF fo_66_1 rfl) (tO (tf0 rfl rfl (fun a hf => e_store1 6 hf hm rfl sizeOf26 rfl rfl rfl (rep_one (hm.ow_rep 7 rfl)) rfl) ?_)))
      rintro _ w hm
      exact tAn rfl (tE (gR (gP (by omega) (by omega) rfl (gM rfl (gE (gZe fun a hf => ⟨bi, hf.sb rfl, hm.pk [1, 2, 3, 4, 5, 6, 7] rfl rfl⟩))))))
     repeat clear hm
     rintro c7 aL a w ⟨aM, hf, hm⟩ c8 c9
     refine gv hf (gS (gR (gB rfl (gE (gS (go _ 61 rfl (decide_eq_false (by omega)) (gcf rfl (gXt (gHh (gS (gR (gM rfl (gB rfl (gE (gJ hm (fun aq => [(0, (pV bp0)), (2, (pV aG)), (3, (pV aH)), (5, (nV aK.2.2))]) (fun aq => [blk bp0 [v1p, (nV aL.1)] 62, blk aG [(.slice none 0 0)] 25, blk aH [(sV aE aF aC.2.length aD)] 25, ow [(sV aE aF aC.2.length aD)] aq]) (fun aq => ?_) ?_)))))))))))))))
     ·
      refine gsd 75 rfl (fun bj => ?_) fun bj => ?_
      ·
       refine gct rfl (gJ hm (fun ar => [(0, (pV bp0)), (2, (pV aG)), (3, (pV aH)), (5, (nV aK.2.2))]) (fun ar => [blk bp0 [v1p, (nV aL.1)] 62, blk aG [(.slice none 0 0)] 25, blk aH [(sV aE aF aC.2.length aD)] 25, ow [(sV aE aF aC.2.length aD)] ar]) (fun ar => ?_) ?_)
       ·
        refine gW (.p 0 (.p 1 (.p 2 (.p 4 (.p 5 (.p 6 (.p 7 (.p 9 (.q 3 (.q 8 (.p 10 (.p 11 (.q 13 (.e 12 (.e 14 (.e 15 (.p 16 (.p 17 (.e 18 .fin .nil))) .nil) .nil) (.e 14 (.e 12 (.e 15 (.p 16 (.p 17 (.e 18 .fin .nil))) .nil) .nil) .nil))))))))))))))) [3, 8, 12, 13, 14, 15] [0, 1, 2, 4, 5, 6, 7, 9, 10, 11, 16, 17] hm [0, 1, 2, 3, 5] [blk bp0 [v1p, (nV aL.1)] 62, blk aG [(.slice none 0 0)] 25, blk aH [(sV aE aF aC.2.length aD)] 25, holeE aE aF aC.2.length aD (aK.2.1 : List Code_) (aP.1).toNat [(nV aA.params), (nV aA.regs), (.slice aW aA.blocks.length aJ)], blk aQ [(nV aI.1), aM] 66] rfl mxo (by kernel_rfl) (fun _ _ _ h => h.2) fun w hm hS => tP rfl (fun w => yM rfl) (tP rfl (fun w => yG rfl (y_nilptr rfl rfl)) (tP rfl (fun w => yF fo_59_2 rfl) (tP rfl (fun w => yM rfl) (tP rfl (fun w => yM rfl) (tP rfl (fun w => yG rfl (y_nilptr rfl rfl)) (tP rfl (fun w => yF fo_59_2 rfl) (tP rfl (fun w => yM rfl) (tQ rfl hS (fun w hm => yl isAgg57 ((hm.holeE_at 3 rfl).cell (j := 2) rfl) rfl) (tQ rfl hS (fun w hm => yl isAgg57 ((hm.holeE_at 3 rfl).cell (j := 2) rfl) rfl) (gg fun aB ax aa => ?_))))))))))
        obtain ⟨aN, aO, ca, he⟩ := idx_form' (hm.ow_rep 4 rfl) aa
        obtain ⟨rfl, _, rfl⟩ := sl3 he
        obtain ⟨cb, cd, ce, cf, cg, ci, cj⟩ := rk_Block_ (hm.ow_rep 4 rfl) aa
        refine tP rfl (fun w => yI st_57 ax (idx_lt aa) rfl) (tP rfl (fun w => yF fo_71_0 rfl) (tQ rfl hS (fun w hm => yn (hm.blk_at 4 rfl) isAgg66 sizeOf66 rfl) (gb fun aT bB => tMo ?_ ?_)))
        ·
         obtain ⟨ab, aX, aY, hm⟩ := pin_Block_ hm 4 rfl aa
         refine tY rfl (yl isAgg68 ((hm.holeE_at 7 rfl).cell (j := 0) rfl) rfl) (tAk hm [3, 4, 5, 6, 8] rfl fun hS => tO (tf rfl rfl (fun a hf => e_build (vs := #[(0, (.agg #[(nV aI.1), aM]))]) (cs := [(nV aI.1), aM]) et_68 hf hm rfl rfl (by kernel_rfl) rfl rfl) ?_))
         rintro _ w ⟨au, rfl, hm⟩
         replace hm := hm.els_nil (α := Phi_)
         replace hm : Mem w0 hz _ [els [] ([] : List Phi_), blk au [(nV aI.1), aM] 66, ow [aY] aB.next_, ow [aX] aB.ins, ow [ab] aB.phis, blk bp0 [v1p, (nV aL.1)] 62, blk aG [(.slice none 0 0)] 25, blk aH [(sV aE aF aC.2.length aD)] 25, holeE aE aF aC.2.length aD (aK.2.1 : List Code_) (aP.1).toNat [(nV aA.params), (nV aA.regs), (sV aN aO aA.blocks.length aJ)], holeE aN aO aA.blocks.length aJ (aA.blocks : List Block_) (aS.1).toNat [ab, aX, (nV aB.jump), (nV aB.on), aY], blk aQ [(nV aI.1), aM] 66, ow [(nV aI.1), aM] ((⟨aI.1, aL.2⟩ : Phi_) : Phi_)] := mk_Phi_ aI.1 hm 11 rfl
         replace hm := (hm.els_cons 0 11 (by decide) rfl rfl).pk (L' := [els [(nV aI.1), aM] ([(⟨aI.1, aL.2⟩ : Phi_)] : List Phi_), blk au [(nV aI.1), aM] 66, ow [aY] aB.next_, ow [aX] aB.ins, ow [ab] aB.phis, blk bp0 [v1p, (nV aL.1)] 62, blk aG [(.slice none 0 0)] 25, blk aH [(sV aE aF aC.2.length aD)] 25, holeE aE aF aC.2.length aD (aK.2.1 : List Code_) (aP.1).toNat [(nV aA.params), (nV aA.regs), (sV aN aO aA.blocks.length aJ)], holeE aN aO aA.blocks.length aJ (aA.blocks : List Block_) (aS.1).toNat [ab, aX, (nV aB.jump), (nV aB.on), aY], blk aQ [(nV aI.1), aM] 66]) [0, 1, 2, 3, 4, 5, 6, 7, 8, 9, 10] rfl rfl
         replace hm := (hm.lit_els 1 0 (by decide) rfl rfl rfl rfl).pk (L' := [ow [(sV au 0 1 1)] ([(⟨aI.1, aL.2⟩ : Phi_)] : List Phi_), ow [aY] aB.next_, ow [aX] aB.ins, ow [ab] aB.phis, blk bp0 [v1p, (nV aL.1)] 62, blk aG [(.slice none 0 0)] 25, blk aH [(sV aE aF aC.2.length aD)] 25, holeE aE aF aC.2.length aD (aK.2.1 : List Code_) (aP.1).toNat [(nV aA.params), (nV aA.regs), (sV aN aO aA.blocks.length aJ)], holeE aN aO aA.blocks.length aJ (aA.blocks : List Block_) (aS.1).toNat [ab, aX, (nV aB.jump), (nV aB.on), aY], blk aQ [(nV aI.1), aM] 66]) [1, 2, 3, 4, 5, 6, 7, 8, 9, 10] rfl rfl
         refine tAk hm [4, 5, 6, 7, 9] rfl fun hS => tO ?_
         obtain ⟨bk, bm⟩ := appM_some.1 bB
         replace hm := (hm.both 3 0 (by decide) rfl rfl).pk (L' := [ow [aY] aB.next_, ow [aX] aB.ins, both (ow [ab] aB.phis) (ow [(sV au 0 1 1)] ([(⟨aI.1, aL.2⟩ : Phi_)] : List Phi_)), blk bp0 [v1p, (nV aL.1)] 62, blk aG [(.slice none 0 0)] 25, blk aH [(sV aE aF aC.2.length aD)] 25, holeE aE aF aC.2.length aD (aK.2.1 : List Code_) (aP.1).toNat [(nV aA.params), (nV aA.regs), (sV aN aO aA.blocks.length aJ)], holeE aN aO aA.blocks.length aJ (aA.blocks : List Block_) (aS.1).toNat [ab, aX, (nV aB.jump), (nV aB.on), aY], blk aQ [(nV aI.1), aM] 66]) [1, 2, 3, 4, 5, 6, 7, 8, 9] rfl rfl
         refine tf rfl rfl (fun a hf => e_appendD (xs := aB.phis) (ys := ([(⟨aI.1, aL.2⟩ : Phi_)] : List Phi_)) 2 et_68 hf hm rfl rfl rfl rfl bk) ?_
         rintro ah w hm
         rw [bm] at hm
         refine tAk hm [3, 4, 5, 6, 8] rfl fun hS => ?_
         have hL5_1 := hm.holeE_len 7 rfl
         refine tP rfl (fun w => yI st_57 ax (idx_lt2 aa hL5_1) rfl) (tP rfl (fun w => yF fo_71_0 rfl) (tO ?_))
         have bC : ∀ u ∈ ([ah] : List Value), u.oneCell' = true := (one_cons (rep_one (hm.ow_rep 2 rfl)) one_nil)
         refine tf0 rfl rfl (fun a hf => e_storeH (j := 0) (vs := [ah]) 7 hf hm rfl rfl rfl sizeOf68 rfl rfl (cells_one (bC _ (List.mem_singleton.2 rfl))) bC rfl) ?_
         rintro _ w hm
         replace hm : Mem w0 hz _ [ow [aY] aB.next_, ow [aX] aB.ins, ow [ah] aT, blk bp0 [v1p, (nV aL.1)] 62, blk aG [(.slice none 0 0)] 25, blk aH [(sV aE aF aC.2.length aD)] 25, holeE aE aF aC.2.length aD (aK.2.1 : List Code_) (aP.1).toNat [(nV aA.params), (nV aA.regs), (sV aN aO aA.blocks.length aJ)], holeE aN aO aA.blocks.length aJ (aA.blocks : List Block_) (aS.1).toNat [ah, aX, (nV aB.jump), (nV aB.on), aY], blk aQ [(nV aI.1), aM] 66] := hm
         refine tAn rfl (tE ?_)
         replace hm := (mk_Block_ aB.jump aB.on hm 2 1 0 rfl).pk (L' := [ow [ah, aX, (nV aB.jump), (nV aB.on), aY] ((⟨aT, aB.ins, aB.jump, aB.on, aB.next_⟩ : Block_) : Block_), blk bp0 [v1p, (nV aL.1)] 62, blk aG [(.slice none 0 0)] 25, blk aH [(sV aE aF aC.2.length aD)] 25, holeE aE aF aC.2.length aD (aK.2.1 : List Code_) (aP.1).toNat [(nV aA.params), (nV aA.regs), (sV aN aO aA.blocks.length aJ)], holeE aN aO aA.blocks.length aJ (aA.blocks : List Block_) (aS.1).toNat [ah, aX, (nV aB.jump), (nV aB.on), aY], blk aQ [(nV aI.1), aM] 66]) [2, 3, 4, 5, 6, 7, 8] rfl rfl
         replace hm := (hm.shutE (y := ((⟨aT, aB.ins, aB.jump, aB.on, aB.next_⟩ : Block_) : Block_)) 5 0 (by decide) rfl rfl).pk (L' := [blk bp0 [v1p, (nV aL.1)] 62, blk aG [(.slice none 0 0)] 25, blk aH [(sV aE aF aC.2.length aD)] 25, holeE aE aF aC.2.length aD (aK.2.1 : List Code_) (aP.1).toNat [(nV aA.params), (nV aA.regs), (sV aN aO aA.blocks.length aJ)], ow [(sV aN aO aA.blocks.length aJ)] (aA.blocks.set (aS.1).toNat (⟨aT, aB.ins, aB.jump, aB.on, aB.next_⟩ : Block_)), blk aQ [(nV aI.1), aM] 66]) [1, 2, 3, 4, 5, 6] rfl rfl
         have ck := List.getElem?_set_self (a := ((⟨aT, aB.ins, aB.jump, aB.on, aB.next_⟩ : Block_) : Block_)) (idx_lt aa)
         replace hm : Mem w0 hz _ [blk bp0 [v1p, (nV aL.1)] 62, blk aG [(.slice none 0 0)] 25, blk aH [(sV aE aF aC.2.length aD)] 25, holeE aE aF aC.2.length aD (aK.2.1 : List Code_) (aP.1).toNat [(nV aA.params), (nV aA.regs), (sV aN aO aA.blocks.length aJ)], ow [(nV aA.params), (nV aA.regs), (sV aN aO aA.blocks.length aJ)] ((⟨aA.params, aA.regs, (aA.blocks.set (aS.1).toNat (⟨aT, aB.ins, aB.jump, aB.on, aB.next_⟩ : Block_))⟩ : Code_) : Code_), blk aQ [(nV aI.1), aM] 66] := mk_Code_ aA.params aA.regs hm 4 rfl
         replace hm := (hm.shutE (y := ((⟨aA.params, aA.regs, (aA.blocks.set (aS.1).toNat (⟨aT, aB.ins, aB.jump, aB.on, aB.next_⟩ : Block_))⟩ : Code_) : Code_)) 3 4 (by decide) rfl rfl).pk (L' := [blk bp0 [v1p, (nV aL.1)] 62, blk aG [(.slice none 0 0)] 25, blk aH [(sV aE aF aC.2.length aD)] 25, ow [(sV aE aF aC.2.length aD)] (aK.2.1.set (aP.1).toNat (⟨aA.params, aA.regs, (aA.blocks.set (aS.1).toNat (⟨aT, aB.ins, aB.jump, aB.on, aB.next_⟩ : Block_))⟩ : Code_)), blk aQ [(nV aI.1), aM] 66]) [0, 1, 2, 3, 5] rfl rfl
         have cl := List.getElem?_set_self (a := ((⟨aA.params, aA.regs, (aA.blocks.set (aS.1).toNat (⟨aT, aB.ins, aB.jump, aB.on, aB.next_⟩ : Block_))⟩ : Code_) : Code_)) (idx_lt ac)
         exact gz hm [0, 1, 2, 3] rfl
        refine tO (tf rfl rfl (fun a hf => e_build (vs := #[(0, (.agg #[(nV aI.1), aM]))]) (cs := [(nV aI.1), aM]) et_68 hf hm rfl rfl (by kernel_rfl) rfl rfl) ?_)
        rintro _ w ⟨av, rfl, hm⟩
        replace hm := hm.els_nil (α := Phi_)
        replace hm : Mem w0 hz _ [els [] ([] : List Phi_), blk av [(nV aI.1), aM] 66, blk bp0 [v1p, (nV aL.1)] 62, blk aG [(.slice none 0 0)] 25, blk aH [(sV aE aF aC.2.length aD)] 25, holeE aE aF aC.2.length aD (aK.2.1 : List Code_) (aP.1).toNat [(nV aA.params), (nV aA.regs), (sV aN aO aA.blocks.length aJ)], ow [(sV aN aO aA.blocks.length aJ)] aA.blocks, blk aQ [(nV aI.1), aM] 66, ow [(nV aI.1), aM] ((⟨aI.1, aL.2⟩ : Phi_) : Phi_)] := mk_Phi_ aI.1 hm 8 rfl
        replace hm := (hm.els_cons 0 8 (by decide) rfl rfl).pk (L' := [els [(nV aI.1), aM] ([(⟨aI.1, aL.2⟩ : Phi_)] : List Phi_), blk av [(nV aI.1), aM] 66, blk bp0 [v1p, (nV aL.1)] 62, blk aG [(.slice none 0 0)] 25, blk aH [(sV aE aF aC.2.length aD)] 25, holeE aE aF aC.2.length aD (aK.2.1 : List Code_) (aP.1).toNat [(nV aA.params), (nV aA.regs), (sV aN aO aA.blocks.length aJ)], ow [(sV aN aO aA.blocks.length aJ)] aA.blocks, blk aQ [(nV aI.1), aM] 66]) [0, 1, 2, 3, 4, 5, 6, 7] rfl rfl
        replace hm := (hm.lit_els 1 0 (by decide) rfl rfl rfl rfl).pk (L' := [ow [(sV av 0 1 1)] ([(⟨aI.1, aL.2⟩ : Phi_)] : List Phi_), blk bp0 [v1p, (nV aL.1)] 62, blk aG [(.slice none 0 0)] 25, blk aH [(sV aE aF aC.2.length aD)] 25, holeE aE aF aC.2.length aD (aK.2.1 : List Code_) (aP.1).toNat [(nV aA.params), (nV aA.regs), (sV aN aO aA.blocks.length aJ)], ow [(sV aN aO aA.blocks.length aJ)] aA.blocks, blk aQ [(nV aI.1), aM] 66]) [1, 2, 3, 4, 5, 6, 7] rfl rfl
        refine tAk hm [1, 2, 3, 4, 6] rfl fun hS => tO ?_
        obtain ⟨bD, ai, aj, hm⟩ := pin_Block_ hm 5 rfl aa
        refine tY rfl (yl isAgg68 ((hm.holeE_at 8 rfl).cell (j := 0) rfl) rfl) (tAk hm [4, 5, 6, 7, 9] rfl fun hS => tO ?_)
        obtain ⟨bo, bp⟩ := appM_some.1 bB
        replace hm := (hm.both 2 3 (by decide) rfl rfl).pk (L' := [ow [aj] aB.next_, ow [ai] aB.ins, both (ow [bD] aB.phis) (ow [(sV av 0 1 1)] ([(⟨aI.1, aL.2⟩ : Phi_)] : List Phi_)), blk bp0 [v1p, (nV aL.1)] 62, blk aG [(.slice none 0 0)] 25, blk aH [(sV aE aF aC.2.length aD)] 25, holeE aE aF aC.2.length aD (aK.2.1 : List Code_) (aP.1).toNat [(nV aA.params), (nV aA.regs), (sV aN aO aA.blocks.length aJ)], holeE aN aO aA.blocks.length aJ (aA.blocks : List Block_) (aS.1).toNat [bD, ai, (nV aB.jump), (nV aB.on), aj], blk aQ [(nV aI.1), aM] 66]) [0, 1, 2, 4, 5, 6, 7, 8, 9] rfl rfl
        refine tf rfl rfl (fun a hf => e_appendD (xs := aB.phis) (ys := ([(⟨aI.1, aL.2⟩ : Phi_)] : List Phi_)) 2 et_68 hf hm rfl rfl rfl rfl bo) ?_
        rintro ak w hm
        rw [bp] at hm
        refine tAk hm [3, 4, 5, 6, 8] rfl fun hS => ?_
        have hL5_2 := hm.holeE_len 7 rfl
        refine tP rfl (fun w => yI st_57 ax (idx_lt2 aa hL5_2) rfl) (tP rfl (fun w => yF fo_71_0 rfl) (tO ?_))
        have bE : ∀ u ∈ ([ak] : List Value), u.oneCell' = true := (one_cons (rep_one (hm.ow_rep 2 rfl)) one_nil)
        refine tf0 rfl rfl (fun a hf => e_storeH (j := 0) (vs := [ak]) 7 hf hm rfl rfl rfl sizeOf68 rfl rfl (cells_one (bE _ (List.mem_singleton.2 rfl))) bE rfl) ?_
        rintro _ w hm
        replace hm : Mem w0 hz _ [ow [aj] aB.next_, ow [ai] aB.ins, ow [ak] aT, blk bp0 [v1p, (nV aL.1)] 62, blk aG [(.slice none 0 0)] 25, blk aH [(sV aE aF aC.2.length aD)] 25, holeE aE aF aC.2.length aD (aK.2.1 : List Code_) (aP.1).toNat [(nV aA.params), (nV aA.regs), (sV aN aO aA.blocks.length aJ)], holeE aN aO aA.blocks.length aJ (aA.blocks : List Block_) (aS.1).toNat [ak, ai, (nV aB.jump), (nV aB.on), aj], blk aQ [(nV aI.1), aM] 66] := hm
        refine tAn rfl (tE ?_)
        replace hm := (mk_Block_ aB.jump aB.on hm 2 1 0 rfl).pk (L' := [ow [ak, ai, (nV aB.jump), (nV aB.on), aj] ((⟨aT, aB.ins, aB.jump, aB.on, aB.next_⟩ : Block_) : Block_), blk bp0 [v1p, (nV aL.1)] 62, blk aG [(.slice none 0 0)] 25, blk aH [(sV aE aF aC.2.length aD)] 25, holeE aE aF aC.2.length aD (aK.2.1 : List Code_) (aP.1).toNat [(nV aA.params), (nV aA.regs), (sV aN aO aA.blocks.length aJ)], holeE aN aO aA.blocks.length aJ (aA.blocks : List Block_) (aS.1).toNat [ak, ai, (nV aB.jump), (nV aB.on), aj], blk aQ [(nV aI.1), aM] 66]) [2, 3, 4, 5, 6, 7, 8] rfl rfl
        replace hm := (hm.shutE (y := ((⟨aT, aB.ins, aB.jump, aB.on, aB.next_⟩ : Block_) : Block_)) 5 0 (by decide) rfl rfl).pk (L' := [blk bp0 [v1p, (nV aL.1)] 62, blk aG [(.slice none 0 0)] 25, blk aH [(sV aE aF aC.2.length aD)] 25, holeE aE aF aC.2.length aD (aK.2.1 : List Code_) (aP.1).toNat [(nV aA.params), (nV aA.regs), (sV aN aO aA.blocks.length aJ)], ow [(sV aN aO aA.blocks.length aJ)] (aA.blocks.set (aS.1).toNat (⟨aT, aB.ins, aB.jump, aB.on, aB.next_⟩ : Block_)), blk aQ [(nV aI.1), aM] 66]) [1, 2, 3, 4, 5, 6] rfl rfl
        have cm := List.getElem?_set_self (a := ((⟨aT, aB.ins, aB.jump, aB.on, aB.next_⟩ : Block_) : Block_)) (idx_lt aa)
        replace hm : Mem w0 hz _ [blk bp0 [v1p, (nV aL.1)] 62, blk aG [(.slice none 0 0)] 25, blk aH [(sV aE aF aC.2.length aD)] 25, holeE aE aF aC.2.length aD (aK.2.1 : List Code_) (aP.1).toNat [(nV aA.params), (nV aA.regs), (sV aN aO aA.blocks.length aJ)], ow [(nV aA.params), (nV aA.regs), (sV aN aO aA.blocks.length aJ)] ((⟨aA.params, aA.regs, (aA.blocks.set (aS.1).toNat (⟨aT, aB.ins, aB.jump, aB.on, aB.next_⟩ : Block_))⟩ : Code_) : Code_), blk aQ [(nV aI.1), aM] 66] := mk_Code_ aA.params aA.regs hm 4 rfl
        replace hm := (hm.shutE (y := ((⟨aA.params, aA.regs, (aA.blocks.set (aS.1).toNat (⟨aT, aB.ins, aB.jump, aB.on, aB.next_⟩ : Block_))⟩ : Code_) : Code_)) 3 4 (by decide) rfl rfl).pk (L' := [blk bp0 [v1p, (nV aL.1)] 62, blk aG [(.slice none 0 0)] 25, blk aH [(sV aE aF aC.2.length aD)] 25, ow [(sV aE aF aC.2.length aD)] (aK.2.1.set (aP.1).toNat (⟨aA.params, aA.regs, (aA.blocks.set (aS.1).toNat (⟨aT, aB.ins, aB.jump, aB.on, aB.next_⟩ : Block_))⟩ : Code_)), blk aQ [(nV aI.1), aM] 66]) [0, 1, 2, 3, 5] rfl rfl
        have cn := List.getElem?_set_self (a := ((⟨aA.params, aA.regs, (aA.blocks.set (aS.1).toNat (⟨aT, aB.ins, aB.jump, aB.on, aB.next_⟩ : Block_))⟩ : Code_) : Code_)) (idx_lt ac)
        exact gz hm [0, 1, 2, 3] rfl
       repeat clear hm
       intro ar w hm
       exact gz hm [0, 1, 2, 3] rfl
      refine gcf rfl (gSk ?_)
      replace hm : Mem w0 hz _ [blk bp0 [v1p, (nV aL.1)] 62, blk aG [(.slice none 0 0)] 25, blk aH [(sV aE aF aC.2.length aD)] 25, holeE aE aF aC.2.length aD (aK.2.1 : List Code_) (aP.1).toNat [(nV aA.params), (nV aA.regs), (.slice aW aA.blocks.length aJ)], ow [(nV aA.params), (nV aA.regs), (.slice aW aA.blocks.length aJ)] (aA : Code_), blk aQ [(nV aI.1), aM] 66, ow [aM] aL.2] := mk_Code_ aA.params aA.regs hm 4 rfl
      replace hm := (hm.shutE (y := (aA : Code_)) 3 4 (by decide) rfl rfl).pk (L' := [blk bp0 [v1p, (nV aL.1)] 62, blk aG [(.slice none 0 0)] 25, blk aH [(sV aE aF aC.2.length aD)] 25, ow [(sV aE aF aC.2.length aD)] (aK.2.1.set (aP.1).toNat aA), blk aQ [(nV aI.1), aM] 66, ow [aM] aL.2]) [0, 1, 2, 3, 5, 6] rfl rfl
      rw [set_same ac] at hm
      exact gz hm [0, 1, 2, 3] rfl
     repeat clear hm
     intro aq w hm
     exact gz hm [0, 1, 2, 3] rfl
    repeat clear hm
    intro an w hm
    exact gR (gM rfl (gB rfl (gA rfl (gE (gze hm [0, 1, 2, 3] rfl)))))
   exact gcf rfl (gXt (gHh (gLp bV bU (gz hm [1, 2, 3, 0] rfl))))
  repeat clear hm
  intro am w hm
  exact gS (gR (gY (yn (hm.blk_at 1 rfl) isAgg25 sizeOf25 rfl) (gSN hm 0 sizeOf25 (one_cons rfl one_nil) rfl fun w hm => gE (gRt (grc 0 results12 hm rfl isAgg25 sizeOf25 ⟨(.slice aZ aC.2.length aD), rfl, hm.pk [3, 2] rfl rfl⟩)))))
abbrev od75_1 : Go.Wk.Ord := (.p 10 (.e 12 .fin .nil))
abbrev od75_2 : Go.Wk.Ord := (.p 10 (.e 11 (.e 12 .fin .nil) .nil))
abbrev od75_3 : Go.Wk.Ord := (.e 9 od75_2 (.e 11 (.e 9 od75_1 .nil) .nil))
abbrev od75_4 : Go.Wk.Ord := (.e 6 (.e 9 od75_1 .nil) .nil)
abbrev od75_5 : Go.Wk.Ord := (.e 1 od75_2 (.e 11 (.e 1 od75_1 .nil) .nil))
abbrev od75_6 : Go.Wk.Ord := (.e 1 (.e 9 od75_1 .nil) (.e 9 (.e 1 od75_1 .nil) .nil))
abbrev od75_7 : Go.Wk.Ord := (.e 0 od75_2 (.e 11 (.e 0 od75_1 .nil) .nil))
abbrev od75_8 : Go.Wk.Ord := (.e 0 (.e 9 od75_1 .nil) (.e 9 (.e 0 od75_1 .nil) .nil))
abbrev od75_9 : Go.Wk.Ord := (.e 0 (.e 1 od75_1 .nil) (.e 1 (.e 0 od75_1 .nil) .nil))
abbrev od75_10 : Go.Wk.Ord := (.e 6 od75_3 (.e 11 od75_4 .nil))
abbrev od75_11 : Go.Wk.Ord := (.e 1 od75_3 (.e 9 od75_5 (.e 11 od75_6 .nil)))
abbrev od75_12 : Go.Wk.Ord := (.e 1 od75_4 (.e 6 od75_6 .nil))
abbrev od75_13 : Go.Wk.Ord := (.e 0 od75_3 (.e 9 od75_7 (.e 11 od75_8 .nil)))
abbrev od75_14 : Go.Wk.Ord := (.e 0 od75_4 (.e 6 od75_8 .nil))
abbrev od75_15 : Go.Wk.Ord := (.e 0 od75_6 (.e 1 od75_8 (.e 9 od75_9 .nil)))
theorem spec_l7CopyBlock_ok (w0 : World) (b_ : Block_) (v1 : Value) (h1 : GT.rep (hp w0) [v1] b_.phis) (v2 : Value) (h2 : GT.rep (hp w0) [v2] b_.ins) (v3 : Value) (h3 : GT.rep (hp w0) [v3] b_.next_) :
    ConM Try.prog 75 [(.agg #[v1, v2, (nV b_.jump), (nV b_.on), v3])] w0 (spec_l7CopyBlock b_) fun r v w' => ∃ (x1 : Value) (x2 : Value) (x3 : Value), v = (.agg #[x1, x2, (nV r.jump), (nV r.on), x3]) ∧ Mem w0 (hp w0) w' [ow [x1] r.phis, ow [x2] r.ins, ow [x3] r.next_] := by
  unfold spec_l7CopyBlock
  refine gcon func75 rfl fun r => ?_
  have hm := Mem.start w0
  refine gS (gR (gBx hm rfl fun aB w hm => gAl hm zeroValue71 rfl fun aC w hm => gE (gS (gJg (fun aD a w => ∃ (aI : Nat) (bt bu bv : Value), St 74 [(1, (pV aB)), (2, (pV aC)), (3, (pV aI))] w0 (hp w0) [blk aB [v1, v2, (nV b_.jump), (nV b_.on), v3] 71, blk aC [(.slice none 0 0), (.slice none 0 0), (nV 0), (nV 0), (.slice none 0 0)] 71, blk aI [bt, bu, (nV b_.jump), (nV b_.on), bv] 71, ow [bt] ([] : List Phi_), ow [bu] ([] : List Ins_), ow [bv] aD] a w) (fun aD => ?_) ?_))))
  ·
   refine gW (.p 2 (.p 4 (.p 7 (.q 3 (.q 5 (.q 8 (.e 0 (.e 1 od75_10 (.e 6 od75_11 (.e 11 od75_12 .nil))) (.e 1 (.e 0 od75_10 (.e 6 od75_13 (.e 11 od75_14 .nil))) (.e 6 (.e 0 od75_11 (.e 1 od75_13 (.e 9 (.e 0 od75_5 (.e 1 od75_7 (.e 11 od75_9 .nil))) (.e 11 od75_15 .nil)))) (.e 11 (.e 0 od75_12 (.e 1 od75_14 (.e 6 od75_15 .nil))) .nil)))))))))) [0, 1, 3, 5, 6, 8, 9, 11] [2, 4, 7, 10] hm [0, 1] [blk aC [(.slice none 0 0), (.slice none 0 0), (nV 0), (nV 0), (.slice none 0 0)] 71, blk aB [v1, v2, (nV b_.jump), (nV b_.on), v3] 71] rfl mxo (by kernel_rfl) (fun _ _ _ h => h.2) fun w hm hS => tP rfl (fun w => yF fo_71_2 rfl) (tP rfl (fun w => yF fo_71_3 rfl) (tP rfl (fun w => yF fo_71_4 rfl) (tQ rfl hS (fun w hm => yL hm 1 isAgg3 rfl) (tQ rfl hS (fun w hm => yL hm 1 isAgg3 rfl) (tQ rfl hS (fun w hm => yL hm 1 isAgg26 rfl) (gb fun aN aX => tSh ((.e 12 .fin .nil)) (fun a w => ∃ (bV : Nat) (bW bX bY : Value), St 74 [(1, (pV aB)), (2, (pV aC)), (3, (pV bV)), (17, (.agg #[bW, bX, (nV b_.jump), (nV b_.on), bY]))] w0 (hp w0) [blk aB [v1, v2, (nV b_.jump), (nV b_.on), v3] 71, blk aC [(.slice none 0 0), (.slice none 0 0), (nV 0), (nV 0), (.slice none 0 0)] 71, blk bV [(.slice none 0 0), (.slice none 0 0), (nV 0), (nV 0), (.slice none 0 0)] 71, ow [bW] ([] : List Phi_), ow [bX] ([] : List Ins_), ow [bY] aN] a w) ?_ fun hT2_1 => ?_))))))
   ·
    rintro a w ⟨bV, bW, bX, bY, hf, hm⟩
    refine tSv hf hm [1, 0] rfl fun hS => tO (tf0 rfl rfl (fun a hf => e_storeN 2 hf hm rfl sizeOf71 rfl rfl rfl (one_cons (rep_one (hm.ow_rep 3 rfl)) (one_cons (rep_one (hm.ow_rep 4 rfl)) (one_cons rfl (one_cons rfl (one_cons (rep_one (hm.ow_rep 5 rfl)) one_nil))))) rfl rfl) ?_)
    rintro _ w hm
    exact tAn rfl (tE (gZ fun a hf => ⟨bV, bW, bX, bY, hf.sb rfl, hm.pk [0, 1, 2, 3, 4, 5] rfl rfl⟩))
   refine tSh (od75_1) (fun a w => ∃ (bZ : Nat) (bw bx bz : Value), St 74 [(1, (pV aB)), (2, (pV aC)), (3, (pV bZ)), (7, bw), (8, bx), (10, (nV b_.jump)), (12, (nV b_.on)), (16, bz)] w0 (hp w0) [blk aB [v1, v2, (nV b_.jump), (nV b_.on), v3] 71, blk aC [(.slice none 0 0), (.slice none 0 0), (nV 0), (nV 0), (.slice none 0 0)] 71, blk bZ [(.slice none 0 0), (.slice none 0 0), (nV 0), (nV 0), (.slice none 0 0)] 71, ow [bw] ([] : List Phi_), ow [bx] ([] : List Ins_), ow [bz] aN] a w) ?_ fun hT2_2 => ?_
   ·
    rintro a w ⟨bZ, bw, bx, bz, hf, hm⟩
    refine tSv hf hm [1, 0] rfl fun hS => ?_
    obtain ⟨af, ag, rfl, cP⟩ := ro_slice (hm.ow_rep 3 rfl)
    obtain ⟨ah, ai, rfl, cQ⟩ := ro_slice (hm.ow_rep 4 rfl)
    obtain ⟨aj, ak, rfl, cR⟩ := ro_slice (hm.ow_rep 5 rfl)
    exact tP rfl (fun w => yG rfl (y_build (vs := [(0, (.slice af ([] : List Phi_).length ag)), (1, (.slice ah ([] : List Ins_).length ai)), (2, (nV b_.jump)), (3, (nV b_.on)), (4, (.slice aj aN.length ak))]) (cs := #[(.slice af ([] : List Phi_).length ag), (.slice ah ([] : List Ins_).length ai), (nV b_.jump), (nV b_.on), (.slice aj aN.length ak)]) rfl rfl (by kernel_rfl))) (tUse hT2_1 fun a hf => ⟨bZ, (.slice af ([] : List Phi_).length ag), (.slice ah ([] : List Ins_).length ai), (.slice aj aN.length ak), hf.sb rfl, hm.pk [0, 1, 2, 3, 4, 5] rfl rfl⟩)
   refine tSh ((.e 0 od75_1 .nil)) (fun a w => ∃ (b5 : Nat) (b6 b7 : Value), St 74 [(1, (pV aB)), (2, (pV aC)), (3, (pV b5)), (8, b6), (10, (nV b_.jump)), (12, (nV b_.on)), (16, b7)] w0 (hp w0) [blk aB [v1, v2, (nV b_.jump), (nV b_.on), v3] 71, blk aC [(.slice none 0 0), (.slice none 0 0), (nV 0), (nV 0), (.slice none 0 0)] 71, blk b5 [(.slice none 0 0), (.slice none 0 0), (nV 0), (nV 0), (.slice none 0 0)] 71, ow [b6] ([] : List Ins_), ow [b7] aN] a w) ?_ fun hT2_3 => ?_
   ·
    rintro a w ⟨b5, b6, b7, hf, hm⟩
    refine tSv hf hm [1, 0] rfl fun hS => tO (tf rfl rfl (fun a hf => e_build0 (α := Phi_) et_68 hm rfl) ?_)
    rintro aE w hm
    exact tAk hm [2, 1] rfl fun hS => tUse hT2_2 fun a hf => ⟨b5, aE, b6, b7, hf.sb rfl, hm.pk [1, 2, 3, 0, 4, 5] rfl rfl⟩
   refine tSh ((.e 1 od75_1 .nil)) (fun a w => ∃ (b8 : Nat) (b9 ba : Value), St 74 [(1, (pV aB)), (2, (pV aC)), (3, (pV b8)), (7, b9), (10, (nV b_.jump)), (12, (nV b_.on)), (16, ba)] w0 (hp w0) [blk aB [v1, v2, (nV b_.jump), (nV b_.on), v3] 71, blk aC [(.slice none 0 0), (.slice none 0 0), (nV 0), (nV 0), (.slice none 0 0)] 71, blk b8 [(.slice none 0 0), (.slice none 0 0), (nV 0), (nV 0), (.slice none 0 0)] 71, ow [b9] ([] : List Phi_), ow [ba] aN] a w) ?_ fun hT2_4 => ?_
   ·
    rintro a w ⟨b8, b9, ba, hf, hm⟩
    refine tSv hf hm [1, 0] rfl fun hS => tO (tf rfl rfl (fun a hf => e_build0 (α := Ins_) et_69 hm rfl) ?_)
    rintro aE w hm
    exact tAk hm [2, 1] rfl fun hS => tUse hT2_2 fun a hf => ⟨b8, b9, aE, ba, hf.sb rfl, hm.pk [1, 2, 3, 4, 0, 5] rfl rfl⟩
   refine tSh ((.e 9 od75_1 .nil)) (fun a w => ∃ (bc : Nat) (bd be cA : Value), St 74 [(1, (pV aB)), (2, (pV aC)), (3, (pV bc)), (7, bd), (8, be), (10, (nV b_.jump)), (12, (nV b_.on)), (13, cA), (15, v3)] w0 (hp w0) [blk aB [v1, v2, (nV b_.jump), (nV b_.on), v3] 71, blk aC [(.slice none 0 0), (.slice none 0 0), (nV 0), (nV 0), (.slice none 0 0)] 71, blk bc [(.slice none 0 0), (.slice none 0 0), (nV 0), (nV 0), (.slice none 0 0)] 71, ow [bd] ([] : List Phi_), ow [be] ([] : List Ins_), ow [cA] ([] : List Int)] a w) ?_ fun hT2_5 => ?_
   ·
    rintro a w ⟨bc, bd, be, cA, hf, hm⟩
    refine tSv hf hm [1, 0] rfl fun hS => tO ?_
    obtain ⟨aK, aL⟩ := appM_some.1 aX
    refine tf rfl rfl (fun a hf => e_append 5 et_26 hf hm rfl (hm.now h3) rfl rfl rfl aK) ?_
    rintro aE w hm
    rw [aL] at hm
    exact tAk hm [1, 0] rfl fun hS => tUse hT2_2 fun a hf => ⟨bc, bd, be, aE, hf.sb rfl, hm.pk [0, 1, 2, 3, 4, 5] rfl rfl⟩
   refine tSh (od75_2) (fun a w => ∃ (cB cC cD : Value), St 74 [(1, (pV aB)), (2, (pV aC)), (7, cB), (8, cC), (10, (nV b_.jump)), (12, (nV b_.on)), (16, cD)] w0 (hp w0) [blk aB [v1, v2, (nV b_.jump), (nV b_.on), v3] 71, blk aC [(.slice none 0 0), (.slice none 0 0), (nV 0), (nV 0), (.slice none 0 0)] 71, ow [cB] ([] : List Phi_), ow [cC] ([] : List Ins_), ow [cD] aN] a w) ?_ fun hT2_6 => ?_
   ·
    rintro a w ⟨cB, cC, cD, hf, hm⟩
    refine tSv hf hm [1, 0] rfl fun hS => ?_
    obtain ⟨af, ag, rfl, cP⟩ := ro_slice (hm.ow_rep 2 rfl)
    obtain ⟨ah, ai, rfl, cQ⟩ := ro_slice (hm.ow_rep 3 rfl)
    obtain ⟨aj, ak, rfl, cR⟩ := ro_slice (hm.ow_rep 4 rfl)
    refine tP rfl (fun w => yG rfl (y_build (vs := [(0, (.slice af ([] : List Phi_).length ag)), (1, (.slice ah ([] : List Ins_).length ai)), (2, (nV b_.jump)), (3, (nV b_.on)), (4, (.slice aj aN.length ak))]) (cs := #[(.slice af ([] : List Phi_).length ag), (.slice ah ([] : List Ins_).length ai), (nV b_.jump), (nV b_.on), (.slice aj aN.length ak)]) rfl rfl (by kernel_rfl))) (tO (tf rfl rfl (fun a hf => e_alloc hm zeroValue71 rfl rfl) ?_))
    rintro _ w ⟨aM, rfl, hm⟩
    exact tAk hm [2, 1] rfl fun hS => tUse hT2_1 fun a hf => ⟨aM, (.slice af ([] : List Phi_).length ag), (.slice ah ([] : List Ins_).length ai), (.slice aj aN.length ak), hf.sb rfl, hm.pk [1, 2, 0, 3, 4, 5] rfl rfl⟩
   refine tSh (od75_9) (fun a w => ∃ (ar : Nat) (au : Value), St 74 [(1, (pV aB)), (2, (pV aC)), (3, (pV ar)), (10, (nV b_.jump)), (12, (nV b_.on)), (16, au)] w0 (hp w0) [blk aB [v1, v2, (nV b_.jump), (nV b_.on), v3] 71, blk aC [(.slice none 0 0), (.slice none 0 0), (nV 0), (nV 0), (.slice none 0 0)] 71, blk ar [(.slice none 0 0), (.slice none 0 0), (nV 0), (nV 0), (.slice none 0 0)] 71, ow [au] aN] a w) ?_ fun hT2_7 => ?_
   ·
    rintro a w ⟨ar, au, hf, hm⟩
    refine tSv hf hm [1, 0] rfl fun hS => tMo ?_ ?_
    ·
     refine tf rfl rfl (fun a hf => e_build0 (α := Phi_) et_68 hm rfl) ?_
     rintro aE w hm
     exact tAk hm [2, 1] rfl fun hS => tUse hT2_4 fun a hf => ⟨ar, aE, au, hf.sb rfl, hm.pk [1, 2, 3, 0, 4] rfl rfl⟩
    refine tO (tf rfl rfl (fun a hf => e_build0 (α := Ins_) et_69 hm rfl) ?_)
    rintro aJ w hm
    exact tAk hm [2, 1] rfl fun hS => tUse hT2_3 fun a hf => ⟨ar, aJ, au, hf.sb rfl, hm.pk [1, 2, 3, 0, 4] rfl rfl⟩
   refine tSh (od75_8) (fun a w => ∃ (av : Nat) (aw bf : Value), St 74 [(1, (pV aB)), (2, (pV aC)), (3, (pV av)), (8, aw), (10, (nV b_.jump)), (12, (nV b_.on)), (13, bf), (15, v3)] w0 (hp w0) [blk aB [v1, v2, (nV b_.jump), (nV b_.on), v3] 71, blk aC [(.slice none 0 0), (.slice none 0 0), (nV 0), (nV 0), (.slice none 0 0)] 71, blk av [(.slice none 0 0), (.slice none 0 0), (nV 0), (nV 0), (.slice none 0 0)] 71, ow [aw] ([] : List Ins_), ow [bf] ([] : List Int)] a w) ?_ fun hT2_8 => ?_
   ·
    rintro a w ⟨av, aw, bf, hf, hm⟩
    refine tSv hf hm [1, 0] rfl fun hS => tMo ?_ ?_
    ·
     refine tf rfl rfl (fun a hf => e_build0 (α := Phi_) et_68 hm rfl) ?_
     rintro aE w hm
     exact tAk hm [2, 1] rfl fun hS => tUse hT2_5 fun a hf => ⟨av, aE, aw, bf, hf.sb rfl, hm.pk [1, 2, 3, 0, 4, 5] rfl rfl⟩
    refine tO ?_
    obtain ⟨aK, aL⟩ := appM_some.1 aX
    refine tf rfl rfl (fun a hf => e_append 4 et_26 hf hm rfl (hm.now h3) rfl rfl rfl aK) ?_
    rintro aJ w hm
    rw [aL] at hm
    exact tAk hm [1, 0] rfl fun hS => tUse hT2_3 fun a hf => ⟨av, aw, aJ, hf.sb rfl, hm.pk [0, 1, 2, 3, 4] rfl rfl⟩
   refine tSh (od75_7) (fun a w => ∃ (ax ay : Value), St 74 [(1, (pV aB)), (2, (pV aC)), (8, ax), (10, (nV b_.jump)), (12, (nV b_.on)), (16, ay)] w0 (hp w0) [blk aB [v1, v2, (nV b_.jump), (nV b_.on), v3] 71, blk aC [(.slice none 0 0), (.slice none 0 0), (nV 0), (nV 0), (.slice none 0 0)] 71, ow [ax] ([] : List Ins_), ow [ay] aN] a w) ?_ fun hT2_9 => ?_
   ·
    rintro a w ⟨ax, ay, hf, hm⟩
    refine tSv hf hm [1, 0] rfl fun hS => tMo ?_ ?_
    ·
     refine tf rfl rfl (fun a hf => e_build0 (α := Phi_) et_68 hm rfl) ?_
     rintro aE w hm
     exact tAk hm [2, 1] rfl fun hS => tUse hT2_6 fun a hf => ⟨aE, ax, ay, hf.sb rfl, hm.pk [1, 2, 0, 3, 4] rfl rfl⟩
    refine tO (tf rfl rfl (fun a hf => e_alloc hm zeroValue71 rfl rfl) ?_)
    rintro _ w ⟨aM, rfl, hm⟩
    exact tAk hm [2, 1] rfl fun hS => tUse hT2_3 fun a hf => ⟨aM, ax, ay, hf.sb rfl, hm.pk [1, 2, 0, 3, 4] rfl rfl⟩
   refine tSh (od75_6) (fun a w => ∃ (az : Nat) (bA bg : Value), St 74 [(1, (pV aB)), (2, (pV aC)), (3, (pV az)), (7, bA), (10, (nV b_.jump)), (12, (nV b_.on)), (13, bg), (15, v3)] w0 (hp w0) [blk aB [v1, v2, (nV b_.jump), (nV b_.on), v3] 71, blk aC [(.slice none 0 0), (.slice none 0 0), (nV 0), (nV 0), (.slice none 0 0)] 71, blk az [(.slice none 0 0), (.slice none 0 0), (nV 0), (nV 0), (.slice none 0 0)] 71, ow [bA] ([] : List Phi_), ow [bg] ([] : List Int)] a w) ?_ fun hT2_10 => ?_
   ·
    rintro a w ⟨az, bA, bg, hf, hm⟩
    refine tSv hf hm [1, 0] rfl fun hS => tMo ?_ ?_
    ·
     refine tf rfl rfl (fun a hf => e_build0 (α := Ins_) et_69 hm rfl) ?_
     rintro aE w hm
     exact tAk hm [2, 1] rfl fun hS => tUse hT2_5 fun a hf => ⟨az, bA, aE, bg, hf.sb rfl, hm.pk [1, 2, 3, 4, 0, 5] rfl rfl⟩
    refine tO ?_
    obtain ⟨aK, aL⟩ := appM_some.1 aX
    refine tf rfl rfl (fun a hf => e_append 4 et_26 hf hm rfl (hm.now h3) rfl rfl rfl aK) ?_
    rintro aJ w hm
    rw [aL] at hm
    exact tAk hm [1, 0] rfl fun hS => tUse hT2_4 fun a hf => ⟨az, bA, aJ, hf.sb rfl, hm.pk [0, 1, 2, 3, 4] rfl rfl⟩
   refine tSh (od75_5) (fun a w => ∃ (bB bC : Value), St 74 [(1, (pV aB)), (2, (pV aC)), (7, bB), (10, (nV b_.jump)), (12, (nV b_.on)), (16, bC)] w0 (hp w0) [blk aB [v1, v2, (nV b_.jump), (nV b_.on), v3] 71, blk aC [(.slice none 0 0), (.slice none 0 0), (nV 0), (nV 0), (.slice none 0 0)] 71, ow [bB] ([] : List Phi_), ow [bC] aN] a w) ?_ fun hT2_11 => ?_
   ·
    rintro a w ⟨bB, bC, hf, hm⟩
    refine tSv hf hm [1, 0] rfl fun hS => tMo ?_ ?_
    ·
     refine tf rfl rfl (fun a hf => e_build0 (α := Ins_) et_69 hm rfl) ?_
     rintro aE w hm
     exact tAk hm [2, 1] rfl fun hS => tUse hT2_6 fun a hf => ⟨bB, aE, bC, hf.sb rfl, hm.pk [1, 2, 3, 0, 4] rfl rfl⟩
    refine tO (tf rfl rfl (fun a hf => e_alloc hm zeroValue71 rfl rfl) ?_)
    rintro _ w ⟨aM, rfl, hm⟩
    exact tAk hm [2, 1] rfl fun hS => tUse hT2_4 fun a hf => ⟨aM, bB, bC, hf.sb rfl, hm.pk [1, 2, 0, 3, 4] rfl rfl⟩
   refine tSh (od75_4) (fun a w => ∃ (bh : Nat) (bi bj : Value), St 74 [(1, (pV aB)), (2, (pV aC)), (3, (pV bh)), (7, bi), (8, bj), (10, (nV b_.jump)), (12, (nV b_.on)), (15, v3)] w0 (hp w0) [blk aB [v1, v2, (nV b_.jump), (nV b_.on), v3] 71, blk aC [(.slice none 0 0), (.slice none 0 0), (nV 0), (nV 0), (.slice none 0 0)] 71, blk bh [(.slice none 0 0), (.slice none 0 0), (nV 0), (nV 0), (.slice none 0 0)] 71, ow [bi] ([] : List Phi_), ow [bj] ([] : List Ins_)] a w) ?_ fun hT2_12 => ?_
   ·
    rintro a w ⟨bh, bi, bj, hf, hm⟩
    refine tSv hf hm [1, 0] rfl fun hS => tO (tf rfl rfl (fun a hf => e_build0 (α := Int) et_26 hm rfl) ?_)
    rintro aE w hm
    exact tAk hm [2, 1] rfl fun hS => tUse hT2_5 fun a hf => ⟨bh, bi, bj, aE, hf.sb rfl, hm.pk [1, 2, 3, 4, 5, 0] rfl rfl⟩
   refine tSh (od75_3) (fun a w => ∃ (bD bE bk : Value), St 74 [(1, (pV aB)), (2, (pV aC)), (7, bD), (8, bE), (10, (nV b_.jump)), (12, (nV b_.on)), (13, bk), (15, v3)] w0 (hp w0) [blk aB [v1, v2, (nV b_.jump), (nV b_.on), v3] 71, blk aC [(.slice none 0 0), (.slice none 0 0), (nV 0), (nV 0), (.slice none 0 0)] 71, ow [bD] ([] : List Phi_), ow [bE] ([] : List Ins_), ow [bk] ([] : List Int)] a w) ?_ fun hT2_13 => ?_
   ·
    rintro a w ⟨bD, bE, bk, hf, hm⟩
    refine tSv hf hm [1, 0] rfl fun hS => tMo ?_ ?_
    ·
     obtain ⟨aK, aL⟩ := appM_some.1 aX
     refine tf rfl rfl (fun a hf => e_append 4 et_26 hf hm rfl (hm.now h3) rfl rfl rfl aK) ?_
     rintro aE w hm
     rw [aL] at hm
     exact tAk hm [1, 0] rfl fun hS => tUse hT2_6 fun a hf => ⟨bD, bE, aE, hf.sb rfl, hm.pk [0, 1, 2, 3, 4] rfl rfl⟩
    refine tO (tf rfl rfl (fun a hf => e_alloc hm zeroValue71 rfl rfl) ?_)
    rintro _ w ⟨aM, rfl, hm⟩
    exact tAk hm [2, 1] rfl fun hS => tUse hT2_5 fun a hf => ⟨aM, bD, bE, bk, hf.sb rfl, hm.pk [1, 2, 0, 3, 4, 5] rfl rfl⟩
   refine tSh (od75_15) (fun a w => ∃ (al : Nat) (bF : Value), St 74 [(1, (pV aB)), (2, (pV aC)), (3, (pV al)), (10, (nV b_.jump)), (12, (nV b_.on)), (13, bF), (15, v3)] w0 (hp w0) [blk aB [v1, v2, (nV b_.jump), (nV b_.on), v3] 71, blk aC [(.slice none 0 0), (.slice none 0 0), (nV 0), (nV 0), (.slice none 0 0)] 71, blk al [(.slice none 0 0), (.slice none 0 0), (nV 0), (nV 0), (.slice none 0 0)] 71, ow [bF] ([] : List Int)] a w) ?_ fun hT2_14 => ?_
   ·
    rintro a w ⟨al, bF, hf, hm⟩
    refine tSv hf hm [1, 0] rfl fun hS => tMo ?_ ?_
    ·
     refine tf rfl rfl (fun a hf => e_build0 (α := Phi_) et_68 hm rfl) ?_
     rintro aE w hm
     exact tAk hm [2, 1] rfl fun hS => tUse hT2_10 fun a hf => ⟨al, aE, bF, hf.sb rfl, hm.pk [1, 2, 3, 0, 4] rfl rfl⟩
    refine tMo ?_ ?_
    ·
     refine tf rfl rfl (fun a hf => e_build0 (α := Ins_) et_69 hm rfl) ?_
     rintro aJ w hm
     exact tAk hm [2, 1] rfl fun hS => tUse hT2_8 fun a hf => ⟨al, aJ, bF, hf.sb rfl, hm.pk [1, 2, 3, 0, 4] rfl rfl⟩
    refine tO ?_
    obtain ⟨aK, aL⟩ := appM_some.1 aX
    refine tf rfl rfl (fun a hf => e_append 3 et_26 hf hm rfl (hm.now h3) rfl rfl rfl aK) ?_
    rintro cE w hm
    rw [aL] at hm
    exact tAk hm [1, 0] rfl fun hS => tUse hT2_7 fun a hf => ⟨al, cE, hf.sb rfl, hm.pk [0, 1, 2, 3] rfl rfl⟩
   refine tSh (od75_14) (fun a w => ∃ (bG : Nat) (bH : Value), St 74 [(1, (pV aB)), (2, (pV aC)), (3, (pV bG)), (8, bH), (10, (nV b_.jump)), (12, (nV b_.on)), (15, v3)] w0 (hp w0) [blk aB [v1, v2, (nV b_.jump), (nV b_.on), v3] 71, blk aC [(.slice none 0 0), (.slice none 0 0), (nV 0), (nV 0), (.slice none 0 0)] 71, blk bG [(.slice none 0 0), (.slice none 0 0), (nV 0), (nV 0), (.slice none 0 0)] 71, ow [bH] ([] : List Ins_)] a w) ?_ fun hT2_15 => ?_
   ·
    rintro a w ⟨bG, bH, hf, hm⟩
    refine tSv hf hm [1, 0] rfl fun hS => tMo ?_ ?_
    ·
     refine tf rfl rfl (fun a hf => e_build0 (α := Phi_) et_68 hm rfl) ?_
     rintro aE w hm
     exact tAk hm [2, 1] rfl fun hS => tUse hT2_12 fun a hf => ⟨bG, aE, bH, hf.sb rfl, hm.pk [1, 2, 3, 0, 4] rfl rfl⟩
    refine tO (tf rfl rfl (fun a hf => e_build0 (α := Int) et_26 hm rfl) ?_)
    rintro aJ w hm
    exact tAk hm [2, 1] rfl fun hS => tUse hT2_8 fun a hf => ⟨bG, bH, aJ, hf.sb rfl, hm.pk [1, 2, 3, 4, 0] rfl rfl⟩
   refine tSh (od75_13) (fun a w => ∃ (am bJ : Value), St 74 [(1, (pV aB)), (2, (pV aC)), (8, am), (10, (nV b_.jump)), (12, (nV b_.on)), (13, bJ), (15, v3)] w0 (hp w0) [blk aB [v1, v2, (nV b_.jump), (nV b_.on), v3] 71, blk aC [(.slice none 0 0), (.slice none 0 0), (nV 0), (nV 0), (.slice none 0 0)] 71, ow [am] ([] : List Ins_), ow [bJ] ([] : List Int)] a w) ?_ fun hT2_16 => ?_
   ·
    rintro a w ⟨am, bJ, hf, hm⟩
    refine tSv hf hm [1, 0] rfl fun hS => tMo ?_ ?_
    ·
     refine tf rfl rfl (fun a hf => e_build0 (α := Phi_) et_68 hm rfl) ?_
     rintro aE w hm
     exact tAk hm [2, 1] rfl fun hS => tUse hT2_13 fun a hf => ⟨aE, am, bJ, hf.sb rfl, hm.pk [1, 2, 0, 3, 4] rfl rfl⟩
    refine tMo ?_ ?_
    ·
     obtain ⟨aK, aL⟩ := appM_some.1 aX
     refine tf rfl rfl (fun a hf => e_append 3 et_26 hf hm rfl (hm.now h3) rfl rfl rfl aK) ?_
     rintro aJ w hm
     rw [aL] at hm
     exact tAk hm [1, 0] rfl fun hS => tUse hT2_9 fun a hf => ⟨am, aJ, hf.sb rfl, hm.pk [0, 1, 2, 3] rfl rfl⟩
    refine tO (tf rfl rfl (fun a hf => e_alloc hm zeroValue71 rfl rfl) ?_)
    rintro _ w ⟨aM, rfl, hm⟩
    exact tAk hm [2, 1] rfl fun hS => tUse hT2_8 fun a hf => ⟨aM, am, bJ, hf.sb rfl, hm.pk [1, 2, 0, 3, 4] rfl rfl⟩
   refine tSh (od75_12) (fun a w => ∃ (bK : Nat) (bL : Value), St 74 [(1, (pV aB)), (2, (pV aC)), (3, (pV bK)), (7, bL), (10, (nV b_.jump)), (12, (nV b_.on)), (15, v3)] w0 (hp w0) [blk aB [v1, v2, (nV b_.jump), (nV b_.on), v3] 71, blk aC [(.slice none 0 0), (.slice none 0 0), (nV 0), (nV 0), (.slice none 0 0)] 71, blk bK [(.slice none 0 0), (.slice none 0 0), (nV 0), (nV 0), (.slice none 0 0)] 71, ow [bL] ([] : List Phi_)] a w) ?_ fun hT2_17 => ?_
   ·
    rintro a w ⟨bK, bL, hf, hm⟩
    refine tSv hf hm [1, 0] rfl fun hS => tMo ?_ ?_
    ·
     refine tf rfl rfl (fun a hf => e_build0 (α := Ins_) et_69 hm rfl) ?_
     rintro aE w hm
     exact tAk hm [2, 1] rfl fun hS => tUse hT2_12 fun a hf => ⟨bK, bL, aE, hf.sb rfl, hm.pk [1, 2, 3, 4, 0] rfl rfl⟩
    refine tO (tf rfl rfl (fun a hf => e_build0 (α := Int) et_26 hm rfl) ?_)
    rintro aJ w hm
    exact tAk hm [2, 1] rfl fun hS => tUse hT2_10 fun a hf => ⟨bK, bL, aJ, hf.sb rfl, hm.pk [1, 2, 3, 4, 0] rfl rfl⟩
   refine tSh (od75_11) (fun a w => ∃ (an bM : Value), St 74 [(1, (pV aB)), (2, (pV aC)), (7, an), (10, (nV b_.jump)), (12, (nV b_.on)), (13, bM), (15, v3)] w0 (hp w0) [blk aB [v1, v2, (nV b_.jump), (nV b_.on), v3] 71, blk aC [(.slice none 0 0), (.slice none 0 0), (nV 0), (nV 0), (.slice none 0 0)] 71, ow [an] ([] : List Phi_), ow [bM] ([] : List Int)] a w) ?_ fun hT2_18 => ?_
   ·
    rintro a w ⟨an, bM, hf, hm⟩
    refine tSv hf hm [1, 0] rfl fun hS => tMo ?_ ?_
    ·
     refine tf rfl rfl (fun a hf => e_build0 (α := Ins_) et_69 hm rfl) ?_
     rintro aE w hm
     exact tAk hm [2, 1] rfl fun hS => tUse hT2_13 fun a hf => ⟨an, aE, bM, hf.sb rfl, hm.pk [1, 2, 3, 0, 4] rfl rfl⟩
    refine tMo ?_ ?_
    ·
     obtain ⟨aK, aL⟩ := appM_some.1 aX
     refine tf rfl rfl (fun a hf => e_append 3 et_26 hf hm rfl (hm.now h3) rfl rfl rfl aK) ?_
     rintro aJ w hm
     rw [aL] at hm
     exact tAk hm [1, 0] rfl fun hS => tUse hT2_11 fun a hf => ⟨an, aJ, hf.sb rfl, hm.pk [0, 1, 2, 3] rfl rfl⟩
    refine tO (tf rfl rfl (fun a hf => e_alloc hm zeroValue71 rfl rfl) ?_)
    rintro _ w ⟨aM, rfl, hm⟩
    exact tAk hm [2, 1] rfl fun hS => tUse hT2_10 fun a hf => ⟨aM, an, bM, hf.sb rfl, hm.pk [1, 2, 0, 3, 4] rfl rfl⟩
   refine tSh (od75_10) (fun a w => ∃ (bN bO : Value), St 74 [(1, (pV aB)), (2, (pV aC)), (7, bN), (8, bO), (10, (nV b_.jump)), (12, (nV b_.on)), (15, v3)] w0 (hp w0) [blk aB [v1, v2, (nV b_.jump), (nV b_.on), v3] 71, blk aC [(.slice none 0 0), (.slice none 0 0), (nV 0), (nV 0), (.slice none 0 0)] 71, ow [bN] ([] : List Phi_), ow [bO] ([] : List Ins_)] a w) ?_ fun hT2_19 => ?_
   ·
    rintro a w ⟨bN, bO, hf, hm⟩
    refine tSv hf hm [1, 0] rfl fun hS => tMo ?_ ?_
    ·
     refine tf rfl rfl (fun a hf => e_build0 (α := Int) et_26 hm rfl) ?_
     rintro aE w hm
     exact tAk hm [2, 1] rfl fun hS => tUse hT2_13 fun a hf => ⟨bN, bO, aE, hf.sb rfl, hm.pk [1, 2, 3, 4, 0] rfl rfl⟩
    refine tO (tf rfl rfl (fun a hf => e_alloc hm zeroValue71 rfl rfl) ?_)
    rintro _ w ⟨aM, rfl, hm⟩
    exact tAk hm [2, 1] rfl fun hS => tUse hT2_12 fun a hf => ⟨aM, bN, bO, hf.sb rfl, hm.pk [1, 2, 0, 3, 4] rfl rfl⟩
   refine tMo ?_ ?_
   ·
    refine tf rfl rfl (fun a hf => e_build0 (α := Phi_) et_68 hm rfl) ?_
    rintro aE w hm
    refine tAk hm [1, 2] rfl fun hS => tMo ?_ ?_
    ·
     refine tf rfl rfl (fun a hf => e_build0 (α := Ins_) et_69 hm rfl) ?_
     rintro aJ w hm
     exact tAk hm [2, 3] rfl fun hS => tUse hT2_19 fun a hf => ⟨aE, aJ, hf.sb rfl, hm.pk [3, 2, 1, 0] rfl rfl⟩
    refine tMo ?_ ?_
    ·
     refine tf rfl rfl (fun a hf => e_build0 (α := Int) et_26 hm rfl) ?_
     rintro cE w hm
     exact tAk hm [2, 3] rfl fun hS => tUse hT2_18 fun a hf => ⟨aE, cE, hf.sb rfl, hm.pk [3, 2, 1, 0] rfl rfl⟩
    refine tO (tf rfl rfl (fun a hf => e_alloc hm zeroValue71 rfl rfl) ?_)
    rintro _ w ⟨aM, rfl, hm⟩
    exact tAk hm [2, 3] rfl fun hS => tUse hT2_17 fun a hf => ⟨aM, aE, hf.sb rfl, hm.pk [3, 2, 0, 1] rfl rfl⟩
   refine tMo ?_ ?_
   ·
    refine tf rfl rfl (fun a hf => e_build0 (α := Ins_) et_69 hm rfl) ?_
    rintro cF w hm
    refine tAk hm [1, 2] rfl fun hS => tMo ?_ ?_
    ·
     refine tf rfl rfl (fun a hf => e_build0 (α := Phi_) et_68 hm rfl) ?_
     rintro cS w hm
     exact tAk hm [2, 3] rfl fun hS => tUse hT2_19 fun a hf => ⟨cS, cF, hf.sb rfl, hm.pk [3, 2, 0, 1] rfl rfl⟩
    refine tMo ?_ ?_
    ·
     refine tf rfl rfl (fun a hf => e_build0 (α := Int) et_26 hm rfl) ?_
     rintro cT w hm
     exact tAk hm [2, 3] rfl fun hS => tUse hT2_16 fun a hf => ⟨cF, cT, hf.sb rfl, hm.pk [3, 2, 1, 0] rfl rfl⟩
    refine tO (tf rfl rfl (fun a hf => e_alloc hm zeroValue71 rfl rfl) ?_)
    rintro _ w ⟨cU, rfl, hm⟩
    exact tAk hm [2, 3] rfl fun hS => tUse hT2_15 fun a hf => ⟨cU, cF, hf.sb rfl, hm.pk [3, 2, 0, 1] rfl rfl⟩
   refine tMo ?_ ?_
   ·
    refine tf rfl rfl (fun a hf => e_build0 (α := Int) et_26 hm rfl) ?_
    rintro cG w hm
    refine tAk hm [1, 2] rfl fun hS => tMo ?_ ?_
    ·
     refine tf rfl rfl (fun a hf => e_build0 (α := Phi_) et_68 hm rfl) ?_
     rintro cV w hm
     exact tAk hm [2, 3] rfl fun hS => tUse hT2_18 fun a hf => ⟨cV, cG, hf.sb rfl, hm.pk [3, 2, 0, 1] rfl rfl⟩
    refine tMo ?_ ?_
    ·
     refine tf rfl rfl (fun a hf => e_build0 (α := Ins_) et_69 hm rfl) ?_
     rintro cW w hm
     exact tAk hm [2, 3] rfl fun hS => tUse hT2_16 fun a hf => ⟨cW, cG, hf.sb rfl, hm.pk [3, 2, 0, 1] rfl rfl⟩
    refine tMo ?_ ?_
    ·
     obtain ⟨aK, aL⟩ := appM_some.1 aX
     refine tf rfl rfl (fun a hf => e_append 0 et_26 hf hm rfl (hm.now h3) rfl rfl rfl aK) ?_
     rintro cH w hm
     rw [aL] at hm
     refine tAk hm [1, 2] rfl fun hS => tMo ?_ ?_
     ·
      refine tf rfl rfl (fun a hf => e_build0 (α := Phi_) et_68 hm rfl) ?_
      rintro cX w hm
      exact tAk hm [2, 3] rfl fun hS => tUse hT2_11 fun a hf => ⟨cX, cH, hf.sb rfl, hm.pk [3, 2, 0, 1] rfl rfl⟩
     refine tMo ?_ ?_
     ·
      refine tf rfl rfl (fun a hf => e_build0 (α := Ins_) et_69 hm rfl) ?_
      rintro cY w hm
      exact tAk hm [2, 3] rfl fun hS => tUse hT2_9 fun a hf => ⟨cY, cH, hf.sb rfl, hm.pk [3, 2, 0, 1] rfl rfl⟩
     refine tO (tf rfl rfl (fun a hf => e_alloc hm zeroValue71 rfl rfl) ?_)
     rintro _ w ⟨cZ, rfl, hm⟩
     exact tAk hm [2, 3] rfl fun hS => tUse hT2_7 fun a hf => ⟨cZ, cH, hf.sb rfl, hm.pk [3, 2, 0, 1] rfl rfl⟩
    refine tO (tf rfl rfl (fun a hf => e_alloc hm zeroValue71 rfl rfl) ?_)
    rintro _ w ⟨c5, rfl, hm⟩
    exact tAk hm [2, 3] rfl fun hS => tUse hT2_14 fun a hf => ⟨c5, cG, hf.sb rfl, hm.pk [3, 2, 0, 1] rfl rfl⟩
   refine tO (tf rfl rfl (fun a hf => e_alloc hm zeroValue71 rfl rfl) ?_)
   rintro _ w ⟨cI, rfl, hm⟩
   refine tAk hm [1, 2] rfl fun hS => tMo ?_ ?_
   ·
    refine tf rfl rfl (fun a hf => e_build0 (α := Phi_) et_68 hm rfl) ?_
    rintro c6 w hm
    exact tAk hm [2, 3] rfl fun hS => tUse hT2_17 fun a hf => ⟨cI, c6, hf.sb rfl, hm.pk [3, 2, 1, 0] rfl rfl⟩
   refine tMo ?_ ?_
   ·
    refine tf rfl rfl (fun a hf => e_build0 (α := Ins_) et_69 hm rfl) ?_
    rintro c7 w hm
    exact tAk hm [2, 3] rfl fun hS => tUse hT2_15 fun a hf => ⟨cI, c7, hf.sb rfl, hm.pk [3, 2, 1, 0] rfl rfl⟩
   refine tO (tf rfl rfl (fun a hf => e_build0 (α := Int) et_26 hm rfl) ?_)
   rintro c8 w hm
   exact tAk hm [2, 3] rfl fun hS => tUse hT2_14 fun a hf => ⟨cI, c8, hf.sb rfl, hm.pk [3, 2, 1, 0] rfl rfl⟩
  repeat clear hm
  rintro aD a w ⟨aI, bt, bu, bv, hf, hm⟩
  refine gv hf (gS (gS (gR (gA rfl (gE ?_)))))
  obtain ⟨c9, ca, rfl, cy⟩ := ro_slice (hm.ow_rep 3 rfl)
  obtain ⟨aP, aQ, rfl, cz⟩ := ro_slice (hm.ow_rep 4 rfl)
  obtain ⟨aF, aG, rfl, dA⟩ := ro_slice (hm.ow_rep 5 rfl)
  refine gBk (gNg (fun cK aY a w => ∃ (aR : Value), St 74 [(1, (pV aB)), (2, (pV aC)), (3, (pV aI)), (4, (nV cK))] w0 (hp w0) [blk aB [v1, v2, (nV b_.jump), (nV b_.on), v3] 71, blk aC [(.slice none 0 0), (.slice none 0 0), (nV 0), (nV 0), (.slice none 0 0)] 71, blk aI [aR, (.slice aP ([] : List Ins_).length aQ), (nV b_.jump), (nV b_.on), (.slice aF aD.length aG)] 71, ow [aR] aY, ow [(.slice aP ([] : List Ins_).length aQ)] ([] : List Ins_), ow [(.slice aF aD.length aG)] aD] a w) (fun a hf => ⟨(.slice c9 ([] : List Phi_).length ca), hf.sb rfl, hm.pk [0, 1, 2, 3, 4, 5] rfl rfl⟩) ?_ ?_)
  ·
   repeat clear hm
   rintro _ _ cK aY a w ⟨aR, hf, hm⟩ dB dC dD _
   refine gv hf (gS (gS (gR (gM rfl (gF fo_71_0 rfl (gL hm 0 isAgg68 rfl ?_))))))
   obtain ⟨cb, bP, rfl, dE⟩ := ro_slice h1
   refine gY (yV st_68 rfl) (gB rfl (gE (go _ 22 rfl (decide_eq_true (by omega)) (gct rfl (gSk (gS (gBk (gW (.p 0 (.p 2 (.p 4 (.p 9 (.p 11 (.q 1 (.q 3 (.p 5 (.p 6 (.q 7 (.q 10 (.p 12 (.p 13 (.q 14 (.e 8 (.e 15 (.p 16 (.e 17 (.e 18 (.p 19 (.e 20 .fin .nil)) .nil) .nil)) .nil) .nil))))))))))))))) [1, 3, 7, 8, 10, 14, 15, 17] [0, 2, 4, 5, 6, 9, 11, 12, 13, 16, 19] hm [0, 1, 2, 3, 4, 5] [blk aB [(.slice cb b_.phis.length bP), v2, (nV b_.jump), (nV b_.on), v3] 71, blk aC [(.slice none 0 0), (.slice none 0 0), (nV 0), (nV 0), (.slice none 0 0)] 71, blk aI [aR, (.slice aP ([] : List Ins_).length aQ), (nV b_.jump), (nV b_.on), (.slice aF aD.length aG)] 71, ow [aR] aY, ow [(.slice aP ([] : List Ins_).length aQ)] ([] : List Ins_), ow [(.slice aF aD.length aG)] aD] rfl mxo (by kernel_rfl) (fun _ _ _ h => h.2) fun w hm hS => tP rfl (fun w => yF fo_71_0 rfl) (tP rfl (fun w => yF fo_71_0 rfl) (tP rfl (fun w => yM rfl) (tP rfl (fun w => yF fo_71_0 rfl) (tP rfl (fun w => yM rfl) (tQ rfl hS (fun w hm => yL hm 2 isAgg68 rfl) (tQ rfl hS (fun w hm => yL hm 0 isAgg68 rfl) (gg fun aO cL bm => ?_)))))))))))))))
   obtain ⟨bo, bp, dF, he⟩ := idx_form' h1 bm
   obtain ⟨rfl, _, rfl⟩ := sl3 he
   obtain ⟨dG, cM, cd⟩ := rk_Phi_ h1 bm
   refine tP rfl (fun w => yI st_68 cL (idx_lt bm) rfl) (tP rfl (fun w => yF fo_66_0 rfl) (tQ rfl hS (fun w hm => yl isAgg3 ((cM.mono hm.lez).cell (j := 0) rfl) rfl) (tQ rfl hS (fun w hm => yL hm 0 isAgg68 rfl) (tP rfl (fun w => yI st_68 cL (idx_lt bm) rfl) (tP rfl (fun w => yF fo_66_1 rfl) (tQ rfl hS (fun w hm => yl isAgg26 ((cM.mono hm.lez).cell (j := 1) rfl) rfl) (tO (tf rfl rfl (fun a hf => e_build0 (α := Int) et_26 hm rfl) ?_))))))))
   rintro dH w hm
   refine tAk hm [1, 2, 3, 4, 5, 6] rfl fun hS => tO (gb fun aS ce => ?_)
   obtain ⟨cf, cg⟩ := appM_some.1 ce
   refine tf rfl rfl (fun a hf => e_append 0 et_26 hf hm rfl (hm.now cd) rfl rfl rfl cf) ?_
   rintro dI w hm
   rw [cg] at hm
   refine tAk hm [1, 2, 3, 4, 5, 6] rfl fun hS => ?_
   obtain ⟨aZ, aa, rfl, dJ⟩ := ro_slice (hm.ow_rep 0 rfl)
   refine tP rfl (fun w => yG rfl (y_build (vs := [(0, (nV aO.to)), (1, (.slice aZ aS.length aa))]) (cs := #[(nV aO.to), (.slice aZ aS.length aa)]) rfl rfl (by kernel_rfl))) (tO (tf rfl rfl (fun a hf => e_build (vs := #[(0, (.agg #[(nV aO.to), (.slice aZ aS.length aa)]))]) (cs := [(nV aO.to), (.slice aZ aS.length aa)]) et_68 hf hm rfl rfl (by kernel_rfl) rfl rfl) ?_))
   rintro _ w ⟨bq, rfl, hm⟩
   replace hm := hm.els_nil (α := Phi_)
   replace hm : Mem w0 (hp w0) _ [els [] ([] : List Phi_), blk bq [(nV aO.to), (.slice aZ aS.length aa)] 66, ow [(nV aO.to), (.slice aZ aS.length aa)] ((⟨aO.to, aS⟩ : Phi_) : Phi_), blk aB [(sV bo bp b_.phis.length bP), v2, (nV b_.jump), (nV b_.on), v3] 71, blk aC [(.slice none 0 0), (.slice none 0 0), (nV 0), (nV 0), (.slice none 0 0)] 71, blk aI [aR, (.slice aP ([] : List Ins_).length aQ), (nV b_.jump), (nV b_.on), (.slice aF aD.length aG)] 71, ow [aR] aY, ow [(.slice aP ([] : List Ins_).length aQ)] ([] : List Ins_), ow [(.slice aF aD.length aG)] aD] := mk_Phi_ aO.to hm 2 rfl
   replace hm := (hm.els_cons 0 2 (by decide) rfl rfl).pk (L' := [els [(nV aO.to), (.slice aZ aS.length aa)] ([(⟨aO.to, aS⟩ : Phi_)] : List Phi_), blk bq [(nV aO.to), (.slice aZ aS.length aa)] 66, blk aB [(sV bo bp b_.phis.length bP), v2, (nV b_.jump), (nV b_.on), v3] 71, blk aC [(.slice none 0 0), (.slice none 0 0), (nV 0), (nV 0), (.slice none 0 0)] 71, blk aI [aR, (.slice aP ([] : List Ins_).length aQ), (nV b_.jump), (nV b_.on), (.slice aF aD.length aG)] 71, ow [aR] aY, ow [(.slice aP ([] : List Ins_).length aQ)] ([] : List Ins_), ow [(.slice aF aD.length aG)] aD]) [0, 1, 3, 4, 5, 6, 7, 8] rfl rfl
   replace hm := (hm.lit_els 1 0 (by decide) rfl rfl rfl rfl).pk (L' := [ow [(sV bq 0 1 1)] ([(⟨aO.to, aS⟩ : Phi_)] : List Phi_), blk aB [(sV bo bp b_.phis.length bP), v2, (nV b_.jump), (nV b_.on), v3] 71, blk aC [(.slice none 0 0), (.slice none 0 0), (nV 0), (nV 0), (.slice none 0 0)] 71, blk aI [aR, (.slice aP ([] : List Ins_).length aQ), (nV b_.jump), (nV b_.on), (.slice aF aD.length aG)] 71, ow [aR] aY, ow [(.slice aP ([] : List Ins_).length aQ)] ([] : List Ins_), ow [(.slice aF aD.length aG)] aD]) [1, 2, 3, 4, 5, 6, 7] rfl rfl
   refine tAk hm [1, 2, 3, 4, 5, 6] rfl fun hS => tO (gb fun dK ci => ?_)
   obtain ⟨cj, ck⟩ := appM_some.1 ci
   replace hm := (hm.both 4 0 (by decide) rfl rfl).pk (L' := [blk aB [(sV bo bp b_.phis.length bP), v2, (nV b_.jump), (nV b_.on), v3] 71, blk aC [(.slice none 0 0), (.slice none 0 0), (nV 0), (nV 0), (.slice none 0 0)] 71, blk aI [aR, (.slice aP ([] : List Ins_).length aQ), (nV b_.jump), (nV b_.on), (.slice aF aD.length aG)] 71, both (ow [aR] aY) (ow [(sV bq 0 1 1)] ([(⟨aO.to, aS⟩ : Phi_)] : List Phi_)), ow [(.slice aP ([] : List Ins_).length aQ)] ([] : List Ins_), ow [(.slice aF aD.length aG)] aD]) [1, 2, 3, 4, 5, 6] rfl rfl
   refine tf rfl rfl (fun a hf => e_appendD (xs := aY) (ys := ([(⟨aO.to, aS⟩ : Phi_)] : List Phi_)) 3 et_68 hf hm rfl rfl rfl rfl cj) ?_
   rintro cl w hm
   rw [ck] at hm
   refine tAn rfl (tP rfl (fun w => yF fo_71_0 rfl) (tO (tf0 rfl rfl (fun a hf => e_store1 2 hf hm rfl sizeOf68 rfl rfl rfl (rep_one (hm.ow_rep 3 rfl)) rfl) ?_)))
   rintro _ w hm
   exact tAn rfl (tE (gR (gM rfl (gP (by omega) (by omega) rfl (gA rfl (gE (gZe fun a hf => ⟨cl, hf.sb rfl, hm.pk [0, 1, 2, 3, 4, 5] rfl rfl⟩)))))))
  repeat clear hm
  rintro dL aH a w ⟨dM, hf, hm⟩ dN dO
  refine gv hf (gS (gS (gR (gM rfl (gF fo_71_0 rfl (gL hm 0 isAgg68 rfl ?_))))))
  obtain ⟨ao, aq, rfl, dP⟩ := ro_slice h1
  refine gY (yV st_68 rfl) (gB rfl (gE (go _ 22 rfl (decide_eq_false (by omega)) (gcf rfl (gXt (gHh (gS (gS (gR (gA rfl (gE ?_)))))))))))
  obtain ⟨aT, aU, rfl, dQ⟩ := ro_slice (hm.ow_rep 3 rfl)
  refine gBk (gNg (fun cN ab a w => ∃ (aV : Value), St 74 [(1, (pV aB)), (2, (pV aC)), (3, (pV aI)), (5, (nV cN))] w0 (hp w0) [blk aB [(.slice ao b_.phis.length aq), v2, (nV b_.jump), (nV b_.on), v3] 71, blk aC [(.slice none 0 0), (.slice none 0 0), (nV 0), (nV 0), (.slice none 0 0)] 71, blk aI [(.slice aT aH.length aU), aV, (nV b_.jump), (nV b_.on), (.slice aF aD.length aG)] 71, ow [(.slice aT aH.length aU)] aH, ow [aV] ab, ow [(.slice aF aD.length aG)] aD] a w) (fun a hf => ⟨(.slice aP ([] : List Ins_).length aQ), hf.sb rfl, hm.pk [0, 1, 2, 3, 4, 5] rfl rfl⟩) ?_ ?_)
  ·
   repeat clear hm
   rintro _ _ cN ab a w ⟨aV, hf, hm⟩ dR dS dT _
   refine gv hf (gS (gS (gR (gM rfl (gF fo_71_1 rfl (gL hm 0 isAgg69 rfl ?_))))))
   obtain ⟨dU, bQ, rfl, dV⟩ := ro_slice h2
   refine gY (yV st_69 rfl) (gB rfl (gE (go _ 49 rfl (decide_eq_true (by omega)) (gct rfl (gSk (gS (gBk (gS (gR (gF fo_71_1 rfl (gL hm 0 isAgg69 rfl (gM rfl (gg fun aA cm cJ => ?_)))))))))))))
   obtain ⟨bR, bS, dW, he⟩ := idx_form' h2 cJ
   obtain ⟨rfl, _, rfl⟩ := sl3 he
   obtain ⟨bT, cn, cO⟩ := rk_Ins_ h2 cJ
   refine gI st_69 cm (idx_lt cJ) rfl (gY (yn (cn.mono hm.lez) isAgg75 sizeOf75 rfl) (gAl hm zeroValue75 rfl fun bU w hm => gSN hm 0 sizeOf75 (one_cons rfl (one_cons rfl (one_cons (rep_one cO) (one_cons rfl one_nil)))) rfl fun w hm => gE (gW (.p 0 (.p 2 (.p 4 (.p 7 (.p 10 (.q 1 (.q 3 (.q 5 (.q 8 (.q 11 (.e 6 (.e 9 (.p 12 (.e 13 (.e 14 (.p 15 (.e 16 .fin .nil)) .nil) .nil)) .nil) .nil))))))))))) [1, 3, 5, 6, 8, 9, 11, 13] [0, 2, 4, 7, 10, 12, 15] hm [0, 1, 2, 3, 4, 5, 6] [blk bU [(nV aA.op), (nV aA.to), bT, (nV aA.n_)] 75, blk aB [(.slice ao b_.phis.length aq), (sV bR bS b_.ins.length bQ), (nV b_.jump), (nV b_.on), v3] 71, blk aC [(.slice none 0 0), (.slice none 0 0), (nV 0), (nV 0), (.slice none 0 0)] 71, blk aI [(.slice aT aH.length aU), aV, (nV b_.jump), (nV b_.on), (.slice aF aD.length aG)] 71, ow [(.slice aT aH.length aU)] aH, ow [aV] ab, ow [(.slice aF aD.length aG)] aD] rfl mxo (by kernel_rfl) (fun _ _ _ h => h.2) fun w hm hS => tP rfl (fun w => yF fo_71_1 rfl) (tP rfl (fun w => yF fo_75_0 rfl) (tP rfl (fun w => yF fo_75_1 rfl) (tP rfl (fun w => yF fo_75_2 rfl) (tP rfl (fun w => yF fo_75_3 rfl) (tQ rfl hS (fun w hm => yL hm 3 isAgg69 rfl) (tQ rfl hS (fun w hm => yL hm 0 isAgg3 rfl) (tQ rfl hS (fun w hm => yL hm 0 isAgg3 rfl) (tQ rfl hS (fun w hm => yL hm 0 isAgg26 rfl) (tQ rfl hS (fun w hm => yL hm 0 isAgg3 rfl) (tO (tf rfl rfl (fun a hf => e_build0 (α := Int) et_26 hm rfl) ?_))))))))))))))
   rintro dX w hm
   refine tAk hm [1, 2, 3, 4, 5, 6, 7] rfl fun hS => tO (gb fun aW co => ?_)
   obtain ⟨cq, cr⟩ := appM_some.1 co
   refine tf rfl rfl (fun a hf => e_append 0 et_26 hf hm rfl (hm.now cO) rfl rfl rfl cq) ?_
   rintro dY w hm
   rw [cr] at hm
   refine tAk hm [1, 2, 3, 4, 5, 6, 7] rfl fun hS => ?_
   obtain ⟨ac, ae, rfl, dZ⟩ := ro_slice (hm.ow_rep 0 rfl)
   refine tP rfl (fun w => yG rfl (y_build (vs := [(0, (nV aA.op)), (1, (nV aA.to)), (2, (.slice ac aW.length ae)), (3, (nV aA.n_))]) (cs := #[(nV aA.op), (nV aA.to), (.slice ac aW.length ae), (nV aA.n_)]) rfl rfl (by kernel_rfl))) (tO (tf rfl rfl (fun a hf => e_build (vs := #[(0, (.agg #[(nV aA.op), (nV aA.to), (.slice ac aW.length ae), (nV aA.n_)]))]) (cs := [(nV aA.op), (nV aA.to), (.slice ac aW.length ae), (nV aA.n_)]) et_69 hf hm rfl rfl (by kernel_rfl) rfl rfl) ?_))
   rintro _ w ⟨br, rfl, hm⟩
   replace hm := hm.els_nil (α := Ins_)
   replace hm : Mem w0 (hp w0) _ [els [] ([] : List Ins_), blk br [(nV aA.op), (nV aA.to), (.slice ac aW.length ae), (nV aA.n_)] 75, ow [(nV aA.op), (nV aA.to), (.slice ac aW.length ae), (nV aA.n_)] ((⟨aA.op, aA.to, aW, aA.n_⟩ : Ins_) : Ins_), blk bU [(nV aA.op), (nV aA.to), bT, (nV aA.n_)] 75, blk aB [(.slice ao b_.phis.length aq), (sV bR bS b_.ins.length bQ), (nV b_.jump), (nV b_.on), v3] 71, blk aC [(.slice none 0 0), (.slice none 0 0), (nV 0), (nV 0), (.slice none 0 0)] 71, blk aI [(.slice aT aH.length aU), aV, (nV b_.jump), (nV b_.on), (.slice aF aD.length aG)] 71, ow [(.slice aT aH.length aU)] aH, ow [aV] ab, ow [(.slice aF aD.length aG)] aD] := mk_Ins_ aA.op aA.to aA.n_ hm 2 rfl
   replace hm := (hm.els_cons 0 2 (by decide) rfl rfl).pk (L' := [els [(nV aA.op), (nV aA.to), (.slice ac aW.length ae), (nV aA.n_)] ([(⟨aA.op, aA.to, aW, aA.n_⟩ : Ins_)] : List Ins_), blk br [(nV aA.op), (nV aA.to), (.slice ac aW.length ae), (nV aA.n_)] 75, blk bU [(nV aA.op), (nV aA.to), bT, (nV aA.n_)] 75, blk aB [(.slice ao b_.phis.length aq), (sV bR bS b_.ins.length bQ), (nV b_.jump), (nV b_.on), v3] 71, blk aC [(.slice none 0 0), (.slice none 0 0), (nV 0), (nV 0), (.slice none 0 0)] 71, blk aI [(.slice aT aH.length aU), aV, (nV b_.jump), (nV b_.on), (.slice aF aD.length aG)] 71, ow [(.slice aT aH.length aU)] aH, ow [aV] ab, ow [(.slice aF aD.length aG)] aD]) [0, 1, 3, 4, 5, 6, 7, 8, 9] rfl rfl
   replace hm := (hm.lit_els 1 0 (by decide) rfl rfl rfl rfl).pk (L' := [ow [(sV br 0 1 1)] ([(⟨aA.op, aA.to, aW, aA.n_⟩ : Ins_)] : List Ins_), blk bU [(nV aA.op), (nV aA.to), bT, (nV aA.n_)] 75, blk aB [(.slice ao b_.phis.length aq), (sV bR bS b_.ins.length bQ), (nV b_.jump), (nV b_.on), v3] 71, blk aC [(.slice none 0 0), (.slice none 0 0), (nV 0), (nV 0), (.slice none 0 0)] 71, blk aI [(.slice aT aH.length aU), aV, (nV b_.jump), (nV b_.on), (.slice aF aD.length aG)] 71, ow [(.slice aT aH.length aU)] aH, ow [aV] ab, ow [(.slice aF aD.length aG)] aD]) [1, 2, 3, 4, 5, 6, 7, 8] rfl rfl
   refine tAk hm [1, 2, 3, 4, 5, 6, 7] rfl fun hS => tO (gb fun d1 ct => ?_)
   obtain ⟨cu, cv⟩ := appM_some.1 ct
   replace hm := (hm.both 6 0 (by decide) rfl rfl).pk (L' := [blk bU [(nV aA.op), (nV aA.to), bT, (nV aA.n_)] 75, blk aB [(.slice ao b_.phis.length aq), (sV bR bS b_.ins.length bQ), (nV b_.jump), (nV b_.on), v3] 71, blk aC [(.slice none 0 0), (.slice none 0 0), (nV 0), (nV 0), (.slice none 0 0)] 71, blk aI [(.slice aT aH.length aU), aV, (nV b_.jump), (nV b_.on), (.slice aF aD.length aG)] 71, ow [(.slice aT aH.length aU)] aH, both (ow [aV] ab) (ow [(sV br 0 1 1)] ([(⟨aA.op, aA.to, aW, aA.n_⟩ : Ins_)] : List Ins_)), ow [(.slice aF aD.length aG)] aD]) [1, 2, 3, 4, 5, 6, 7] rfl rfl
   refine tf rfl rfl (fun a hf => e_appendD (xs := ab) (ys := ([(⟨aA.op, aA.to, aW, aA.n_⟩ : Ins_)] : List Ins_)) 5 et_69 hf hm rfl rfl rfl rfl cu) ?_
   rintro cw w hm
   rw [cv] at hm
   refine tAn rfl (tP rfl (fun w => yF fo_71_1 rfl) (tO (tf0 rfl rfl (fun a hf => e_store1 3 hf hm rfl sizeOf69 rfl rfl rfl (rep_one (hm.ow_rep 5 rfl)) rfl) ?_)))
   rintro _ w hm
   exact tAn rfl (tE (gR (gM rfl (gP (by omega) (by omega) rfl (gA rfl (gE (gZe fun a hf => ⟨cw, hf.sb rfl, hm.pk [1, 2, 3, 4, 5, 6] rfl rfl⟩)))))))
  repeat clear hm
  rintro d2 d3 a w ⟨cx, hf, hm⟩ d4 d5
  refine gv hf (gS (gS (gR (gM rfl (gF fo_71_1 rfl (gL hm 0 isAgg69 rfl ?_))))))
  obtain ⟨d6, d7, rfl, d8⟩ := ro_slice h2
  exact gY (yV st_69 rfl) (gB rfl (gE (go _ 49 rfl (decide_eq_false (by omega)) (gcf rfl (gXt (gHh (gS (gR (gY (yn (hm.blk_at 2 rfl) isAgg71 sizeOf71 rfl) (gSN hm 1 sizeOf71 (one_cons rfl (one_cons (rep_one (hm.ow_rep 4 rfl)) (one_cons rfl (one_cons rfl (one_cons rfl one_nil))))) rfl fun w hm => gE (gRt (grc 1 results75 hm rfl isAgg71 sizeOf71 ⟨(.slice aT aH.length aU), cx, (.slice aF aD.length aG), rfl, hm.pk [3, 4, 5] rfl rfl⟩))))))))))))
theorem spec_l7Copy_ok (w0 : World) (c_ : Code_) (v1 : Value) (h1 : GT.rep (hp w0) [v1] c_.blocks) :
    ConM Try.prog 47 [(.agg #[(nV c_.params), (nV c_.regs), v1])] w0 (spec_l7Copy c_) fun r v w' => ∃ (x1 : Value), v = (.agg #[(nV r.params), (nV r.regs), x1]) ∧ Mem w0 (hp w0) w' [ow [x1] r.blocks] := by
  unfold spec_l7Copy
  refine gcon func47 rfl fun r => ?_
  have hm := Mem.start w0
  refine gS (gR (gBx hm rfl fun aD w hm => gAl hm zeroValue59 rfl fun aE w hm => gE (gS (gR (gF fo_59_0 rfl (gL hm 1 isAgg3 rfl (gF fo_59_1 rfl (gL hm 1 isAgg3 rfl (gY (yG rfl (y_build (vs := [(0, (nV c_.params)), (1, (nV c_.regs))]) (cs := #[(nV c_.params), (nV c_.regs), (.slice none 0 0)]) rfl rfl (by kernel_rfl))) (gAl hm zeroValue59 rfl fun aF w hm => gSN hm 0 sizeOf59 (one_cons rfl (one_cons rfl (one_cons rfl one_nil))) rfl fun w hm => gE (gS (gS (gR (gA rfl (gE (gBk ?_))))))))))))))))
  replace hm := hm.nilow (α := Block_)
  refine gNg (fun aO aC a w => ∃ (aB : Value), St 29 [(1, (pV aD)), (2, (pV aE)), (3, (pV aF)), (4, (nV aO))] w0 (hp w0) [blk aD [(nV c_.params), (nV c_.regs), v1] 59, blk aE [(nV 0), (nV 0), (.slice none 0 0)] 59, blk aF [(nV c_.params), (nV c_.regs), aB] 59, ow [aB] aC] a w) (fun a hf => ⟨(.slice none 0 0), hf.sb rfl, hm.pk [3, 2, 1, 0] rfl rfl⟩) ?_ ?_
  ·
   repeat clear hm
   rintro _ _ aO aC a w ⟨aB, hf, hm⟩ ag ah ai _
   refine gv hf (gS (gS (gR (gM rfl (gF fo_59_2 rfl (gL hm 0 isAgg57 rfl ?_))))))
   obtain ⟨aP, aJ, rfl, aj⟩ := ro_slice h1
   refine gY (yV st_57 rfl) (gB rfl (gE (go _ 14 rfl (decide_eq_true (by omega)) (gct rfl (gSk (gS (gBk (gW (.p 0 (.p 2 (.p 4 (.q 1 (.e 3 (.p 5 (.e 6 (.e 7 (.e 8 (.e 9 (.p 10 (.e 11 .fin .nil)) .nil) .nil) .nil) .nil)) .nil))))) [3, 6, 7, 8] [0, 2, 4, 5, 10] hm [0, 1, 2, 3] [blk aD [(nV c_.params), (nV c_.regs), (.slice aP c_.blocks.length aJ)] 59, blk aE [(nV 0), (nV 0), (.slice none 0 0)] 59, blk aF [(nV c_.params), (nV c_.regs), aB] 59, ow [aB] aC] rfl mxo (by kernel_rfl) (fun _ _ _ h => h.2) fun w hm hS => tP rfl (fun w => yF fo_59_2 rfl) (tP rfl (fun w => yF fo_59_2 rfl) (tP rfl (fun w => yM rfl) (tQ rfl hS (fun w hm => yL hm 2 isAgg57 rfl) (tO (tY rfl (yL hm 0 isAgg57 rfl) (tAs hS (gg fun aQ aR aN => ?_)))))))))))))))
   obtain ⟨aK, aL, ak, he⟩ := idx_form' h1 aN
   obtain ⟨rfl, _, rfl⟩ := sl3 he
   obtain ⟨aS, aT, aU, aV, aW, aX, aY⟩ := rk_Block_ h1 aN
   refine tP rfl (fun w => yI st_57 aR (idx_lt aN) rfl) (tO (tY rfl (yn (aV.mono hm.lez) isAgg71 sizeOf71 rfl) (tAs hS (tO (gb fun aA aZ => tf rfl rfl (fun a hf => e_call hf rfl call75 rfl (spec_l7CopyBlock_ok _ aQ aS (hm.now aW) aT (hm.now aX) aU (hm.now aY) _ aZ)) ?_)))))
   rintro al w ⟨aG, aH, aI, rfl, hB⟩
   replace hm := hm.give hB; clear hB
   refine tAk hm [3, 4, 5, 6] rfl fun hS => tO (tf rfl rfl (fun a hf => e_build (vs := #[(0, (.agg #[aG, aH, (nV aA.jump), (nV aA.on), aI]))]) (cs := [aG, aH, (nV aA.jump), (nV aA.on), aI]) et_57 hf hm rfl rfl (by kernel_rfl) rfl rfl) ?_)
   rintro _ w ⟨aM, rfl, hm⟩
   replace hm := hm.els_nil (α := Block_)
   replace hm := (mk_Block_ aA.jump aA.on hm 2 3 4 rfl).pk (L' := [els [] ([] : List Block_), blk aM [aG, aH, (nV aA.jump), (nV aA.on), aI] 71, ow [aG, aH, (nV aA.jump), (nV aA.on), aI] (aA : Block_), blk aD [(nV c_.params), (nV c_.regs), (sV aK aL c_.blocks.length aJ)] 59, blk aE [(nV 0), (nV 0), (.slice none 0 0)] 59, blk aF [(nV c_.params), (nV c_.regs), aB] 59, ow [aB] aC]) [0, 1, 2, 5, 6, 7, 8] rfl rfl
   replace hm := (hm.els_cons 0 2 (by decide) rfl rfl).pk (L' := [els [aG, aH, (nV aA.jump), (nV aA.on), aI] ([aA] : List Block_), blk aM [aG, aH, (nV aA.jump), (nV aA.on), aI] 71, blk aD [(nV c_.params), (nV c_.regs), (sV aK aL c_.blocks.length aJ)] 59, blk aE [(nV 0), (nV 0), (.slice none 0 0)] 59, blk aF [(nV c_.params), (nV c_.regs), aB] 59, ow [aB] aC]) [0, 1, 3, 4, 5, 6] rfl rfl
   replace hm := (hm.lit_els 1 0 (by decide) rfl rfl rfl rfl).pk (L' := [ow [(sV aM 0 1 1)] ([aA] : List Block_), blk aD [(nV c_.params), (nV c_.regs), (sV aK aL c_.blocks.length aJ)] 59, blk aE [(nV 0), (nV 0), (.slice none 0 0)] 59, blk aF [(nV c_.params), (nV c_.regs), aB] 59, ow [aB] aC]) [1, 2, 3, 4, 5] rfl rfl
   refine tAk hm [1, 2, 3, 4] rfl fun hS => tO (gb fun am aa => ?_)
   obtain ⟨ab, ac⟩ := appM_some.1 aa
   replace hm := (hm.both 4 0 (by decide) rfl rfl).pk (L' := [blk aD [(nV c_.params), (nV c_.regs), (sV aK aL c_.blocks.length aJ)] 59, blk aE [(nV 0), (nV 0), (.slice none 0 0)] 59, blk aF [(nV c_.params), (nV c_.regs), aB] 59, both (ow [aB] aC) (ow [(sV aM 0 1 1)] ([aA] : List Block_))]) [1, 2, 3, 4] rfl rfl
   refine tf rfl rfl (fun a hf => e_appendD (xs := aC) (ys := ([aA] : List Block_)) 3 et_57 hf hm rfl rfl rfl rfl ab) ?_
   rintro ae w hm
   rw [ac] at hm
   refine tAn rfl (tP rfl (fun w => yF fo_59_2 rfl) (tO (tf0 rfl rfl (fun a hf => e_store1 2 hf hm rfl sizeOf57 rfl rfl rfl (rep_one (hm.ow_rep 3 rfl)) rfl) ?_)))
   rintro _ w hm
   exact tAn rfl (tE (gR (gM rfl (gP (by omega) (by omega) rfl (gA rfl (gE (gZe fun a hf => ⟨ae, hf.sb rfl, hm.pk [0, 1, 2, 3] rfl rfl⟩)))))))
  repeat clear hm
  rintro an ao a w ⟨af, hf, hm⟩ aq ar
  refine gv hf (gS (gS (gR (gM rfl (gF fo_59_2 rfl (gL hm 0 isAgg57 rfl ?_))))))
  obtain ⟨au, av, rfl, aw⟩ := ro_slice h1
  exact gY (yV st_57 rfl) (gB rfl (gE (go _ 14 rfl (decide_eq_false (by omega)) (gcf rfl (gXt (gHh (gS (gR (gY (yn (hm.blk_at 2 rfl) isAgg59 sizeOf59 rfl) (gSN hm 1 sizeOf59 (one_cons rfl (one_cons rfl (one_cons (rep_one (hm.ow_rep 3 rfl)) one_nil))) rfl fun w hm => gE (gRt (grc 1 results47 hm rfl isAgg59 sizeOf59 ⟨af, rfl, hm.pk [3] rfl rfl⟩))))))))))))
theorem spec_l7CopyUnit_ok (w0 : World) (u : Unit_) (v1 : Value) (h1 : GT.rep (hp w0) [v1] u.codes) :
    ConM Try.prog 29 [(.agg #[v1])] w0 (spec_l7CopyUnit u) fun r v w' => ∃ (x1 : Value), v = (.agg #[x1]) ∧ Mem w0 (hp w0) w' [ow [x1] r.codes] := by
  unfold spec_l7CopyUnit
  refine gcon func29 rfl fun r => ?_
  have hm := Mem.start w0
  refine gS (gR (gBx hm rfl fun aD w hm => gAl hm zeroValue25 rfl fun aE w hm => gE (gS (gR (gY (yG rfl (y_build (vs := []) (cs := #[(.slice none 0 0)]) rfl rfl (by kernel_rfl))) (gAl hm zeroValue25 rfl fun aF w hm => gSN hm 0 sizeOf25 (one_cons rfl one_nil) rfl fun w hm => gE (gS (gS (gR (gA rfl (gE (gBk ?_))))))))))))
  replace hm := hm.nilow (α := Code_)
  refine gNg (fun aM aC a w => ∃ (aB : Value), St 25 [(1, (pV aD)), (2, (pV aE)), (3, (pV aF)), (4, (nV aM))] w0 (hp w0) [blk aD [v1] 25, blk aE [(.slice none 0 0)] 25, blk aF [aB] 25, ow [aB] aC] a w) (fun a hf => ⟨(.slice none 0 0), hf.sb rfl, hm.pk [3, 2, 1, 0] rfl rfl⟩) ?_ ?_
  ·
   repeat clear hm
   rintro _ _ aM aC a w ⟨aB, hf, hm⟩ aZ aa ab _
   refine gv hf (gS (gS (gR (gM rfl (gF fo_25_0 rfl (gL hm 0 isAgg23 rfl ?_))))))
   obtain ⟨aN, aH, rfl, ac⟩ := ro_slice h1
   refine gY (yV st_23 rfl) (gB rfl (gE (go _ 10 rfl (decide_eq_true (by omega)) (gct rfl (gSk (gS (gBk (gW (.p 0 (.p 2 (.p 4 (.q 1 (.e 3 (.p 5 (.e 6 (.e 7 (.e 8 (.e 9 (.p 10 (.e 11 .fin .nil)) .nil) .nil) .nil) .nil)) .nil))))) [3, 6, 7, 8] [0, 2, 4, 5, 10] hm [0, 1, 2, 3] [blk aD [(.slice aN u.codes.length aH)] 25, blk aE [(.slice none 0 0)] 25, blk aF [aB] 25, ow [aB] aC] rfl mxo (by kernel_rfl) (fun _ _ _ h => h.2) fun w hm hS => tP rfl (fun w => yF fo_25_0 rfl) (tP rfl (fun w => yF fo_25_0 rfl) (tP rfl (fun w => yM rfl) (tQ rfl hS (fun w hm => yL hm 2 isAgg23 rfl) (tO (tY rfl (yL hm 0 isAgg23 rfl) (tAs hS (gg fun aO aP aL => ?_)))))))))))))))
   obtain ⟨aI, aJ, ae, he⟩ := idx_form' h1 aL
   obtain ⟨rfl, _, rfl⟩ := sl3 he
   obtain ⟨aQ, aR, aS⟩ := rk_Code_ h1 aL
   refine tP rfl (fun w => yI st_23 aP (idx_lt aL) rfl) (tO (tY rfl (yn (aR.mono hm.lez) isAgg59 sizeOf59 rfl) (tAs hS (tO (gb fun aA aT => tf rfl rfl (fun a hf => e_call hf rfl call47 rfl (spec_l7Copy_ok _ aO aQ (hm.now aS) _ aT)) ?_)))))
   rintro af w ⟨aG, rfl, hB⟩
   replace hm := hm.give hB; clear hB
   refine tAk hm [1, 2, 3, 4] rfl fun hS => tO (tf rfl rfl (fun a hf => e_build (vs := #[(0, (.agg #[(nV aA.params), (nV aA.regs), aG]))]) (cs := [(nV aA.params), (nV aA.regs), aG]) et_23 hf hm rfl rfl (by kernel_rfl) rfl rfl) ?_)
   rintro _ w ⟨aK, rfl, hm⟩
   replace hm := hm.els_nil (α := Code_)
   replace hm : Mem w0 (hp w0) _ [els [] ([] : List Code_), blk aK [(nV aA.params), (nV aA.regs), aG] 59, ow [(nV aA.params), (nV aA.regs), aG] (aA : Code_), blk aD [(sV aI aJ u.codes.length aH)] 25, blk aE [(.slice none 0 0)] 25, blk aF [aB] 25, ow [aB] aC] := mk_Code_ aA.params aA.regs hm 2 rfl
   replace hm := (hm.els_cons 0 2 (by decide) rfl rfl).pk (L' := [els [(nV aA.params), (nV aA.regs), aG] ([aA] : List Code_), blk aK [(nV aA.params), (nV aA.regs), aG] 59, blk aD [(sV aI aJ u.codes.length aH)] 25, blk aE [(.slice none 0 0)] 25, blk aF [aB] 25, ow [aB] aC]) [0, 1, 3, 4, 5, 6] rfl rfl
   replace hm := (hm.lit_els 1 0 (by decide) rfl rfl rfl rfl).pk (L' := [ow [(sV aK 0 1 1)] ([aA] : List Code_), blk aD [(sV aI aJ u.codes.length aH)] 25, blk aE [(.slice none 0 0)] 25, blk aF [aB] 25, ow [aB] aC]) [1, 2, 3, 4, 5] rfl rfl
   refine tAk hm [1, 2, 3, 4] rfl fun hS => tO (gb fun ag aU => ?_)
   obtain ⟨aV, aW⟩ := appM_some.1 aU
   replace hm := (hm.both 4 0 (by decide) rfl rfl).pk (L' := [blk aD [(sV aI aJ u.codes.length aH)] 25, blk aE [(.slice none 0 0)] 25, blk aF [aB] 25, both (ow [aB] aC) (ow [(sV aK 0 1 1)] ([aA] : List Code_))]) [1, 2, 3, 4] rfl rfl
   refine tf rfl rfl (fun a hf => e_appendD (xs := aC) (ys := ([aA] : List Code_)) 3 et_23 hf hm rfl rfl rfl rfl aV) ?_
   rintro aX w hm
   rw [aW] at hm
   refine tAn rfl (tP rfl (fun w => yF fo_25_0 rfl) (tO (tf0 rfl rfl (fun a hf => e_store1 2 hf hm rfl sizeOf23 rfl rfl rfl (rep_one (hm.ow_rep 3 rfl)) rfl) ?_)))
   rintro _ w hm
   exact tAn rfl (tE (gR (gM rfl (gP (by omega) (by omega) rfl (gA rfl (gE (gZe fun a hf => ⟨aX, hf.sb rfl, hm.pk [0, 1, 2, 3] rfl rfl⟩)))))))
  repeat clear hm
  rintro ah ai a w ⟨aY, hf, hm⟩ aj ak
  refine gv hf (gS (gS (gR (gM rfl (gF fo_25_0 rfl (gL hm 0 isAgg23 rfl ?_))))))
  obtain ⟨al, am, rfl, an⟩ := ro_slice h1
  exact gY (yV st_23 rfl) (gB rfl (gE (go _ 10 rfl (decide_eq_false (by omega)) (gcf rfl (gXt (gHh (gS (gR (gY (yn (hm.blk_at 2 rfl) isAgg25 sizeOf25 rfl) (gSN hm 1 sizeOf25 (one_cons (rep_one (hm.ow_rep 3 rfl)) one_nil) rfl fun w hm => gE (gRt (grc 1 results29 hm rfl isAgg25 sizeOf25 ⟨aY, rfl, hm.pk [3] rfl rfl⟩))))))))))))
theorem spec_l7Bent_ok (w0 : World) (hz : Heap) (r_ : l30Rd) (bp0 : Nat) (v1p : Value) (h1p : GT.rep hz [v1p] r_.b) (hm0 : Mem w0 hz w0 [blk bp0 [v1p, (nV r_.p)] 62]) :
    ConM Try.prog 14 [(pV bp0)] w0 (spec_l7Bent r_) fun r v w' => ∃ (x1 : Value), v = (.agg #[x1]) ∧ Mem w0 hz w' [blk bp0 [v1p, (nV r.2.p)] 62, ow [x1] r.1.codes] := by
  unfold spec_l7Bent
  refine gcon func14 rfl fun r => ?_
  have hm := hm0
  refine gS (gR (gAl hm zeroValue25 rfl fun aJ w hm => gE (gS (gR (gM rfl ?_)))))
  obtain ⟨bh, hle, hm1, hsub, bi⟩ := hm.take2 (L1 := [blk bp0 [v1p, (nV r_.p)] 62]) (L2 := [blk aJ [(.slice none 0 0)] 25]) [1] [0] (by decide) rfl rfl
  refine gCg rfl call12 (spec_l7Unit_ok _ bh r_ bp0 v1p (GT.mono hle h1p) hm1 ) ?_
  rintro aM cf cg w ⟨aN, rfl, hB⟩
  replace hm := bi _ _ hB; clear hB
  refine gCg rfl call29 (spec_l7CopyUnit_ok _ aM.1 aN (hm.ow_rep 1 rfl)) ?_
  rintro aC ci cj w ⟨bV, rfl, hB⟩
  replace hm := hm.give hB; clear hB
  refine gAl hm zeroValue25 rfl fun aK w hm => gSN hm 0 sizeOf25 (one_cons (rep_one (hm.ow_rep 1 rfl)) one_nil) rfl fun w hm => gE (gS (gW (.p 0 (.p 2 (.p 3 (.q 1 (.e 4 (.p 5 (.e 6 (.p 7 (.p 8 .fin)) .nil)) .nil))))) [4, 6] [0, 2, 3, 5, 7, 8] hm [0, 1, 3, 4] [blk aK [bV] 25, ow [bV] aC.codes, ow [aN] aM.1.codes, blk aJ [(.slice none 0 0)] 25] rfl mxo (by kernel_rfl) (fun _ _ _ h => h.2) fun w hm hS => tP rfl (fun w => yF fo_25_0 rfl) (tP rfl (fun w => yM rfl) (tP rfl (fun w => yF fo_25_0 rfl) (tQ rfl hS (fun w hm => yL hm 0 isAgg23 rfl) (tO (tY rfl (yL hm 0 isAgg23 rfl) (tAs hS ?_))))))))
  obtain ⟨bW, aD, rfl, ck⟩ := ro_slice (hm.ow_rep 1 rfl)
  refine tP rfl (fun w => yV st_23 rfl) (tO (gb fun aO bj => ?_))
  obtain ⟨bk, hle, hm1, hsub, bm⟩ := hm.take2 (L1 := [blk bp0 [v1p, (nV aM.2.p)] 62]) (L2 := [blk aK [(.slice bW aC.codes.length aD)] 25, ow [(.slice bW aC.codes.length aD)] aC.codes, ow [aN] aM.1.codes, blk aJ [(.slice none 0 0)] 25]) [2] [0, 1, 3, 4] (by decide) rfl rfl
  refine tf rfl rfl (fun a hf => e_call hf rfl call13 rfl (pspec_l30Rd__pick_ok _ bk (⟨r_.b, aM.2.p⟩ : l30Rd) bp0 v1p (GT.mono hle h1p) (aC.codes.length : Int) hm1  _ bj)) ?_
  rintro cl w ⟨rfl, hB⟩
  replace hm := bm _ _ hB; clear hB
  refine tAk hm [1, 2, 3, 4] rfl fun hS => gg fun aA bo ab => ?_
  obtain ⟨aE, aF, cm, he⟩ := idx_form' (hm.ow_rep 2 rfl) ab
  obtain ⟨rfl, _, rfl⟩ := sl3 he
  obtain ⟨cn, co, cq⟩ := rk_Code_ (hm.ow_rep 2 rfl) ab
  refine tP rfl (fun w => yI st_23 bo (idx_lt ab) rfl) (tP rfl (fun w => yA rfl) (tE ?_))
  obtain ⟨bX, hm⟩ := pin_Code_ hm 2 rfl ab
  refine gS (gW (.p 0 (.p 1 (.p 2 (.p 4 (.p 5 (.p 6 (.p 7 (.q 3 (.e 8 (.p 9 (.e 10 (.p 11 (.p 12 .fin)) .nil)) .nil))))))))) [8, 10] [0, 1, 2, 4, 5, 6, 7, 9, 11, 12] hm [0, 2, 3, 4, 5] [ow [bX] aA.blocks, blk aK [(sV aE aF aC.codes.length aD)] 25, holeE aE aF aC.codes.length aD (aC.codes : List Code_) (aO.1).toNat [(nV aA.params), (nV aA.regs), bX], ow [aN] aM.1.codes, blk aJ [(.slice none 0 0)] 25] rfl mxo (by kernel_rfl) (fun _ _ _ h => h.2) fun w hm hS => tP rfl (fun w => yM rfl) (tP rfl (fun w => yG rfl (y_nilptr rfl rfl)) (tP rfl (fun w => yF fo_59_2 rfl) (tP rfl (fun w => yM rfl) (tP rfl (fun w => yM rfl) (tP rfl (fun w => yG rfl (y_nilptr rfl rfl)) (tP rfl (fun w => yF fo_59_2 rfl) (tQ rfl hS (fun w hm => yl isAgg57 ((hm.holeE_at 2 rfl).cell (j := 2) rfl) rfl) (tO (tY rfl (yl isAgg57 ((hm.holeE_at 3 rfl).cell (j := 2) rfl) rfl) (tAs hS ?_)))))))))))
  obtain ⟨bY, aG, rfl, cr⟩ := ro_slice (hm.ow_rep 0 rfl)
  refine tP rfl (fun w => yV st_57 rfl) (tO (gb fun aP bp => ?_))
  obtain ⟨bq, hle, hm1, hsub, br⟩ := hm.take2 (L1 := [blk bp0 [v1p, (nV aO.2.p)] 62]) (L2 := [ow [(.slice bY aA.blocks.length aG)] aA.blocks, blk aK [(sV aE aF aC.codes.length aD)] 25, holeE aE aF aC.codes.length aD (aC.codes : List Code_) (aO.1).toNat [(nV aA.params), (nV aA.regs), (.slice bY aA.blocks.length aG)], ow [aN] aM.1.codes, blk aJ [(.slice none 0 0)] 25]) [1] [0, 2, 3, 4, 5] (by decide) rfl rfl
  refine tf rfl rfl (fun a hf => e_call hf rfl call13 rfl (pspec_l30Rd__pick_ok _ bq (⟨r_.b, aO.2.p⟩ : l30Rd) bp0 v1p (GT.mono hle h1p) (aA.blocks.length : Int) hm1  _ bp)) ?_
  rintro ct w ⟨rfl, hB⟩
  replace hm := br _ _ hB; clear hB
  refine tAk hm [1, 2, 3, 4, 5] rfl fun hS => gg fun aB bt ac => ?_
  obtain ⟨aH, aI, cu, he⟩ := idx_form' (hm.ow_rep 1 rfl) ac
  obtain ⟨rfl, _, rfl⟩ := sl3 he
  obtain ⟨cv, cw, cx, cy, cz, dA, dB⟩ := rk_Block_ (hm.ow_rep 1 rfl) ac
  refine tP rfl (fun w => yI st_57 bt (idx_lt ac) rfl) (tP rfl (fun w => yA rfl) (tE ?_))
  obtain ⟨aT, aW, aU, hm⟩ := pin_Block_ hm 1 rfl ac
  refine gS (gW (.p 0 (.p 1 (.p 2 (.p 3 (.p 5 (.p 6 (.p 7 (.q 4 (.e 8 (.p 9 (.e 10 (.e 11 (.p 12 .fin) .nil) .nil)) .nil))))))))) [8] [0, 1, 2, 3, 5, 6, 7, 9, 12] hm [0, 1, 2, 3, 4, 5, 6, 7, 8] [ow [aU] aB.next_, ow [aW] aB.ins, ow [aT] aB.phis, blk bp0 [v1p, (nV aP.2.p)] 62, holeE aH aI aA.blocks.length aG (aA.blocks : List Block_) (aP.1).toNat [aT, aW, (nV aB.jump), (nV aB.on), aU], blk aK [(sV aE aF aC.codes.length aD)] 25, holeE aE aF aC.codes.length aD (aC.codes : List Code_) (aO.1).toNat [(nV aA.params), (nV aA.regs), (sV aH aI aA.blocks.length aG)], ow [aN] aM.1.codes, blk aJ [(.slice none 0 0)] 25] rfl mxo (by kernel_rfl) (fun _ _ _ h => h.2) fun w hm hS => tP rfl (fun w => yM rfl) (tP rfl (fun w => yM rfl) (tP rfl (fun w => yG rfl (y_nilptr rfl rfl)) (tP rfl (fun w => yF fo_59_1 rfl) (tP rfl (fun w => yM rfl) (tP rfl (fun w => yG rfl (y_nilptr rfl rfl)) (tP rfl (fun w => yF fo_59_2 rfl) (tQ rfl hS (fun w hm => yl isAgg3 ((hm.holeE_at 6 rfl).cell (j := 1) rfl) rfl) (tO (tY rfl (yl isAgg57 ((hm.holeE_at 6 rfl).cell (j := 2) rfl) rfl) (tAs hS (tP rfl (fun w => yV st_57 rfl) (tO (tf rfl rfl (fun a hf => e_build (vs := #[(0, (nV (-1))), (1, (nV aA.regs)), (2, (nV ((aA.blocks.length : Int)))), (3, (nV 0)), (4, (nV 1))]) (cs := [(nV (-1)), (nV aA.regs), (nV ((aA.blocks.length : Int))), (nV 0), (nV 1)]) et_26 hf hm rfl rfl (by kernel_rfl) rfl rfl) ?_))))))))))))))
  rintro _ w ⟨aQ, rfl, hm⟩
  replace hm := hm.lit (xs := ([-1, aA.regs, (aA.blocks.length : Int), 0, 1] : List Int)) 0 rfl rfl rfl rfl
  refine tAn rfl (tO (gb fun aS bu => ?_))
  obtain ⟨bv, hle, hm1, hsub, bw⟩ := hm.take2 (L1 := [blk bp0 [v1p, (nV aP.2.p)] 62]) (L2 := [ow [(sV aQ 0 5 5)] ([-1, aA.regs, (aA.blocks.length : Int), 0, 1] : List Int), ow [aU] aB.next_, ow [aW] aB.ins, ow [aT] aB.phis, holeE aH aI aA.blocks.length aG (aA.blocks : List Block_) (aP.1).toNat [aT, aW, (nV aB.jump), (nV aB.on), aU], blk aK [(sV aE aF aC.codes.length aD)] 25, holeE aE aF aC.codes.length aD (aC.codes : List Code_) (aO.1).toNat [(nV aA.params), (nV aA.regs), (sV aH aI aA.blocks.length aG)], ow [aN] aM.1.codes, blk aJ [(.slice none 0 0)] 25]) [4] [0, 1, 2, 3, 5, 6, 7, 8, 9] (by decide) rfl rfl
  refine tf rfl rfl (fun a hf => e_call hf rfl call16 rfl (pspec_l30Rd__num_ok _ bv (⟨r_.b, aP.2.p⟩ : l30Rd) bp0 v1p (GT.mono hle h1p) ([-1, aA.regs, (aA.blocks.length : Int), 0, 1] : List Int) (sV aQ 0 5 5) (fz_ow (hsub 0 _ rfl)) hm1  _ bu)) ?_
  rintro dC w ⟨rfl, hB⟩
  replace hm := bw _ _ hB; clear hB
  refine tAn rfl (tP rfl (fun w => yA rfl) (tE (gS (gS (gR (gM rfl ?_))))))
  obtain ⟨bx, hle, hm1, hsub, bz⟩ := hm.take2 (L1 := [blk bp0 [v1p, (nV aS.2.p)] 62]) (L2 := [ow [(sV aQ 0 5 5)] ([-1, aA.regs, (aA.blocks.length : Int), 0, 1] : List Int), ow [aU] aB.next_, ow [aW] aB.ins, ow [aT] aB.phis, holeE aH aI aA.blocks.length aG (aA.blocks : List Block_) (aP.1).toNat [aT, aW, (nV aB.jump), (nV aB.on), aU], blk aK [(sV aE aF aC.codes.length aD)] 25, holeE aE aF aC.codes.length aD (aC.codes : List Code_) (aO.1).toNat [(nV aA.params), (nV aA.regs), (sV aH aI aA.blocks.length aG)], ow [aN] aM.1.codes, blk aJ [(.slice none 0 0)] 25]) [0] [1, 2, 3, 4, 5, 6, 7, 8, 9] (by decide) rfl rfl
  refine gCg rfl call13 (pspec_l30Rd__pick_ok _ bx (⟨r_.b, aS.2.p⟩ : l30Rd) bp0 v1p (GT.mono hle h1p) 32 hm1 ) ?_
  rintro aR dD dE w ⟨rfl, hB⟩
  replace hm := bz _ _ hB; clear hB
  refine gE (gJ hm (fun aw => [(2, (pV aJ)), (3, (pV aK))]) (fun aw => [blk aJ [(.slice none 0 0)] 25, blk aK [(sV aE aF aC.codes.length aD)] 25, ow [(sV aE aF aC.codes.length aD)] aw.1, blk bp0 [v1p, (nV aw.2)] 62]) (fun aw => ?_) ?_)
  ·
   refine gBk (gS (gR (gB rfl (gA rfl (gE (gJ hm (fun ax => [(2, (pV aJ)), (3, (pV aK))]) (fun ax => [blk aJ [(.slice none 0 0)] 25, blk aK [(sV aE aF aC.codes.length aD)] 25, ow [(sV aE aF aC.codes.length aD)] ax.1, blk bp0 [v1p, (nV ax.2)] 62]) (fun ax => ?_) ?_))))))
   ·
    refine gsd 44 rfl (fun cA => ?_) fun cA => ?_
    ·
     refine gct rfl (gR (gM rfl (gM rfl ?_)))
     obtain ⟨cB, hle, hm1, hsub, cC⟩ := hm.take2 (L1 := [blk bp0 [v1p, (nV aR.2.p)] 62]) (L2 := [ow [(sV aQ 0 5 5)] ([-1, aA.regs, (aA.blocks.length : Int), 0, 1] : List Int), ow [aU] aB.next_, ow [aW] aB.ins, ow [aT] aB.phis, holeE aH aI aA.blocks.length aG (aA.blocks : List Block_) (aP.1).toNat [aT, aW, (nV aB.jump), (nV aB.on), aU], blk aK [(sV aE aF aC.codes.length aD)] 25, holeE aE aF aC.codes.length aD (aC.codes : List Code_) (aO.1).toNat [(nV aA.params), (nV aA.regs), (sV aH aI aA.blocks.length aG)], ow [aN] aM.1.codes, blk aJ [(.slice none 0 0)] 25]) [0] [1, 2, 3, 4, 5, 6, 7, 8, 9] (by decide) rfl rfl
     refine gCg rfl call13 (pspec_l30Rd__pick_ok _ cB (⟨r_.b, aR.2.p⟩ : l30Rd) bp0 v1p (GT.mono hle h1p) 5 hm1 ) ?_
     rintro aZ dF dG w ⟨rfl, hB⟩
     replace hm := cC _ _ hB; clear hB
     refine gY (yG rfl (y_nilptr rfl rfl)) (gF fo_71_2 rfl ?_)
     have cD : ∀ u ∈ ([(nV aZ.1)] : List Value), u.oneCell' = true := (one_cons rfl one_nil)
     refine gf0 rfl (fun a hf => e_storeH (j := 2) (vs := [(nV aZ.1)]) 5 hf hm rfl rfl rfl sizeOf3 rfl rfl rfl cD rfl) ?_
     rintro _ w hm
     replace hm : Mem w0 hz _ [blk bp0 [v1p, (nV aZ.2.p)] 62, ow [(sV aQ 0 5 5)] ([-1, aA.regs, (aA.blocks.length : Int), 0, 1] : List Int), ow [aU] aB.next_, ow [aW] aB.ins, ow [aT] aB.phis, holeE aH aI aA.blocks.length aG (aA.blocks : List Block_) (aP.1).toNat [aT, aW, (nV aZ.1), (nV aB.on), aU], blk aK [(sV aE aF aC.codes.length aD)] 25, holeE aE aF aC.codes.length aD (aC.codes : List Code_) (aO.1).toNat [(nV aA.params), (nV aA.regs), (sV aH aI aA.blocks.length aG)], ow [aN] aM.1.codes, blk aJ [(.slice none 0 0)] 25] := hm
     refine gE ?_
     replace hm := (mk_Block_ aZ.1 aB.on hm 4 3 2 rfl).pk (L' := [blk bp0 [v1p, (nV aZ.2.p)] 62, ow [(sV aQ 0 5 5)] ([-1, aA.regs, (aA.blocks.length : Int), 0, 1] : List Int), ow [aT, aW, (nV aZ.1), (nV aB.on), aU] ((⟨aB.phis, aB.ins, aZ.1, aB.on, aB.next_⟩ : Block_) : Block_), holeE aH aI aA.blocks.length aG (aA.blocks : List Block_) (aP.1).toNat [aT, aW, (nV aZ.1), (nV aB.on), aU], blk aK [(sV aE aF aC.codes.length aD)] 25, holeE aE aF aC.codes.length aD (aC.codes : List Code_) (aO.1).toNat [(nV aA.params), (nV aA.regs), (sV aH aI aA.blocks.length aG)], ow [aN] aM.1.codes, blk aJ [(.slice none 0 0)] 25]) [0, 1, 4, 5, 6, 7, 8, 9] rfl rfl
     replace hm := (hm.shutE (y := ((⟨aB.phis, aB.ins, aZ.1, aB.on, aB.next_⟩ : Block_) : Block_)) 3 2 (by decide) rfl rfl).pk (L' := [blk bp0 [v1p, (nV aZ.2.p)] 62, ow [(sV aQ 0 5 5)] ([-1, aA.regs, (aA.blocks.length : Int), 0, 1] : List Int), ow [(sV aH aI aA.blocks.length aG)] (aA.blocks.set (aP.1).toNat (⟨aB.phis, aB.ins, aZ.1, aB.on, aB.next_⟩ : Block_)), blk aK [(sV aE aF aC.codes.length aD)] 25, holeE aE aF aC.codes.length aD (aC.codes : List Code_) (aO.1).toNat [(nV aA.params), (nV aA.regs), (sV aH aI aA.blocks.length aG)], ow [aN] aM.1.codes, blk aJ [(.slice none 0 0)] 25]) [0, 1, 3, 4, 5, 6, 7] rfl rfl
     have dH := List.getElem?_set_self (a := ((⟨aB.phis, aB.ins, aZ.1, aB.on, aB.next_⟩ : Block_) : Block_)) (idx_lt ac)
     replace hm : Mem w0 hz _ [blk bp0 [v1p, (nV aZ.2.p)] 62, ow [(sV aQ 0 5 5)] ([-1, aA.regs, (aA.blocks.length : Int), 0, 1] : List Int), ow [(nV aA.params), (nV aA.regs), (sV aH aI aA.blocks.length aG)] ((⟨aA.params, aA.regs, (aA.blocks.set (aP.1).toNat (⟨aB.phis, aB.ins, aZ.1, aB.on, aB.next_⟩ : Block_))⟩ : Code_) : Code_), blk aK [(sV aE aF aC.codes.length aD)] 25, holeE aE aF aC.codes.length aD (aC.codes : List Code_) (aO.1).toNat [(nV aA.params), (nV aA.regs), (sV aH aI aA.blocks.length aG)], ow [aN] aM.1.codes, blk aJ [(.slice none 0 0)] 25] := mk_Code_ aA.params aA.regs hm 2 rfl
     replace hm := (hm.shutE (y := ((⟨aA.params, aA.regs, (aA.blocks.set (aP.1).toNat (⟨aB.phis, aB.ins, aZ.1, aB.on, aB.next_⟩ : Block_))⟩ : Code_) : Code_)) 4 2 (by decide) rfl rfl).pk (L' := [blk bp0 [v1p, (nV aZ.2.p)] 62, ow [(sV aQ 0 5 5)] ([-1, aA.regs, (aA.blocks.length : Int), 0, 1] : List Int), blk aK [(sV aE aF aC.codes.length aD)] 25, ow [(sV aE aF aC.codes.length aD)] (aC.codes.set (aO.1).toNat (⟨aA.params, aA.regs, (aA.blocks.set (aP.1).toNat (⟨aB.phis, aB.ins, aZ.1, aB.on, aB.next_⟩ : Block_))⟩ : Code_)), ow [aN] aM.1.codes, blk aJ [(.slice none 0 0)] 25]) [0, 1, 3, 4, 5, 6] rfl rfl
     have dI := List.getElem?_set_self (a := ((⟨aA.params, aA.regs, (aA.blocks.set (aP.1).toNat (⟨aB.phis, aB.ins, aZ.1, aB.on, aB.next_⟩ : Block_))⟩ : Code_) : Code_)) (idx_lt ab)
     exact gz hm [5, 2, 3, 0] rfl
    refine gcf rfl (gS (gR (gB rfl (gA rfl (gE (gJ hm (fun ay => [(2, (pV aJ)), (3, (pV aK))]) (fun ay => [blk aJ [(.slice none 0 0)] 25, blk aK [(sV aE aF aC.codes.length aD)] 25, ow [(sV aE aF aC.codes.length aD)] ay.1, blk bp0 [v1p, (nV ay.2)] 62]) (fun ay => ?_) ?_))))))
    ·
     refine gsd 51 rfl (fun cE => ?_) fun cE => ?_
     ·
      refine gct rfl (gS (gR (gM rfl (gY (yG rfl (y_nilptr rfl rfl)) (gF fo_71_4 rfl (gY (yl isAgg26 ((hm.holeE_at 5 rfl).cell (j := 4) rfl) rfl) ?_))))))
      obtain ⟨bZ, bK, rfl, dJ⟩ := ro_slice (hm.ow_rep 2 rfl)
      refine gY (yV st_26 rfl) (gB rfl (gE (gJ hm (fun bL => [(2, (pV aJ)), (3, (pV aK))]) (fun bL => [blk aJ [(.slice none 0 0)] 25, blk aK [(sV aE aF aC.codes.length aD)] 25, ow [(sV aE aF aC.codes.length aD)] bL, blk bp0 [v1p, (nV aR.2.p)] 62]) (fun bL => ?_) ?_)))
      ·
       refine gsd 58 rfl (fun cF => ?_) fun cF => ?_
       ·
        refine gct rfl (gR (gM rfl (gY (yG rfl (y_nilptr rfl rfl)) (gF fo_71_4 rfl (gY (yl isAgg26 ((hm.holeE_at 5 rfl).cell (j := 4) rfl) rfl) (gM rfl (gg fun dK cG bM => ?_)))))))
        obtain ⟨b5, b6, dL, he⟩ := idx_form (hm.ow_rep 2 rfl) bM
        obtain ⟨rfl, _, rfl⟩ := sl3 he
        refine gI st_26 cG (idx_lt bM) rfl (gf0 rfl (fun a hf => e_setElem (x1 := aS.1) (j := 0) (vs := [(nV aS.1)]) 2 hf hm rfl bM rfl sizeOf3 rfl rfl rfl (one_cons rfl one_nil) rfl rfl) ?_)
        rintro _ w hm
        have dM := List.getElem?_set_self (a := aS.1) (idx_lt bM)
        refine gE ?_
        replace hm := (mk_Block_ aB.jump aB.on hm 4 3 2 rfl).pk (L' := [blk bp0 [v1p, (nV aR.2.p)] 62, ow [(sV aQ 0 5 5)] ([-1, aA.regs, (aA.blocks.length : Int), 0, 1] : List Int), ow [aT, aW, (nV aB.jump), (nV aB.on), (sV b5 b6 aB.next_.length bK)] ((⟨aB.phis, aB.ins, aB.jump, aB.on, (aB.next_.set (0 : Int).toNat aS.1)⟩ : Block_) : Block_), holeE aH aI aA.blocks.length aG (aA.blocks : List Block_) (aP.1).toNat [aT, aW, (nV aB.jump), (nV aB.on), (sV b5 b6 aB.next_.length bK)], blk aK [(sV aE aF aC.codes.length aD)] 25, holeE aE aF aC.codes.length aD (aC.codes : List Code_) (aO.1).toNat [(nV aA.params), (nV aA.regs), (sV aH aI aA.blocks.length aG)], ow [aN] aM.1.codes, blk aJ [(.slice none 0 0)] 25]) [0, 1, 4, 5, 6, 7, 8, 9] rfl rfl
        replace hm := (hm.shutE (y := ((⟨aB.phis, aB.ins, aB.jump, aB.on, (aB.next_.set (0 : Int).toNat aS.1)⟩ : Block_) : Block_)) 3 2 (by decide) rfl rfl).pk (L' := [blk bp0 [v1p, (nV aR.2.p)] 62, ow [(sV aQ 0 5 5)] ([-1, aA.regs, (aA.blocks.length : Int), 0, 1] : List Int), ow [(sV aH aI aA.blocks.length aG)] (aA.blocks.set (aP.1).toNat (⟨aB.phis, aB.ins, aB.jump, aB.on, (aB.next_.set (0 : Int).toNat aS.1)⟩ : Block_)), blk aK [(sV aE aF aC.codes.length aD)] 25, holeE aE aF aC.codes.length aD (aC.codes : List Code_) (aO.1).toNat [(nV aA.params), (nV aA.regs), (sV aH aI aA.blocks.length aG)], ow [aN] aM.1.codes, blk aJ [(.slice none 0 0)] 25]) [0, 1, 3, 4, 5, 6, 7] rfl rfl
        have dN := List.getElem?_set_self (a := ((⟨aB.phis, aB.ins, aB.jump, aB.on, (aB.next_.set (0 : Int).toNat aS.1)⟩ : Block_) : Block_)) (idx_lt ac)
        replace hm : Mem w0 hz _ [blk bp0 [v1p, (nV aR.2.p)] 62, ow [(sV aQ 0 5 5)] ([-1, aA.regs, (aA.blocks.length : Int), 0, 1] : List Int), ow [(nV aA.params), (nV aA.regs), (sV aH aI aA.blocks.length aG)] ((⟨aA.params, aA.regs, (aA.blocks.set (aP.1).toNat (⟨aB.phis, aB.ins, aB.jump, aB.on, (aB.next_.set (0 : Int).toNat aS.1)⟩ : Block_))⟩ : Code_) : Code_), blk aK [(sV aE aF aC.codes.length aD)] 25, holeE aE aF aC.codes.length aD (aC.codes : List Code_) (aO.1).toNat [(nV aA.params), (nV aA.regs), (sV aH aI aA.blocks.length aG)], ow [aN] aM.1.codes, blk aJ [(.slice none 0 0)] 25] := mk_Code_ aA.params aA.regs hm 2 rfl
        replace hm := (hm.shutE (y := ((⟨aA.params, aA.regs, (aA.blocks.set (aP.1).toNat (⟨aB.phis, aB.ins, aB.jump, aB.on, (aB.next_.set (0 : Int).toNat aS.1)⟩ : Block_))⟩ : Code_) : Code_)) 4 2 (by decide) rfl rfl).pk (L' := [blk bp0 [v1p, (nV aR.2.p)] 62, ow [(sV aQ 0 5 5)] ([-1, aA.regs, (aA.blocks.length : Int), 0, 1] : List Int), blk aK [(sV aE aF aC.codes.length aD)] 25, ow [(sV aE aF aC.codes.length aD)] (aC.codes.set (aO.1).toNat (⟨aA.params, aA.regs, (aA.blocks.set (aP.1).toNat (⟨aB.phis, aB.ins, aB.jump, aB.on, (aB.next_.set (0 : Int).toNat aS.1)⟩ : Block_))⟩ : Code_)), ow [aN] aM.1.codes, blk aJ [(.slice none 0 0)] 25]) [0, 1, 3, 4, 5, 6] rfl rfl
        have dO := List.getElem?_set_self (a := ((⟨aA.params, aA.regs, (aA.blocks.set (aP.1).toNat (⟨aB.phis, aB.ins, aB.jump, aB.on, (aB.next_.set (0 : Int).toNat aS.1)⟩ : Block_))⟩ : Code_) : Code_)) (idx_lt ab)
        exact gz hm [5, 2, 3, 0] rfl
       refine gcf rfl (gSk ?_)
       replace hm := (mk_Block_ aB.jump aB.on hm 4 3 2 rfl).pk (L' := [blk bp0 [v1p, (nV aR.2.p)] 62, ow [(sV aQ 0 5 5)] ([-1, aA.regs, (aA.blocks.length : Int), 0, 1] : List Int), ow [aT, aW, (nV aB.jump), (nV aB.on), (.slice bZ aB.next_.length bK)] (aB : Block_), holeE aH aI aA.blocks.length aG (aA.blocks : List Block_) (aP.1).toNat [aT, aW, (nV aB.jump), (nV aB.on), (.slice bZ aB.next_.length bK)], blk aK [(sV aE aF aC.codes.length aD)] 25, holeE aE aF aC.codes.length aD (aC.codes : List Code_) (aO.1).toNat [(nV aA.params), (nV aA.regs), (sV aH aI aA.blocks.length aG)], ow [aN] aM.1.codes, blk aJ [(.slice none 0 0)] 25]) [0, 1, 4, 5, 6, 7, 8, 9] rfl rfl
       replace hm := (hm.shutE (y := (aB : Block_)) 3 2 (by decide) rfl rfl).pk (L' := [blk bp0 [v1p, (nV aR.2.p)] 62, ow [(sV aQ 0 5 5)] ([-1, aA.regs, (aA.blocks.length : Int), 0, 1] : List Int), ow [(sV aH aI aA.blocks.length aG)] (aA.blocks.set (aP.1).toNat aB), blk aK [(sV aE aF aC.codes.length aD)] 25, holeE aE aF aC.codes.length aD (aC.codes : List Code_) (aO.1).toNat [(nV aA.params), (nV aA.regs), (sV aH aI aA.blocks.length aG)], ow [aN] aM.1.codes, blk aJ [(.slice none 0 0)] 25]) [0, 1, 3, 4, 5, 6, 7] rfl rfl
       rw [set_same ac] at hm
       replace hm : Mem w0 hz _ [blk bp0 [v1p, (nV aR.2.p)] 62, ow [(sV aQ 0 5 5)] ([-1, aA.regs, (aA.blocks.length : Int), 0, 1] : List Int), ow [(nV aA.params), (nV aA.regs), (sV aH aI aA.blocks.length aG)] (aA : Code_), blk aK [(sV aE aF aC.codes.length aD)] 25, holeE aE aF aC.codes.length aD (aC.codes : List Code_) (aO.1).toNat [(nV aA.params), (nV aA.regs), (sV aH aI aA.blocks.length aG)], ow [aN] aM.1.codes, blk aJ [(.slice none 0 0)] 25] := mk_Code_ aA.params aA.regs hm 2 rfl
       replace hm := (hm.shutE (y := (aA : Code_)) 4 2 (by decide) rfl rfl).pk (L' := [blk bp0 [v1p, (nV aR.2.p)] 62, ow [(sV aQ 0 5 5)] ([-1, aA.regs, (aA.blocks.length : Int), 0, 1] : List Int), blk aK [(sV aE aF aC.codes.length aD)] 25, ow [(sV aE aF aC.codes.length aD)] (aC.codes.set (aO.1).toNat aA), ow [aN] aM.1.codes, blk aJ [(.slice none 0 0)] 25]) [0, 1, 3, 4, 5, 6] rfl rfl
       rw [set_same ab] at hm
       exact gz hm [5, 2, 3, 0] rfl
      repeat clear hm
      intro bL w hm
      exact gz hm [0, 1, 2, 3] rfl
     refine gcf rfl (gS (gR (gB rfl (gA rfl (gE (gJ hm (fun az => [(2, (pV aJ)), (3, (pV aK))]) (fun az => [blk aJ [(.slice none 0 0)] 25, blk aK [(sV aE aF aC.codes.length aD)] 25, ow [(sV aE aF aC.codes.length aD)] az.1, blk bp0 [v1p, (nV az.2)] 62]) (fun az => ?_) ?_))))))
     ·
      refine gsd 65 rfl (fun cH => ?_) fun cH => ?_
      ·
       refine gct rfl (gR (gM rfl (gM rfl (gY (yG rfl (y_nilptr rfl rfl)) (gF fo_71_3 rfl ?_)))))
       have cI : ∀ u ∈ ([(nV aS.1)] : List Value), u.oneCell' = true := (one_cons rfl one_nil)
       refine gf0 rfl (fun a hf => e_storeH (j := 3) (vs := [(nV aS.1)]) 5 hf hm rfl rfl rfl sizeOf3 rfl rfl rfl cI rfl) ?_
       rintro _ w hm
       replace hm : Mem w0 hz _ [blk bp0 [v1p, (nV aR.2.p)] 62, ow [(sV aQ 0 5 5)] ([-1, aA.regs, (aA.blocks.length : Int), 0, 1] : List Int), ow [aU] aB.next_, ow [aW] aB.ins, ow [aT] aB.phis, holeE aH aI aA.blocks.length aG (aA.blocks : List Block_) (aP.1).toNat [aT, aW, (nV aB.jump), (nV aS.1), aU], blk aK [(sV aE aF aC.codes.length aD)] 25, holeE aE aF aC.codes.length aD (aC.codes : List Code_) (aO.1).toNat [(nV aA.params), (nV aA.regs), (sV aH aI aA.blocks.length aG)], ow [aN] aM.1.codes, blk aJ [(.slice none 0 0)] 25] := hm
       refine gE ?_
       replace hm := (mk_Block_ aB.jump aS.1 hm 4 3 2 rfl).pk (L' := [blk bp0 [v1p, (nV aR.2.p)] 62, ow [(sV aQ 0 5 5)] ([-1, aA.regs, (aA.blocks.length : Int), 0, 1] : List Int), ow [aT, aW, (nV aB.jump), (nV aS.1), aU] ((⟨aB.phis, aB.ins, aB.jump, aS.1, aB.next_⟩ : Block_) : Block_), holeE aH aI aA.blocks.length aG (aA.blocks : List Block_) (aP.1).toNat [aT, aW, (nV aB.jump), (nV aS.1), aU], blk aK [(sV aE aF aC.codes.length aD)] 25, holeE aE aF aC.codes.length aD (aC.codes : List Code_) (aO.1).toNat [(nV aA.params), (nV aA.regs), (sV aH aI aA.blocks.length aG)], ow [aN] aM.1.codes, blk aJ [(.slice none 0 0)] 25]) [0, 1, 4, 5, 6, 7, 8, 9] rfl rfl
       replace hm := (hm.shutE (y := ((⟨aB.phis, aB.ins, aB.jump, aS.1, aB.next_⟩ : Block_) : Block_)) 3 2 (by decide) rfl rfl).pk (L' := [blk bp0 [v1p, (nV aR.2.p)] 62, ow [(sV aQ 0 5 5)] ([-1, aA.regs, (aA.blocks.length : Int), 0, 1] : List Int), ow [(sV aH aI aA.blocks.length aG)] (aA.blocks.set (aP.1).toNat (⟨aB.phis, aB.ins, aB.jump, aS.1, aB.next_⟩ : Block_)), blk aK [(sV aE aF aC.codes.length aD)] 25, holeE aE aF aC.codes.length aD (aC.codes : List Code_) (aO.1).toNat [(nV aA.params), (nV aA.regs), (sV aH aI aA.blocks.length aG)], ow [aN] aM.1.codes, blk aJ [(.slice none 0 0)] 25]) [0, 1, 3, 4, 5, 6, 7] rfl rfl
       have dP := List.getElem?_set_self (a := ((⟨aB.phis, aB.ins, aB.jump, aS.1, aB.next_⟩ : Block_) : Block_)) (idx_lt ac)
       replace hm : Mem w0 hz _ [blk bp0 [v1p, (nV aR.2.p)] 62, ow [(sV aQ 0 5 5)] ([-1, aA.regs, (aA.blocks.length : Int), 0, 1] : List Int), ow [(nV aA.params), (nV aA.regs), (sV aH aI aA.blocks.length aG)] ((⟨aA.params, aA.regs, (aA.blocks.set (aP.1).toNat (⟨aB.phis, aB.ins, aB.jump, aS.1, aB.next_⟩ : Block_))⟩ : Code_) : Code_), blk aK [(sV aE aF aC.codes.length aD)] 25, holeE aE aF aC.codes.length aD (aC.codes : List Code_) (aO.1).toNat [(nV aA.params), (nV aA.regs), (sV aH aI aA.blocks.length aG)], ow [aN] aM.1.codes, blk aJ [(.slice none 0 0)] 25] := mk_Code_ aA.params aA.regs hm 2 rfl
       replace hm := (hm.shutE (y := ((⟨aA.params, aA.regs, (aA.blocks.set (aP.1).toNat (⟨aB.phis, aB.ins, aB.jump, aS.1, aB.next_⟩ : Block_))⟩ : Code_) : Code_)) 4 2 (by decide) rfl rfl).pk (L' := [blk bp0 [v1p, (nV aR.2.p)] 62, ow [(sV aQ 0 5 5)] ([-1, aA.regs, (aA.blocks.length : Int), 0, 1] : List Int), blk aK [(sV aE aF aC.codes.length aD)] 25, ow [(sV aE aF aC.codes.length aD)] (aC.codes.set (aO.1).toNat (⟨aA.params, aA.regs, (aA.blocks.set (aP.1).toNat (⟨aB.phis, aB.ins, aB.jump, aS.1, aB.next_⟩ : Block_))⟩ : Code_)), ow [aN] aM.1.codes, blk aJ [(.slice none 0 0)] 25]) [0, 1, 3, 4, 5, 6] rfl rfl
       have dQ := List.getElem?_set_self (a := ((⟨aA.params, aA.regs, (aA.blocks.set (aP.1).toNat (⟨aB.phis, aB.ins, aB.jump, aS.1, aB.next_⟩ : Block_))⟩ : Code_) : Code_)) (idx_lt ab)
       exact gz hm [5, 2, 3, 0] rfl
      refine gcf rfl (gS (gR (gB rfl (gA rfl (gE (gJ hm (fun bA => [(2, (pV aJ)), (3, (pV aK))]) (fun bA => [blk aJ [(.slice none 0 0)] 25, blk aK [(sV aE aF aC.codes.length aD)] 25, ow [(sV aE aF aC.codes.length aD)] bA.1, blk bp0 [v1p, (nV bA.2)] 62]) (fun bA => ?_) ?_))))))
      ·
       refine gsd 71 rfl (fun cJ => ?_) fun cJ => ?_
       ·
        refine gct rfl (gS (gR (gM rfl (gY (yG rfl (y_nilptr rfl rfl)) (gF fo_71_1 rfl (gY (yl isAgg69 ((hm.holeE_at 5 rfl).cell (j := 1) rfl) rfl) ?_))))))
        obtain ⟨b7, bN, rfl, dR⟩ := ro_slice (hm.ow_rep 3 rfl)
        refine gY (yV st_69 rfl) (gB rfl (gE (gJ hm (fun bO => [(2, (pV aJ)), (3, (pV aK))]) (fun bO => [blk aJ [(.slice none 0 0)] 25, blk aK [(sV aE aF aC.codes.length aD)] 25, ow [(sV aE aF aC.codes.length aD)] bO, blk bp0 [v1p, (nV aR.2.p)] 62]) (fun bO => ?_) ?_)))
        ·
         refine gsd 78 rfl (fun cK => ?_) fun cK => ?_
         ·
          refine gct rfl (gR (gM rfl (gY (yG rfl (y_nilptr rfl rfl)) (gF fo_71_1 rfl (gY (yl isAgg69 ((hm.holeE_at 5 rfl).cell (j := 1) rfl) rfl) (gM rfl (gg fun aX cL bB => ?_)))))))
          obtain ⟨b8, b9, dS, he⟩ := idx_form' (hm.ow_rep 3 rfl) bB
          obtain ⟨rfl, _, rfl⟩ := sl3 he
          obtain ⟨bS, cM, dT⟩ := rk_Ins_ (hm.ow_rep 3 rfl) bB
          refine gI st_69 cL (idx_lt bB) rfl (gF fo_75_1 rfl (gf0 rfl (fun a hf => e_setElemR (x1 := ((⟨aX.op, aS.1, aX.args, aX.n_⟩ : Ins_) : Ins_)) (j := 1) (vs := [(nV aS.1)]) 3 hf hm rfl bB cM rfl (fun F h ho => (fun _ => own_snd_map (α := Int) (β := Int × (List Int) × Int) (cs := [(nV aX.op)]) (ds := [(nV aX.to), bS, (nV aX.n_)]) (ds' := [(nV aS.1), bS, (nV aX.n_)]) rfl (fun _ => own_fst_map (α := Int) (β := (List Int) × Int) (cs := [(nV aX.to)]) (cs' := [(nV aS.1)]) (ds := [bS, (nV aX.n_)]) rfl (fun _ _ => Flat.own_iff.2 rfl))) F ho) rfl sizeOf3 rfl rfl rfl (one_cons rfl one_nil) rfl) ?_))
          rintro _ w hm
          have dU := List.getElem?_set_self (a := ((⟨aX.op, aS.1, aX.args, aX.n_⟩ : Ins_) : Ins_)) (idx_lt bB)
          refine gE ?_
          replace hm := (mk_Block_ aB.jump aB.on hm 4 3 2 rfl).pk (L' := [blk bp0 [v1p, (nV aR.2.p)] 62, ow [(sV aQ 0 5 5)] ([-1, aA.regs, (aA.blocks.length : Int), 0, 1] : List Int), ow [aT, (sV b8 b9 aB.ins.length bN), (nV aB.jump), (nV aB.on), aU] ((⟨aB.phis, (aB.ins.set (0 : Int).toNat (⟨aX.op, aS.1, aX.args, aX.n_⟩ : Ins_)), aB.jump, aB.on, aB.next_⟩ : Block_) : Block_), holeE aH aI aA.blocks.length aG (aA.blocks : List Block_) (aP.1).toNat [aT, (sV b8 b9 aB.ins.length bN), (nV aB.jump), (nV aB.on), aU], blk aK [(sV aE aF aC.codes.length aD)] 25, holeE aE aF aC.codes.length aD (aC.codes : List Code_) (aO.1).toNat [(nV aA.params), (nV aA.regs), (sV aH aI aA.blocks.length aG)], ow [aN] aM.1.codes, blk aJ [(.slice none 0 0)] 25]) [0, 1, 4, 5, 6, 7, 8, 9] rfl rfl
          replace hm := (hm.shutE (y := ((⟨aB.phis, (aB.ins.set (0 : Int).toNat (⟨aX.op, aS.1, aX.args, aX.n_⟩ : Ins_)), aB.jump, aB.on, aB.next_⟩ : Block_) : Block_)) 3 2 (by decide) rfl rfl).pk (L' := [blk bp0 [v1p, (nV aR.2.p)] 62, ow [(sV aQ 0 5 5)] ([-1, aA.regs, (aA.blocks.length : Int), 0, 1] : List Int), ow [(sV aH aI aA.blocks.length aG)] (aA.blocks.set (aP.1).toNat (⟨aB.phis, (aB.ins.set (0 : Int).toNat (⟨aX.op, aS.1, aX.args, aX.n_⟩ : Ins_)), aB.jump, aB.on, aB.next_⟩ : Block_)), blk aK [(sV aE aF aC.codes.length aD)] 25, holeE aE aF aC.codes.length aD (aC.codes : List Code_) (aO.1).toNat [(nV aA.params), (nV aA.regs), (sV aH aI aA.blocks.length aG)], ow [aN] aM.1.codes, blk aJ [(.slice none 0 0)] 25]) [0, 1, 3, 4, 5, 6, 7] rfl rfl
          have dV := List.getElem?_set_self (a := ((⟨aB.phis, (aB.ins.set (0 : Int).toNat (⟨aX.op, aS.1, aX.args, aX.n_⟩ : Ins_)), aB.jump, aB.on, aB.next_⟩ : Block_) : Block_)) (idx_lt ac)
          replace hm : Mem w0 hz _ [blk bp0 [v1p, (nV aR.2.p)] 62, ow [(sV aQ 0 5 5)] ([-1, aA.regs, (aA.blocks.length : Int), 0, 1] : List Int), ow [(nV aA.params), (nV aA.regs), (sV aH aI aA.blocks.length aG)] ((⟨aA.params, aA.regs, (aA.blocks.set (aP.1).toNat (⟨aB.phis, (aB.ins.set (0 : Int).toNat (⟨aX.op, aS.1, aX.args, aX.n_⟩ : Ins_)), aB.jump, aB.on, aB.next_⟩ : Block_))⟩ : Code_) : Code_), blk aK [(sV aE aF aC.codes.length aD)] 25, holeE aE aF aC.codes.length aD (aC.codes : List Code_) (aO.1).toNat [(nV aA.params), (nV aA.regs), (sV aH aI aA.blocks.length aG)], ow [aN] aM.1.codes, blk aJ [(.slice none 0 0)] 25] := mk_Code_ aA.params aA.regs hm 2 rfl
          replace hm := (hm.shutE (y := ((⟨aA.params, aA.regs, (aA.blocks.set (aP.1).toNat (⟨aB.phis, (aB.ins.set (0 : Int).toNat (⟨aX.op, aS.1, aX.args, aX.n_⟩ : Ins_)), aB.jump, aB.on, aB.next_⟩ : Block_))⟩ : Code_) : Code_)) 4 2 (by decide) rfl rfl).pk (L' := [blk bp0 [v1p, (nV aR.2.p)] 62, ow [(sV aQ 0 5 5)] ([-1, aA.regs, (aA.blocks.length : Int), 0, 1] : List Int), blk aK [(sV aE aF aC.codes.length aD)] 25, ow [(sV aE aF aC.codes.length aD)] (aC.codes.set (aO.1).toNat (⟨aA.params, aA.regs, (aA.blocks.set (aP.1).toNat (⟨aB.phis, (aB.ins.set (0 : Int).toNat (⟨aX.op, aS.1, aX.args, aX.n_⟩ : Ins_)), aB.jump, aB.on, aB.next_⟩ : Block_))⟩ : Code_)), ow [aN] aM.1.codes, blk aJ [(.slice none 0 0)] 25]) [0, 1, 3, 4, 5, 6] rfl rfl
          have dW := List.getElem?_set_self (a := ((⟨aA.params, aA.regs, (aA.blocks.set (aP.1).toNat (⟨aB.phis, (aB.ins.set (0 : Int).toNat (⟨aX.op, aS.1, aX.args, aX.n_⟩ : Ins_)), aB.jump, aB.on, aB.next_⟩ : Block_))⟩ : Code_) : Code_)) (idx_lt ab)
          exact gz hm [5, 2, 3, 0] rfl
         refine gcf rfl (gSk ?_)
         replace hm := (mk_Block_ aB.jump aB.on hm 4 3 2 rfl).pk (L' := [blk bp0 [v1p, (nV aR.2.p)] 62, ow [(sV aQ 0 5 5)] ([-1, aA.regs, (aA.blocks.length : Int), 0, 1] : List Int), ow [aT, (.slice b7 aB.ins.length bN), (nV aB.jump), (nV aB.on), aU] (aB : Block_), holeE aH aI aA.blocks.length aG (aA.blocks : List Block_) (aP.1).toNat [aT, (.slice b7 aB.ins.length bN), (nV aB.jump), (nV aB.on), aU], blk aK [(sV aE aF aC.codes.length aD)] 25, holeE aE aF aC.codes.length aD (aC.codes : List Code_) (aO.1).toNat [(nV aA.params), (nV aA.regs), (sV aH aI aA.blocks.length aG)], ow [aN] aM.1.codes, blk aJ [(.slice none 0 0)] 25]) [0, 1, 4, 5, 6, 7, 8, 9] rfl rfl
         replace hm := (hm.shutE (y := (aB : Block_)) 3 2 (by decide) rfl rfl).pk (L' := [blk bp0 [v1p, (nV aR.2.p)] 62, ow [(sV aQ 0 5 5)] ([-1, aA.regs, (aA.blocks.length : Int), 0, 1] : List Int), ow [(sV aH aI aA.blocks.length aG)] (aA.blocks.set (aP.1).toNat aB), blk aK [(sV aE aF aC.codes.length aD)] 25, holeE aE aF aC.codes.length aD (aC.codes : List Code_) (aO.1).toNat [(nV aA.params), (nV aA.regs), (sV aH aI aA.blocks.length aG)], ow [aN] aM.1.codes, blk aJ [(.slice none 0 0)] 25]) [0, 1, 3, 4, 5, 6, 7] rfl rfl
         rw [set_same ac] at hm
         replace hm : Mem w0 hz _ [blk bp0 [v1p, (nV aR.2.p)] 62, ow [(sV aQ 0 5 5)] ([-1, aA.regs, (aA.blocks.length : Int), 0, 1] : List Int), ow [(nV aA.params), (nV aA.regs), (sV aH aI aA.blocks.length aG)] (aA : Code_), blk aK [(sV aE aF aC.codes.length aD)] 25, holeE aE aF aC.codes.length aD (aC.codes : List Code_) (aO.1).toNat [(nV aA.params), (nV aA.regs), (sV aH aI aA.blocks.length aG)], ow [aN] aM.1.codes, blk aJ [(.slice none 0 0)] 25] := mk_Code_ aA.params aA.regs hm 2 rfl
         replace hm := (hm.shutE (y := (aA : Code_)) 4 2 (by decide) rfl rfl).pk (L' := [blk bp0 [v1p, (nV aR.2.p)] 62, ow [(sV aQ 0 5 5)] ([-1, aA.regs, (aA.blocks.length : Int), 0, 1] : List Int), blk aK [(sV aE aF aC.codes.length aD)] 25, ow [(sV aE aF aC.codes.length aD)] (aC.codes.set (aO.1).toNat aA), ow [aN] aM.1.codes, blk aJ [(.slice none 0 0)] 25]) [0, 1, 3, 4, 5, 6] rfl rfl
         rw [set_same ab] at hm
         exact gz hm [5, 2, 3, 0] rfl
        repeat clear hm
        intro bO w hm
        exact gz hm [0, 1, 2, 3] rfl
       refine gcf rfl (gS (gR (gB rfl (gA rfl (gE (gJ hm (fun bC => [(2, (pV aJ)), (3, (pV aK))]) (fun bC => [blk aJ [(.slice none 0 0)] 25, blk aK [(sV aE aF aC.codes.length aD)] 25, ow [(sV aE aF aC.codes.length aD)] bC.1, blk bp0 [v1p, (nV bC.2)] 62]) (fun bC => ?_) ?_))))))
       ·
        refine gsd 86 rfl (fun cN => ?_) fun cN => ?_
        ·
         refine gct rfl (gS (gR (gM rfl (gY (yG rfl (y_nilptr rfl rfl)) (gF fo_71_1 rfl (gY (yl isAgg69 ((hm.holeE_at 5 rfl).cell (j := 1) rfl) rfl) ?_))))))
         obtain ⟨bT, aa, rfl, dX⟩ := ro_slice (hm.ow_rep 3 rfl)
         refine gY (yV st_69 rfl) (gB rfl (gE (gJ hm (fun bP => [(2, (pV aJ)), (3, (pV aK))]) (fun bP => [blk aJ [(.slice none 0 0)] 25, blk aK [(sV aE aF aC.codes.length aD)] 25, ow [(sV aE aF aC.codes.length aD)] bP, blk bp0 [v1p, (nV aR.2.p)] 62]) (fun bP => ?_) ?_)))
         ·
          refine gsd 93 rfl (fun cO => ?_) fun cO => ?_
          ·
           refine gct rfl (gJ hm (fun bQ => [(2, (pV aJ)), (3, (pV aK))]) (fun bQ => [blk aJ [(.slice none 0 0)] 25, blk aK [(sV aE aF aC.codes.length aD)] 25, ow [(sV aE aF aC.codes.length aD)] bQ, blk bp0 [v1p, (nV aR.2.p)] 62]) (fun bQ => ?_) ?_)
           ·
            refine gW (.p 0 (.p 1 (.p 2 (.p 4 (.p 5 (.p 6 (.p 11 (.q 3 (.q 7 (.p 8 (.p 9 (.e 10 (.e 12 (.e 13 (.p 14 (.p 15 (.e 16 .fin .nil))) .nil) .nil) (.e 12 (.e 10 (.e 13 (.p 14 (.p 15 (.e 16 .fin .nil))) .nil) .nil) .nil))))))))))))) [3, 7, 10, 12, 13] [0, 1, 2, 4, 5, 6, 8, 9, 11, 14, 15] hm [0, 1, 2, 4, 5, 6, 7, 8, 9] [blk bp0 [v1p, (nV aR.2.p)] 62, ow [(sV aQ 0 5 5)] ([-1, aA.regs, (aA.blocks.length : Int), 0, 1] : List Int), ow [aU] aB.next_, ow [aT] aB.phis, holeE aH aI aA.blocks.length aG (aA.blocks : List Block_) (aP.1).toNat [aT, (.slice bT aB.ins.length aa), (nV aB.jump), (nV aB.on), aU], blk aK [(sV aE aF aC.codes.length aD)] 25, holeE aE aF aC.codes.length aD (aC.codes : List Code_) (aO.1).toNat [(nV aA.params), (nV aA.regs), (sV aH aI aA.blocks.length aG)], ow [aN] aM.1.codes, blk aJ [(.slice none 0 0)] 25] rfl mxo (by kernel_rfl) (fun _ _ _ h => h.2) fun w hm hS => tP rfl (fun w => yM rfl) (tP rfl (fun w => yG rfl (y_nilptr rfl rfl)) (tP rfl (fun w => yF fo_71_1 rfl) (tP rfl (fun w => yM rfl) (tP rfl (fun w => yG rfl (y_nilptr rfl rfl)) (tP rfl (fun w => yF fo_71_1 rfl) (tP rfl (fun w => yM rfl) (tQ rfl hS (fun w hm => yl isAgg69 ((hm.holeE_at 4 rfl).cell (j := 1) rfl) rfl) (tQ rfl hS (fun w hm => yl isAgg69 ((hm.holeE_at 4 rfl).cell (j := 1) rfl) rfl) (gg fun aL bU ai => ?_)))))))))
            obtain ⟨af, ag, dY, he⟩ := idx_form' (hm.ow_rep 3 rfl) ai
            obtain ⟨rfl, _, rfl⟩ := sl3 he
            obtain ⟨dZ, d1, d2⟩ := rk_Ins_ (hm.ow_rep 3 rfl) ai
            refine tP rfl (fun w => yI st_69 bU (idx_lt ai) rfl) (tP rfl (fun w => yF fo_75_2 rfl) (gb fun aY ba => tMo ?_ ?_))
            ·
             obtain ⟨d3, hm⟩ := pin_Ins_ hm 3 rfl ai
             refine tY rfl (yl isAgg26 ((hm.holeE_at 4 rfl).cell (j := 2) rfl) rfl) (tAk hm [1, 2, 3, 5, 6, 7, 8, 9, 10] rfl fun hS => tO (tf rfl rfl (fun a hf => e_build (vs := #[(0, (nV aS.1))]) (cs := [(nV aS.1)]) et_26 hf hm rfl rfl (by kernel_rfl) rfl rfl) ?_))
             rintro _ w ⟨am, rfl, hm⟩
             replace hm := hm.lit (xs := ([aS.1] : List Int)) 0 rfl rfl rfl rfl
             refine tAk hm [2, 3, 4, 6, 7, 8, 9, 10, 11] rfl fun hS => tO ?_
             obtain ⟨cP, cQ⟩ := appM_some.1 ba
             refine tf rfl rfl (fun a hf => e_append 1 et_26 hf hm rfl (hm.ow_rep 0 rfl) rfl rfl rfl cP) ?_
             rintro ao w hm
             rw [cQ] at hm
             refine tAk hm [2, 3, 4, 6, 7, 8, 9, 10, 11] rfl fun hS => ?_
             have hL8_1 := hm.holeE_len 5 rfl
             refine tP rfl (fun w => yI st_69 bU (idx_lt2 ai hL8_1) rfl) (tP rfl (fun w => yF fo_75_2 rfl) (tO ?_))
             have bc : ∀ u ∈ ([ao] : List Value), u.oneCell' = true := (one_cons (rep_one (hm.ow_rep 1 rfl)) one_nil)
             refine tf0 rfl rfl (fun a hf => e_storeH (j := 2) (vs := [ao]) 5 hf hm rfl rfl rfl sizeOf26 rfl rfl (cells_one (bc _ (List.mem_singleton.2 rfl))) bc rfl) ?_
             rintro _ w hm
             replace hm : Mem w0 hz _ [ow [(sV am 0 1 1)] ([aS.1] : List Int), ow [ao] aY, blk bp0 [v1p, (nV aR.2.p)] 62, ow [(sV aQ 0 5 5)] ([-1, aA.regs, (aA.blocks.length : Int), 0, 1] : List Int), ow [aU] aB.next_, holeE af ag aB.ins.length aa (aB.ins : List Ins_) (0 : Int).toNat [(nV aL.op), (nV aL.to), ao, (nV aL.n_)], ow [aT] aB.phis, holeE aH aI aA.blocks.length aG (aA.blocks : List Block_) (aP.1).toNat [aT, (sV af ag aB.ins.length aa), (nV aB.jump), (nV aB.on), aU], blk aK [(sV aE aF aC.codes.length aD)] 25, holeE aE aF aC.codes.length aD (aC.codes : List Code_) (aO.1).toNat [(nV aA.params), (nV aA.regs), (sV aH aI aA.blocks.length aG)], ow [aN] aM.1.codes, blk aJ [(.slice none 0 0)] 25] := hm
             refine tAn rfl (tE ?_)
             replace hm : Mem w0 hz _ [ow [(sV am 0 1 1)] ([aS.1] : List Int), ow [(nV aL.op), (nV aL.to), ao, (nV aL.n_)] ((⟨aL.op, aL.to, aY, aL.n_⟩ : Ins_) : Ins_), blk bp0 [v1p, (nV aR.2.p)] 62, ow [(sV aQ 0 5 5)] ([-1, aA.regs, (aA.blocks.length : Int), 0, 1] : List Int), ow [aU] aB.next_, holeE af ag aB.ins.length aa (aB.ins : List Ins_) (0 : Int).toNat [(nV aL.op), (nV aL.to), ao, (nV aL.n_)], ow [aT] aB.phis, holeE aH aI aA.blocks.length aG (aA.blocks : List Block_) (aP.1).toNat [aT, (sV af ag aB.ins.length aa), (nV aB.jump), (nV aB.on), aU], blk aK [(sV aE aF aC.codes.length aD)] 25, holeE aE aF aC.codes.length aD (aC.codes : List Code_) (aO.1).toNat [(nV aA.params), (nV aA.regs), (sV aH aI aA.blocks.length aG)], ow [aN] aM.1.codes, blk aJ [(.slice none 0 0)] 25] := mk_Ins_ aL.op aL.to aL.n_ hm 1 rfl
             replace hm := (hm.shutE (y := ((⟨aL.op, aL.to, aY, aL.n_⟩ : Ins_) : Ins_)) 5 1 (by decide) rfl rfl).pk (L' := [ow [(sV am 0 1 1)] ([aS.1] : List Int), blk bp0 [v1p, (nV aR.2.p)] 62, ow [(sV aQ 0 5 5)] ([-1, aA.regs, (aA.blocks.length : Int), 0, 1] : List Int), ow [aU] aB.next_, ow [(sV af ag aB.ins.length aa)] (aB.ins.set (0 : Int).toNat (⟨aL.op, aL.to, aY, aL.n_⟩ : Ins_)), ow [aT] aB.phis, holeE aH aI aA.blocks.length aG (aA.blocks : List Block_) (aP.1).toNat [aT, (sV af ag aB.ins.length aa), (nV aB.jump), (nV aB.on), aU], blk aK [(sV aE aF aC.codes.length aD)] 25, holeE aE aF aC.codes.length aD (aC.codes : List Code_) (aO.1).toNat [(nV aA.params), (nV aA.regs), (sV aH aI aA.blocks.length aG)], ow [aN] aM.1.codes, blk aJ [(.slice none 0 0)] 25]) [0, 2, 3, 4, 5, 6, 7, 8, 9, 10, 11] rfl rfl
             have d4 := List.getElem?_set_self (a := ((⟨aL.op, aL.to, aY, aL.n_⟩ : Ins_) : Ins_)) (idx_lt ai)
             replace hm := (mk_Block_ aB.jump aB.on hm 5 4 3 rfl).pk (L' := [ow [(sV am 0 1 1)] ([aS.1] : List Int), blk bp0 [v1p, (nV aR.2.p)] 62, ow [(sV aQ 0 5 5)] ([-1, aA.regs, (aA.blocks.length : Int), 0, 1] : List Int), ow [aT, (sV af ag aB.ins.length aa), (nV aB.jump), (nV aB.on), aU] ((⟨aB.phis, (aB.ins.set (0 : Int).toNat (⟨aL.op, aL.to, aY, aL.n_⟩ : Ins_)), aB.jump, aB.on, aB.next_⟩ : Block_) : Block_), holeE aH aI aA.blocks.length aG (aA.blocks : List Block_) (aP.1).toNat [aT, (sV af ag aB.ins.length aa), (nV aB.jump), (nV aB.on), aU], blk aK [(sV aE aF aC.codes.length aD)] 25, holeE aE aF aC.codes.length aD (aC.codes : List Code_) (aO.1).toNat [(nV aA.params), (nV aA.regs), (sV aH aI aA.blocks.length aG)], ow [aN] aM.1.codes, blk aJ [(.slice none 0 0)] 25]) [0, 1, 2, 5, 6, 7, 8, 9, 10] rfl rfl
             replace hm := (hm.shutE (y := ((⟨aB.phis, (aB.ins.set (0 : Int).toNat (⟨aL.op, aL.to, aY, aL.n_⟩ : Ins_)), aB.jump, aB.on, aB.next_⟩ : Block_) : Block_)) 4 3 (by decide) rfl rfl).pk (L' := [ow [(sV am 0 1 1)] ([aS.1] : List Int), blk bp0 [v1p, (nV aR.2.p)] 62, ow [(sV aQ 0 5 5)] ([-1, aA.regs, (aA.blocks.length : Int), 0, 1] : List Int), ow [(sV aH aI aA.blocks.length aG)] (aA.blocks.set (aP.1).toNat (⟨aB.phis, (aB.ins.set (0 : Int).toNat (⟨aL.op, aL.to, aY, aL.n_⟩ : Ins_)), aB.jump, aB.on, aB.next_⟩ : Block_)), blk aK [(sV aE aF aC.codes.length aD)] 25, holeE aE aF aC.codes.length aD (aC.codes : List Code_) (aO.1).toNat [(nV aA.params), (nV aA.regs), (sV aH aI aA.blocks.length aG)], ow [aN] aM.1.codes, blk aJ [(.slice none 0 0)] 25]) [0, 1, 2, 4, 5, 6, 7, 8] rfl rfl
             have d5 := List.getElem?_set_self (a := ((⟨aB.phis, (aB.ins.set (0 : Int).toNat (⟨aL.op, aL.to, aY, aL.n_⟩ : Ins_)), aB.jump, aB.on, aB.next_⟩ : Block_) : Block_)) (idx_lt ac)
             replace hm : Mem w0 hz _ [ow [(sV am 0 1 1)] ([aS.1] : List Int), blk bp0 [v1p, (nV aR.2.p)] 62, ow [(sV aQ 0 5 5)] ([-1, aA.regs, (aA.blocks.length : Int), 0, 1] : List Int), ow [(nV aA.params), (nV aA.regs), (sV aH aI aA.blocks.length aG)] ((⟨aA.params, aA.regs, (aA.blocks.set (aP.1).toNat (⟨aB.phis, (aB.ins.set (0 : Int).toNat (⟨aL.op, aL.to, aY, aL.n_⟩ : Ins_)), aB.jump, aB.on, aB.next_⟩ : Block_))⟩ : Code_) : Code_), blk aK [(sV aE aF aC.codes.length aD)] 25, holeE aE aF aC.codes.length aD (aC.codes : List Code_) (aO.1).toNat [(nV aA.params), (nV aA.regs), (sV aH aI aA.blocks.length aG)], ow [aN] aM.1.codes, blk aJ [(.slice none 0 0)] 25] := mk_Code_ aA.params aA.regs hm 3 rfl
             replace hm := (hm.shutE (y := ((⟨aA.params, aA.regs, (aA.blocks.set (aP.1).toNat (⟨aB.phis, (aB.ins.set (0 : Int).toNat (⟨aL.op, aL.to, aY, aL.n_⟩ : Ins_)), aB.jump, aB.on, aB.next_⟩ : Block_))⟩ : Code_) : Code_)) 5 3 (by decide) rfl rfl).pk (L' := [ow [(sV am 0 1 1)] ([aS.1] : List Int), blk bp0 [v1p, (nV aR.2.p)] 62, ow [(sV aQ 0 5 5)] ([-1, aA.regs, (aA.blocks.length : Int), 0, 1] : List Int), blk aK [(sV aE aF aC.codes.length aD)] 25, ow [(sV aE aF aC.codes.length aD)] (aC.codes.set (aO.1).toNat (⟨aA.params, aA.regs, (aA.blocks.set (aP.1).toNat (⟨aB.phis, (aB.ins.set (0 : Int).toNat (⟨aL.op, aL.to, aY, aL.n_⟩ : Ins_)), aB.jump, aB.on, aB.next_⟩ : Block_))⟩ : Code_)), ow [aN] aM.1.codes, blk aJ [(.slice none 0 0)] 25]) [0, 1, 2, 4, 5, 6, 7] rfl rfl
             have d6 := List.getElem?_set_self (a := ((⟨aA.params, aA.regs, (aA.blocks.set (aP.1).toNat (⟨aB.phis, (aB.ins.set (0 : Int).toNat (⟨aL.op, aL.to, aY, aL.n_⟩ : Ins_)), aB.jump, aB.on, aB.next_⟩ : Block_))⟩ : Code_) : Code_)) (idx_lt ab)
             exact gz hm [6, 3, 4, 1] rfl
            refine tO (tf rfl rfl (fun a hf => e_build (vs := #[(0, (nV aS.1))]) (cs := [(nV aS.1)]) et_26 hf hm rfl rfl (by kernel_rfl) rfl rfl) ?_)
            rintro _ w ⟨an, rfl, hm⟩
            replace hm := hm.lit (xs := ([aS.1] : List Int)) 0 rfl rfl rfl rfl
            refine tAk hm [1, 2, 3, 5, 6, 7, 8, 9, 10] rfl fun hS => tO ?_
            obtain ⟨d7, hm⟩ := pin_Ins_ hm 4 rfl ai
            refine tY rfl (yl isAgg26 ((hm.holeE_at 5 rfl).cell (j := 2) rfl) rfl) (tAk hm [2, 3, 4, 6, 7, 8, 9, 10, 11] rfl fun hS => tO ?_)
            obtain ⟨cR, cS⟩ := appM_some.1 ba
            refine tf rfl rfl (fun a hf => e_append 0 et_26 hf hm rfl (hm.ow_rep 1 rfl) rfl rfl rfl cR) ?_
            rintro aq w hm
            rw [cS] at hm
            refine tAk hm [2, 3, 4, 6, 7, 8, 9, 10, 11] rfl fun hS => ?_
            have hL8_2 := hm.holeE_len 5 rfl
            refine tP rfl (fun w => yI st_69 bU (idx_lt2 ai hL8_2) rfl) (tP rfl (fun w => yF fo_75_2 rfl) (tO ?_))
            have bd : ∀ u ∈ ([aq] : List Value), u.oneCell' = true := (one_cons (rep_one (hm.ow_rep 0 rfl)) one_nil)
            refine tf0 rfl rfl (fun a hf => e_storeH (j := 2) (vs := [aq]) 5 hf hm rfl rfl rfl sizeOf26 rfl rfl (cells_one (bd _ (List.mem_singleton.2 rfl))) bd rfl) ?_
            rintro _ w hm
            replace hm : Mem w0 hz _ [ow [aq] aY, ow [(sV an 0 1 1)] ([aS.1] : List Int), blk bp0 [v1p, (nV aR.2.p)] 62, ow [(sV aQ 0 5 5)] ([-1, aA.regs, (aA.blocks.length : Int), 0, 1] : List Int), ow [aU] aB.next_, holeE af ag aB.ins.length aa (aB.ins : List Ins_) (0 : Int).toNat [(nV aL.op), (nV aL.to), aq, (nV aL.n_)], ow [aT] aB.phis, holeE aH aI aA.blocks.length aG (aA.blocks : List Block_) (aP.1).toNat [aT, (sV af ag aB.ins.length aa), (nV aB.jump), (nV aB.on), aU], blk aK [(sV aE aF aC.codes.length aD)] 25, holeE aE aF aC.codes.length aD (aC.codes : List Code_) (aO.1).toNat [(nV aA.params), (nV aA.regs), (sV aH aI aA.blocks.length aG)], ow [aN] aM.1.codes, blk aJ [(.slice none 0 0)] 25] := hm
            refine tAn rfl (tE ?_)
            replace hm : Mem w0 hz _ [ow [(nV aL.op), (nV aL.to), aq, (nV aL.n_)] ((⟨aL.op, aL.to, aY, aL.n_⟩ : Ins_) : Ins_), ow [(sV an 0 1 1)] ([aS.1] : List Int), blk bp0 [v1p, (nV aR.2.p)] 62, ow [(sV aQ 0 5 5)] ([-1, aA.regs, (aA.blocks.length : Int), 0, 1] : List Int), ow [aU] aB.next_, holeE af ag aB.ins.length aa (aB.ins : List Ins_) (0 : Int).toNat [(nV aL.op), (nV aL.to), aq, (nV aL.n_)], ow [aT] aB.phis, holeE aH aI aA.blocks.length aG (aA.blocks : List Block_) (aP.1).toNat [aT, (sV af ag aB.ins.length aa), (nV aB.jump), (nV aB.on), aU], blk aK [(sV aE aF aC.codes.length aD)] 25, holeE aE aF aC.codes.length aD (aC.codes : List Code_) (aO.1).toNat [(nV aA.params), (nV aA.regs), (sV aH aI aA.blocks.length aG)], ow [aN] aM.1.codes, blk aJ [(.slice none 0 0)] 25] := mk_Ins_ aL.op aL.to aL.n_ hm 0 rfl
            replace hm := (hm.shutE (y := ((⟨aL.op, aL.to, aY, aL.n_⟩ : Ins_) : Ins_)) 5 0 (by decide) rfl rfl).pk (L' := [ow [(sV an 0 1 1)] ([aS.1] : List Int), blk bp0 [v1p, (nV aR.2.p)] 62, ow [(sV aQ 0 5 5)] ([-1, aA.regs, (aA.blocks.length : Int), 0, 1] : List Int), ow [aU] aB.next_, ow [(sV af ag aB.ins.length aa)] (aB.ins.set (0 : Int).toNat (⟨aL.op, aL.to, aY, aL.n_⟩ : Ins_)), ow [aT] aB.phis, holeE aH aI aA.blocks.length aG (aA.blocks : List Block_) (aP.1).toNat [aT, (sV af ag aB.ins.length aa), (nV aB.jump), (nV aB.on), aU], blk aK [(sV aE aF aC.codes.length aD)] 25, holeE aE aF aC.codes.length aD (aC.codes : List Code_) (aO.1).toNat [(nV aA.params), (nV aA.regs), (sV aH aI aA.blocks.length aG)], ow [aN] aM.1.codes, blk aJ [(.slice none 0 0)] 25]) [1, 2, 3, 4, 5, 6, 7, 8, 9, 10, 11] rfl rfl
            have d8 := List.getElem?_set_self (a := ((⟨aL.op, aL.to, aY, aL.n_⟩ : Ins_) : Ins_)) (idx_lt ai)
            replace hm := (mk_Block_ aB.jump aB.on hm 5 4 3 rfl).pk (L' := [ow [(sV an 0 1 1)] ([aS.1] : List Int), blk bp0 [v1p, (nV aR.2.p)] 62, ow [(sV aQ 0 5 5)] ([-1, aA.regs, (aA.blocks.length : Int), 0, 1] : List Int), ow [aT, (sV af ag aB.ins.length aa), (nV aB.jump), (nV aB.on), aU] ((⟨aB.phis, (aB.ins.set (0 : Int).toNat (⟨aL.op, aL.to, aY, aL.n_⟩ : Ins_)), aB.jump, aB.on, aB.next_⟩ : Block_) : Block_), holeE aH aI aA.blocks.length aG (aA.blocks : List Block_) (aP.1).toNat [aT, (sV af ag aB.ins.length aa), (nV aB.jump), (nV aB.on), aU], blk aK [(sV aE aF aC.codes.length aD)] 25, holeE aE aF aC.codes.length aD (aC.codes : List Code_) (aO.1).toNat [(nV aA.params), (nV aA.regs), (sV aH aI aA.blocks.length aG)], ow [aN] aM.1.codes, blk aJ [(.slice none 0 0)] 25]) [0, 1, 2, 5, 6, 7, 8, 9, 10] rfl rfl
            replace hm := (hm.shutE (y := ((⟨aB.phis, (aB.ins.set (0 : Int).toNat (⟨aL.op, aL.to, aY, aL.n_⟩ : Ins_)), aB.jump, aB.on, aB.next_⟩ : Block_) : Block_)) 4 3 (by decide) rfl rfl).pk (L' := [ow [(sV an 0 1 1)] ([aS.1] : List Int), blk bp0 [v1p, (nV aR.2.p)] 62, ow [(sV aQ 0 5 5)] ([-1, aA.regs, (aA.blocks.length : Int), 0, 1] : List Int), ow [(sV aH aI aA.blocks.length aG)] (aA.blocks.set (aP.1).toNat (⟨aB.phis, (aB.ins.set (0 : Int).toNat (⟨aL.op, aL.to, aY, aL.n_⟩ : Ins_)), aB.jump, aB.on, aB.next_⟩ : Block_)), blk aK [(sV aE aF aC.codes.length aD)] 25, holeE aE aF aC.codes.length aD (aC.codes : List Code_) (aO.1).toNat [(nV aA.params), (nV aA.regs), (sV aH aI aA.blocks.length aG)], ow [aN] aM.1.codes, blk aJ [(.slice none 0 0)] 25]) [0, 1, 2, 4, 5, 6, 7, 8] rfl rfl
            have d9 := List.getElem?_set_self (a := ((⟨aB.phis, (aB.ins.set (0 : Int).toNat (⟨aL.op, aL.to, aY, aL.n_⟩ : Ins_)), aB.jump, aB.on, aB.next_⟩ : Block_) : Block_)) (idx_lt ac)
            replace hm : Mem w0 hz _ [ow [(sV an 0 1 1)] ([aS.1] : List Int), blk bp0 [v1p, (nV aR.2.p)] 62, ow [(sV aQ 0 5 5)] ([-1, aA.regs, (aA.blocks.length : Int), 0, 1] : List Int), ow [(nV aA.params), (nV aA.regs), (sV aH aI aA.blocks.length aG)] ((⟨aA.params, aA.regs, (aA.blocks.set (aP.1).toNat (⟨aB.phis, (aB.ins.set (0 : Int).toNat (⟨aL.op, aL.to, aY, aL.n_⟩ : Ins_)), aB.jump, aB.on, aB.next_⟩ : Block_))⟩ : Code_) : Code_), blk aK [(sV aE aF aC.codes.length aD)] 25, holeE aE aF aC.codes.length aD (aC.codes : List Code_) (aO.1).toNat [(nV aA.params), (nV aA.regs), (sV aH aI aA.blocks.length aG)], ow [aN] aM.1.codes, blk aJ [(.slice none 0 0)] 25] := mk_Code_ aA.params aA.regs hm 3 rfl
            replace hm := (hm.shutE (y := ((⟨aA.params, aA.regs, (aA.blocks.set (aP.1).toNat (⟨aB.phis, (aB.ins.set (0 : Int).toNat (⟨aL.op, aL.to, aY, aL.n_⟩ : Ins_)), aB.jump, aB.on, aB.next_⟩ : Block_))⟩ : Code_) : Code_)) 5 3 (by decide) rfl rfl).pk (L' := [ow [(sV an 0 1 1)] ([aS.1] : List Int), blk bp0 [v1p, (nV aR.2.p)] 62, ow [(sV aQ 0 5 5)] ([-1, aA.regs, (aA.blocks.length : Int), 0, 1] : List Int), blk aK [(sV aE aF aC.codes.length aD)] 25, ow [(sV aE aF aC.codes.length aD)] (aC.codes.set (aO.1).toNat (⟨aA.params, aA.regs, (aA.blocks.set (aP.1).toNat (⟨aB.phis, (aB.ins.set (0 : Int).toNat (⟨aL.op, aL.to, aY, aL.n_⟩ : Ins_)), aB.jump, aB.on, aB.next_⟩ : Block_))⟩ : Code_)), ow [aN] aM.1.codes, blk aJ [(.slice none 0 0)] 25]) [0, 1, 2, 4, 5, 6, 7] rfl rfl
            have da := List.getElem?_set_self (a := ((⟨aA.params, aA.regs, (aA.blocks.set (aP.1).toNat (⟨aB.phis, (aB.ins.set (0 : Int).toNat (⟨aL.op, aL.to, aY, aL.n_⟩ : Ins_)), aB.jump, aB.on, aB.next_⟩ : Block_))⟩ : Code_) : Code_)) (idx_lt ab)
            exact gz hm [6, 3, 4, 1] rfl
           repeat clear hm
           intro bQ w hm
           exact gz hm [0, 1, 2, 3] rfl
          refine gcf rfl (gSk ?_)
          replace hm := (mk_Block_ aB.jump aB.on hm 4 3 2 rfl).pk (L' := [blk bp0 [v1p, (nV aR.2.p)] 62, ow [(sV aQ 0 5 5)] ([-1, aA.regs, (aA.blocks.length : Int), 0, 1] : List Int), ow [aT, (.slice bT aB.ins.length aa), (nV aB.jump), (nV aB.on), aU] (aB : Block_), holeE aH aI aA.blocks.length aG (aA.blocks : List Block_) (aP.1).toNat [aT, (.slice bT aB.ins.length aa), (nV aB.jump), (nV aB.on), aU], blk aK [(sV aE aF aC.codes.length aD)] 25, holeE aE aF aC.codes.length aD (aC.codes : List Code_) (aO.1).toNat [(nV aA.params), (nV aA.regs), (sV aH aI aA.blocks.length aG)], ow [aN] aM.1.codes, blk aJ [(.slice none 0 0)] 25]) [0, 1, 4, 5, 6, 7, 8, 9] rfl rfl
          replace hm := (hm.shutE (y := (aB : Block_)) 3 2 (by decide) rfl rfl).pk (L' := [blk bp0 [v1p, (nV aR.2.p)] 62, ow [(sV aQ 0 5 5)] ([-1, aA.regs, (aA.blocks.length : Int), 0, 1] : List Int), ow [(sV aH aI aA.blocks.length aG)] (aA.blocks.set (aP.1).toNat aB), blk aK [(sV aE aF aC.codes.length aD)] 25, holeE aE aF aC.codes.length aD (aC.codes : List Code_) (aO.1).toNat [(nV aA.params), (nV aA.regs), (sV aH aI aA.blocks.length aG)], ow [aN] aM.1.codes, blk aJ [(.slice none 0 0)] 25]) [0, 1, 3, 4, 5, 6, 7] rfl rfl
          rw [set_same ac] at hm
          replace hm : Mem w0 hz _ [blk bp0 [v1p, (nV aR.2.p)] 62, ow [(sV aQ 0 5 5)] ([-1, aA.regs, (aA.blocks.length : Int), 0, 1] : List Int), ow [(nV aA.params), (nV aA.regs), (sV aH aI aA.blocks.length aG)] (aA : Code_), blk aK [(sV aE aF aC.codes.length aD)] 25, holeE aE aF aC.codes.length aD (aC.codes : List Code_) (aO.1).toNat [(nV aA.params), (nV aA.regs), (sV aH aI aA.blocks.length aG)], ow [aN] aM.1.codes, blk aJ [(.slice none 0 0)] 25] := mk_Code_ aA.params aA.regs hm 2 rfl
          replace hm := (hm.shutE (y := (aA : Code_)) 4 2 (by decide) rfl rfl).pk (L' := [blk bp0 [v1p, (nV aR.2.p)] 62, ow [(sV aQ 0 5 5)] ([-1, aA.regs, (aA.blocks.length : Int), 0, 1] : List Int), blk aK [(sV aE aF aC.codes.length aD)] 25, ow [(sV aE aF aC.codes.length aD)] (aC.codes.set (aO.1).toNat aA), ow [aN] aM.1.codes, blk aJ [(.slice none 0 0)] 25]) [0, 1, 3, 4, 5, 6] rfl rfl
          rw [set_same ab] at hm
          exact gz hm [5, 2, 3, 0] rfl
         repeat clear hm
         intro bP w hm
         exact gz hm [0, 1, 2, 3] rfl
        refine gcf rfl (gS (gR (gB rfl (gA rfl (gE (gJ hm (fun bD => [(2, (pV aJ)), (3, (pV aK))]) (fun bD => [blk aJ [(.slice none 0 0)] 25, blk aK [(sV aE aF aC.codes.length aD)] 25, ow [(sV aE aF aC.codes.length aD)] bD.1, blk bp0 [v1p, (nV bD.2)] 62]) (fun bD => ?_) ?_))))))
        ·
         refine gsd 110 rfl (fun cT => ?_) fun cT => ?_
         ·
          refine gct rfl (gR (gM rfl (gM rfl (gY (yG rfl (y_nilptr rfl rfl)) (gF fo_71_0 rfl (gY (yl isAgg68 ((hm.holeE_at 5 rfl).cell (j := 0) rfl) rfl) (gM rfl (gf rfl (fun a hf => e_build (vs := #[(0, (nV aS.1))]) (cs := [(nV aS.1)]) et_26 hf hm rfl rfl (by kernel_rfl) rfl rfl) ?_))))))))
          rintro _ w ⟨ak, rfl, hm⟩
          replace hm := hm.lit (xs := ([aS.1] : List Int)) 0 rfl rfl rfl rfl
          refine gY (yG rfl (y_build (vs := [(0, (nV 0)), (1, (sV ak 0 1 1))]) (cs := #[(nV 0), (sV ak 0 1 1)]) rfl rfl (by kernel_rfl))) (gf rfl (fun a hf => e_build (vs := #[(0, (.agg #[(nV 0), (sV ak 0 1 1)]))]) (cs := [(nV 0), (sV ak 0 1 1)]) et_68 hf hm rfl rfl (by kernel_rfl) rfl rfl) ?_)
          rintro _ w ⟨bR, rfl, hm⟩
          replace hm := hm.els_nil (α := Phi_)
          replace hm : Mem w0 hz _ [els [] ([] : List Phi_), blk bR [(nV 0), (sV ak 0 1 1)] 66, ow [(nV 0), (sV ak 0 1 1)] ((⟨0, ([aS.1] : List Int)⟩ : Phi_) : Phi_), blk bp0 [v1p, (nV aR.2.p)] 62, ow [(sV aQ 0 5 5)] ([-1, aA.regs, (aA.blocks.length : Int), 0, 1] : List Int), ow [aU] aB.next_, ow [aW] aB.ins, ow [aT] aB.phis, holeE aH aI aA.blocks.length aG (aA.blocks : List Block_) (aP.1).toNat [aT, aW, (nV aB.jump), (nV aB.on), aU], blk aK [(sV aE aF aC.codes.length aD)] 25, holeE aE aF aC.codes.length aD (aC.codes : List Code_) (aO.1).toNat [(nV aA.params), (nV aA.regs), (sV aH aI aA.blocks.length aG)], ow [aN] aM.1.codes, blk aJ [(.slice none 0 0)] 25] := mk_Phi_ 0 hm 2 rfl
          replace hm := (hm.els_cons 0 2 (by decide) rfl rfl).pk (L' := [els [(nV 0), (sV ak 0 1 1)] ([(⟨0, ([aS.1] : List Int)⟩ : Phi_)] : List Phi_), blk bR [(nV 0), (sV ak 0 1 1)] 66, blk bp0 [v1p, (nV aR.2.p)] 62, ow [(sV aQ 0 5 5)] ([-1, aA.regs, (aA.blocks.length : Int), 0, 1] : List Int), ow [aU] aB.next_, ow [aW] aB.ins, ow [aT] aB.phis, holeE aH aI aA.blocks.length aG (aA.blocks : List Block_) (aP.1).toNat [aT, aW, (nV aB.jump), (nV aB.on), aU], blk aK [(sV aE aF aC.codes.length aD)] 25, holeE aE aF aC.codes.length aD (aC.codes : List Code_) (aO.1).toNat [(nV aA.params), (nV aA.regs), (sV aH aI aA.blocks.length aG)], ow [aN] aM.1.codes, blk aJ [(.slice none 0 0)] 25]) [0, 1, 3, 4, 5, 6, 7, 8, 9, 10, 11, 12] rfl rfl
          replace hm := (hm.lit_els 1 0 (by decide) rfl rfl rfl rfl).pk (L' := [ow [(sV bR 0 1 1)] ([(⟨0, ([aS.1] : List Int)⟩ : Phi_)] : List Phi_), blk bp0 [v1p, (nV aR.2.p)] 62, ow [(sV aQ 0 5 5)] ([-1, aA.regs, (aA.blocks.length : Int), 0, 1] : List Int), ow [aU] aB.next_, ow [aW] aB.ins, ow [aT] aB.phis, holeE aH aI aA.blocks.length aG (aA.blocks : List Block_) (aP.1).toNat [aT, aW, (nV aB.jump), (nV aB.on), aU], blk aK [(sV aE aF aC.codes.length aD)] 25, holeE aE aF aC.codes.length aD (aC.codes : List Code_) (aO.1).toNat [(nV aA.params), (nV aA.regs), (sV aH aI aA.blocks.length aG)], ow [aN] aM.1.codes, blk aJ [(.slice none 0 0)] 25]) [1, 2, 3, 4, 5, 6, 7, 8, 9, 10, 11] rfl rfl
          refine gb fun aj cU => ?_
          obtain ⟨cV, cW⟩ := appM_some.1 cU
          replace hm := (hm.both 5 0 (by decide) rfl rfl).pk (L' := [blk bp0 [v1p, (nV aR.2.p)] 62, ow [(sV aQ 0 5 5)] ([-1, aA.regs, (aA.blocks.length : Int), 0, 1] : List Int), ow [aU] aB.next_, ow [aW] aB.ins, both (ow [aT] aB.phis) (ow [(sV bR 0 1 1)] ([(⟨0, ([aS.1] : List Int)⟩ : Phi_)] : List Phi_)), holeE aH aI aA.blocks.length aG (aA.blocks : List Block_) (aP.1).toNat [aT, aW, (nV aB.jump), (nV aB.on), aU], blk aK [(sV aE aF aC.codes.length aD)] 25, holeE aE aF aC.codes.length aD (aC.codes : List Code_) (aO.1).toNat [(nV aA.params), (nV aA.regs), (sV aH aI aA.blocks.length aG)], ow [aN] aM.1.codes, blk aJ [(.slice none 0 0)] 25]) [1, 2, 3, 4, 5, 6, 7, 8, 9, 10] rfl rfl
          refine gf rfl (fun a hf => e_appendD (xs := aB.phis) (ys := ([(⟨0, ([aS.1] : List Int)⟩ : Phi_)] : List Phi_)) 4 et_68 hf hm rfl rfl rfl rfl cV) ?_
          rintro ar w hm
          rw [cW] at hm
          refine gY (yG rfl (y_nilptr rfl rfl)) (gF fo_71_0 rfl ?_)
          have be : ∀ u ∈ ([ar] : List Value), u.oneCell' = true := (one_cons (rep_one (hm.ow_rep 4 rfl)) one_nil)
          refine gf0 rfl (fun a hf => e_storeH (j := 0) (vs := [ar]) 5 hf hm rfl rfl rfl sizeOf68 rfl rfl (cells_one (be _ (List.mem_singleton.2 rfl))) be rfl) ?_
          rintro _ w hm
          replace hm : Mem w0 hz _ [blk bp0 [v1p, (nV aR.2.p)] 62, ow [(sV aQ 0 5 5)] ([-1, aA.regs, (aA.blocks.length : Int), 0, 1] : List Int), ow [aU] aB.next_, ow [aW] aB.ins, ow [ar] aj, holeE aH aI aA.blocks.length aG (aA.blocks : List Block_) (aP.1).toNat [ar, aW, (nV aB.jump), (nV aB.on), aU], blk aK [(sV aE aF aC.codes.length aD)] 25, holeE aE aF aC.codes.length aD (aC.codes : List Code_) (aO.1).toNat [(nV aA.params), (nV aA.regs), (sV aH aI aA.blocks.length aG)], ow [aN] aM.1.codes, blk aJ [(.slice none 0 0)] 25] := hm
          refine gE ?_
          replace hm := (mk_Block_ aB.jump aB.on hm 4 3 2 rfl).pk (L' := [blk bp0 [v1p, (nV aR.2.p)] 62, ow [(sV aQ 0 5 5)] ([-1, aA.regs, (aA.blocks.length : Int), 0, 1] : List Int), ow [ar, aW, (nV aB.jump), (nV aB.on), aU] ((⟨aj, aB.ins, aB.jump, aB.on, aB.next_⟩ : Block_) : Block_), holeE aH aI aA.blocks.length aG (aA.blocks : List Block_) (aP.1).toNat [ar, aW, (nV aB.jump), (nV aB.on), aU], blk aK [(sV aE aF aC.codes.length aD)] 25, holeE aE aF aC.codes.length aD (aC.codes : List Code_) (aO.1).toNat [(nV aA.params), (nV aA.regs), (sV aH aI aA.blocks.length aG)], ow [aN] aM.1.codes, blk aJ [(.slice none 0 0)] 25]) [0, 1, 4, 5, 6, 7, 8, 9] rfl rfl
          replace hm := (hm.shutE (y := ((⟨aj, aB.ins, aB.jump, aB.on, aB.next_⟩ : Block_) : Block_)) 3 2 (by decide) rfl rfl).pk (L' := [blk bp0 [v1p, (nV aR.2.p)] 62, ow [(sV aQ 0 5 5)] ([-1, aA.regs, (aA.blocks.length : Int), 0, 1] : List Int), ow [(sV aH aI aA.blocks.length aG)] (aA.blocks.set (aP.1).toNat (⟨aj, aB.ins, aB.jump, aB.on, aB.next_⟩ : Block_)), blk aK [(sV aE aF aC.codes.length aD)] 25, holeE aE aF aC.codes.length aD (aC.codes : List Code_) (aO.1).toNat [(nV aA.params), (nV aA.regs), (sV aH aI aA.blocks.length aG)], ow [aN] aM.1.codes, blk aJ [(.slice none 0 0)] 25]) [0, 1, 3, 4, 5, 6, 7] rfl rfl
          have db := List.getElem?_set_self (a := ((⟨aj, aB.ins, aB.jump, aB.on, aB.next_⟩ : Block_) : Block_)) (idx_lt ac)
          replace hm : Mem w0 hz _ [blk bp0 [v1p, (nV aR.2.p)] 62, ow [(sV aQ 0 5 5)] ([-1, aA.regs, (aA.blocks.length : Int), 0, 1] : List Int), ow [(nV aA.params), (nV aA.regs), (sV aH aI aA.blocks.length aG)] ((⟨aA.params, aA.regs, (aA.blocks.set (aP.1).toNat (⟨aj, aB.ins, aB.jump, aB.on, aB.next_⟩ : Block_))⟩ : Code_) : Code_), blk aK [(sV aE aF aC.codes.length aD)] 25, holeE aE aF aC.codes.length aD (aC.codes : List Code_) (aO.1).toNat [(nV aA.params), (nV aA.regs), (sV aH aI aA.blocks.length aG)], ow [aN] aM.1.codes, blk aJ [(.slice none 0 0)] 25] := mk_Code_ aA.params aA.regs hm 2 rfl
          replace hm := (hm.shutE (y := ((⟨aA.params, aA.regs, (aA.blocks.set (aP.1).toNat (⟨aj, aB.ins, aB.jump, aB.on, aB.next_⟩ : Block_))⟩ : Code_) : Code_)) 4 2 (by decide) rfl rfl).pk (L' := [blk bp0 [v1p, (nV aR.2.p)] 62, ow [(sV aQ 0 5 5)] ([-1, aA.regs, (aA.blocks.length : Int), 0, 1] : List Int), blk aK [(sV aE aF aC.codes.length aD)] 25, ow [(sV aE aF aC.codes.length aD)] (aC.codes.set (aO.1).toNat (⟨aA.params, aA.regs, (aA.blocks.set (aP.1).toNat (⟨aj, aB.ins, aB.jump, aB.on, aB.next_⟩ : Block_))⟩ : Code_)), ow [aN] aM.1.codes, blk aJ [(.slice none 0 0)] 25]) [0, 1, 3, 4, 5, 6] rfl rfl
          have dc := List.getElem?_set_self (a := ((⟨aA.params, aA.regs, (aA.blocks.set (aP.1).toNat (⟨aj, aB.ins, aB.jump, aB.on, aB.next_⟩ : Block_))⟩ : Code_) : Code_)) (idx_lt ab)
          exact gz hm [5, 2, 3, 0] rfl
         refine gcf rfl (gS (gR (gB rfl (gA rfl (gE (gJ hm (fun bE => [(2, (pV aJ)), (3, (pV aK))]) (fun bE => [blk aJ [(.slice none 0 0)] 25, blk aK [(sV aE aF aC.codes.length aD)] 25, ow [(sV aE aF aC.codes.length aD)] bE.1, blk bp0 [v1p, (nV bE.2)] 62]) (fun bE => ?_) ?_))))))
         ·
          refine gsd 124 rfl (fun cX => ?_) fun cX => ?_
          ·
           refine gct rfl ?_
           replace hm := (mk_Block_ aB.jump aB.on hm 4 3 2 rfl).pk (L' := [blk bp0 [v1p, (nV aR.2.p)] 62, ow [(sV aQ 0 5 5)] ([-1, aA.regs, (aA.blocks.length : Int), 0, 1] : List Int), ow [aT, aW, (nV aB.jump), (nV aB.on), aU] (aB : Block_), holeE aH aI aA.blocks.length aG (aA.blocks : List Block_) (aP.1).toNat [aT, aW, (nV aB.jump), (nV aB.on), aU], blk aK [(sV aE aF aC.codes.length aD)] 25, holeE aE aF aC.codes.length aD (aC.codes : List Code_) (aO.1).toNat [(nV aA.params), (nV aA.regs), (sV aH aI aA.blocks.length aG)], ow [aN] aM.1.codes, blk aJ [(.slice none 0 0)] 25]) [0, 1, 4, 5, 6, 7, 8, 9] rfl rfl
           replace hm := (hm.shutE (y := (aB : Block_)) 3 2 (by decide) rfl rfl).pk (L' := [blk bp0 [v1p, (nV aR.2.p)] 62, ow [(sV aQ 0 5 5)] ([-1, aA.regs, (aA.blocks.length : Int), 0, 1] : List Int), ow [(sV aH aI aA.blocks.length aG)] (aA.blocks.set (aP.1).toNat aB), blk aK [(sV aE aF aC.codes.length aD)] 25, holeE aE aF aC.codes.length aD (aC.codes : List Code_) (aO.1).toNat [(nV aA.params), (nV aA.regs), (sV aH aI aA.blocks.length aG)], ow [aN] aM.1.codes, blk aJ [(.slice none 0 0)] 25]) [0, 1, 3, 4, 5, 6, 7] rfl rfl
           rw [set_same ac] at hm
           refine gW (.p 0 (.p 1 (.p 2 (.p 3 (.p 5 (.q 4 (.e 6 (.p 7 (.p 8 (.p 9 (.e 10 .fin .nil)))) .nil))))))) [6] [0, 1, 2, 3, 5, 7, 8, 9] hm [1, 2, 3, 4, 5, 6] [ow [(sV aQ 0 5 5)] ([-1, aA.regs, (aA.blocks.length : Int), 0, 1] : List Int), ow [(sV aH aI aA.blocks.length aG)] aA.blocks, blk aK [(sV aE aF aC.codes.length aD)] 25, holeE aE aF aC.codes.length aD (aC.codes : List Code_) (aO.1).toNat [(nV aA.params), (nV aA.regs), (sV aH aI aA.blocks.length aG)], ow [aN] aM.1.codes, blk aJ [(.slice none 0 0)] 25] rfl mxo (by kernel_rfl) (fun _ _ _ h => h.2) fun w hm hS => tP rfl (fun w => yM rfl) (tP rfl (fun w => yM rfl) (tP rfl (fun w => yG rfl (y_nilptr rfl rfl)) (tP rfl (fun w => yF fo_59_0 rfl) (tP rfl (fun w => yM rfl) (tQ rfl hS (fun w hm => yl isAgg3 ((hm.holeE_at 3 rfl).cell (j := 0) rfl) rfl) (tO (gb fun ah cY => ?_)))))))
           obtain ⟨cZ, hle, hm1, hsub, c5⟩ := hm.take2 (L1 := [blk bp0 [v1p, (nV aR.2.p)] 62]) (L2 := [ow [(sV aQ 0 5 5)] ([-1, aA.regs, (aA.blocks.length : Int), 0, 1] : List Int), ow [(sV aH aI aA.blocks.length aG)] aA.blocks, blk aK [(sV aE aF aC.codes.length aD)] 25, holeE aE aF aC.codes.length aD (aC.codes : List Code_) (aO.1).toNat [(nV aA.params), (nV aA.regs), (sV aH aI aA.blocks.length aG)], ow [aN] aM.1.codes, blk aJ [(.slice none 0 0)] 25]) [0] [1, 2, 3, 4, 5, 6] (by decide) rfl rfl
           refine tf rfl rfl (fun a hf => e_call hf rfl call13 rfl (pspec_l30Rd__pick_ok _ cZ (⟨r_.b, aR.2.p⟩ : l30Rd) bp0 v1p (GT.mono hle h1p) 2 hm1  _ cY)) ?_
           rintro dd w ⟨rfl, hB⟩
           replace hm := c5 _ _ hB; clear hB
           refine tAk hm [1, 2, 3, 4, 5, 6] rfl fun hS => tP rfl (fun w => yB rfl) (tP rfl (fun w => yG rfl (y_nilptr rfl rfl)) (tP rfl (fun w => yF fo_59_1 rfl) (tO ?_)))
           have c6 : ∀ u ∈ ([(nV (w64 (aA.params + ah.1)))] : List Value), u.oneCell' = true := (one_cons rfl one_nil)
           refine tf0 rfl rfl (fun a hf => e_storeH (j := 1) (vs := [(nV (w64 (aA.params + ah.1)))]) 4 hf hm rfl rfl rfl sizeOf3 rfl rfl rfl c6 rfl) ?_
           rintro _ w hm
           replace hm : Mem w0 hz _ [blk bp0 [v1p, (nV ah.2.p)] 62, ow [(sV aQ 0 5 5)] ([-1, aA.regs, (aA.blocks.length : Int), 0, 1] : List Int), ow [(sV aH aI aA.blocks.length aG)] aA.blocks, blk aK [(sV aE aF aC.codes.length aD)] 25, holeE aE aF aC.codes.length aD (aC.codes : List Code_) (aO.1).toNat [(nV aA.params), (nV (w64 (aA.params + ah.1))), (sV aH aI aA.blocks.length aG)], ow [aN] aM.1.codes, blk aJ [(.slice none 0 0)] 25] := hm
           refine tAn rfl (tE ?_)
           replace hm : Mem w0 hz _ [blk bp0 [v1p, (nV ah.2.p)] 62, ow [(sV aQ 0 5 5)] ([-1, aA.regs, (aA.blocks.length : Int), 0, 1] : List Int), ow [(nV aA.params), (nV (w64 (aA.params + ah.1))), (sV aH aI aA.blocks.length aG)] ((⟨aA.params, w64 (aA.params + ah.1), aA.blocks⟩ : Code_) : Code_), blk aK [(sV aE aF aC.codes.length aD)] 25, holeE aE aF aC.codes.length aD (aC.codes : List Code_) (aO.1).toNat [(nV aA.params), (nV (w64 (aA.params + ah.1))), (sV aH aI aA.blocks.length aG)], ow [aN] aM.1.codes, blk aJ [(.slice none 0 0)] 25] := mk_Code_ aA.params (w64 (aA.params + ah.1)) hm 2 rfl
           replace hm := (hm.shutE (y := ((⟨aA.params, w64 (aA.params + ah.1), aA.blocks⟩ : Code_) : Code_)) 4 2 (by decide) rfl rfl).pk (L' := [blk bp0 [v1p, (nV ah.2.p)] 62, ow [(sV aQ 0 5 5)] ([-1, aA.regs, (aA.blocks.length : Int), 0, 1] : List Int), blk aK [(sV aE aF aC.codes.length aD)] 25, ow [(sV aE aF aC.codes.length aD)] (aC.codes.set (aO.1).toNat (⟨aA.params, w64 (aA.params + ah.1), aA.blocks⟩ : Code_)), ow [aN] aM.1.codes, blk aJ [(.slice none 0 0)] 25]) [0, 1, 3, 4, 5, 6] rfl rfl
           have de := List.getElem?_set_self (a := ((⟨aA.params, w64 (aA.params + ah.1), aA.blocks⟩ : Code_) : Code_)) (idx_lt ab)
           exact gz hm [5, 2, 3, 0] rfl
          refine gcf rfl (gS (gR (gB rfl (gA rfl (gE (gJ hm (fun bF => [(2, (pV aJ)), (3, (pV aK))]) (fun bF => [blk aJ [(.slice none 0 0)] 25, blk aK [(sV aE aF aC.codes.length aD)] 25, ow [(sV aE aF aC.codes.length aD)] bF.1, blk bp0 [v1p, (nV bF.2)] 62]) (fun bF => ?_) ?_))))))
          ·
           refine gsd 136 rfl (fun c7 => ?_) fun c7 => ?_
           ·
            refine gct rfl (gS (gR (gM rfl (gY (yG rfl (y_nilptr rfl rfl)) (gF fo_71_1 rfl (gY (yl isAgg69 ((hm.holeE_at 5 rfl).cell (j := 1) rfl) rfl) ?_))))))
            obtain ⟨au, al, rfl, df⟩ := ro_slice (hm.ow_rep 3 rfl)
            refine gY (yV st_69 rfl) (gB rfl (gE (gJ hm (fun bG => [(2, (pV aJ)), (3, (pV aK))]) (fun bG => [blk aJ [(.slice none 0 0)] 25, blk aK [(sV aE aF aC.codes.length aD)] 25, ow [(sV aE aF aC.codes.length aD)] bG.1, blk bp0 [v1p, (nV bG.2)] 62]) (fun bG => ?_) ?_)))
            ·
             refine gsd 143 rfl (fun c8 => ?_) fun c8 => ?_
             ·
              refine gct rfl (gW (.p 0 (.p 1 (.p 2 (.p 4 (.q 3 (.e 5 (.e 6 (.p 7 (.p 8 (.e 9 .fin .nil))) .nil) .nil)))))) [5, 6] [0, 1, 2, 4, 7, 8] hm [1, 2, 3, 4, 5, 6, 7, 8, 9] [ow [(sV aQ 0 5 5)] ([-1, aA.regs, (aA.blocks.length : Int), 0, 1] : List Int), ow [aU] aB.next_, ow [(.slice au aB.ins.length al)] aB.ins, ow [aT] aB.phis, holeE aH aI aA.blocks.length aG (aA.blocks : List Block_) (aP.1).toNat [aT, (.slice au aB.ins.length al), (nV aB.jump), (nV aB.on), aU], blk aK [(sV aE aF aC.codes.length aD)] 25, holeE aE aF aC.codes.length aD (aC.codes : List Code_) (aO.1).toNat [(nV aA.params), (nV aA.regs), (sV aH aI aA.blocks.length aG)], ow [aN] aM.1.codes, blk aJ [(.slice none 0 0)] 25] rfl mxo (by kernel_rfl) (fun _ _ _ h => h.2) fun w hm hS => tP rfl (fun w => yM rfl) (tP rfl (fun w => yG rfl (y_nilptr rfl rfl)) (tP rfl (fun w => yF fo_71_1 rfl) (tP rfl (fun w => yM rfl) (tQ rfl hS (fun w hm => yl isAgg69 ((hm.holeE_at 4 rfl).cell (j := 1) rfl) rfl) (tO (tf rfl rfl (fun a hf => e_build (vs := #[(0, (nV 256)), (1, (nV (-1))), (2, (nV 1))]) (cs := [(nV 256), (nV (-1)), (nV 1)]) et_26 hf hm rfl rfl (by kernel_rfl) rfl rfl) ?_)))))))
              rintro _ w ⟨av, rfl, hm⟩
              replace hm := hm.lit (xs := ([256, -1, 1] : List Int)) 0 rfl rfl rfl rfl
              refine tAk hm [2, 3, 4, 5, 6, 7, 8, 9, 10] rfl fun hS => tO (gb fun ae c9 => ?_)
              obtain ⟨ca, hle, hm1, hsub, cb⟩ := hm.take2 (L1 := [blk bp0 [v1p, (nV aR.2.p)] 62]) (L2 := [ow [(sV av 0 3 3)] ([256, -1, 1] : List Int), ow [(sV aQ 0 5 5)] ([-1, aA.regs, (aA.blocks.length : Int), 0, 1] : List Int), ow [aU] aB.next_, ow [(.slice au aB.ins.length al)] aB.ins, ow [aT] aB.phis, holeE aH aI aA.blocks.length aG (aA.blocks : List Block_) (aP.1).toNat [aT, (.slice au aB.ins.length al), (nV aB.jump), (nV aB.on), aU], blk aK [(sV aE aF aC.codes.length aD)] 25, holeE aE aF aC.codes.length aD (aC.codes : List Code_) (aO.1).toNat [(nV aA.params), (nV aA.regs), (sV aH aI aA.blocks.length aG)], ow [aN] aM.1.codes, blk aJ [(.slice none 0 0)] 25]) [1] [0, 2, 3, 4, 5, 6, 7, 8, 9, 10] (by decide) rfl rfl
              refine tf rfl rfl (fun a hf => e_call hf rfl call16 rfl (pspec_l30Rd__num_ok _ ca (⟨r_.b, aR.2.p⟩ : l30Rd) bp0 v1p (GT.mono hle h1p) ([256, -1, 1] : List Int) (sV av 0 3 3) (fz_ow (hsub 0 _ rfl)) hm1  _ c9)) ?_
              rintro dg w ⟨rfl, hB⟩
              replace hm := cb _ _ hB; clear hB
              refine tAk hm [2, 3, 4, 5, 6, 7, 8, 9, 10] rfl fun hS => gg fun aV cd bH => ?_
              obtain ⟨bf, bg, dh, he⟩ := idx_form' (hm.ow_rep 4 rfl) bH
              obtain ⟨rfl, _, rfl⟩ := sl3 he
              obtain ⟨bJ, ce, di⟩ := rk_Ins_ (hm.ow_rep 4 rfl) bH
              refine tP rfl (fun w => yI st_69 cd (idx_lt bH) rfl) (tP rfl (fun w => yF fo_75_3 rfl) (tO (tf0 rfl rfl (fun a hf => e_setElemR (x1 := ((⟨aV.op, aV.to, aV.args, ae.1⟩ : Ins_) : Ins_)) (j := 3) (vs := [(nV ae.1)]) 4 hf hm rfl bH ce rfl (fun F h ho => (fun _ => own_snd_map (α := Int) (β := Int × (List Int) × Int) (cs := [(nV aV.op)]) (ds := [(nV aV.to), bJ, (nV aV.n_)]) (ds' := [(nV aV.to), bJ, (nV ae.1)]) rfl (fun _ => own_snd_map (α := Int) (β := (List Int) × Int) (cs := [(nV aV.to)]) (ds := [bJ, (nV aV.n_)]) (ds' := [bJ, (nV ae.1)]) rfl (fun _ => own_snd_map (α := List Int) (β := Int) (cs := [bJ]) (ds := [(nV aV.n_)]) (ds' := [(nV ae.1)]) rfl (fun _ _ => Flat.own_iff.2 rfl)))) F ho) rfl sizeOf3 rfl rfl rfl (one_cons rfl one_nil) rfl) ?_)))
              rintro _ w hm
              have dk := List.getElem?_set_self (a := ((⟨aV.op, aV.to, aV.args, ae.1⟩ : Ins_) : Ins_)) (idx_lt bH)
              refine tAn rfl (tE ?_)
              replace hm := (mk_Block_ aB.jump aB.on hm 5 4 3 rfl).pk (L' := [blk bp0 [v1p, (nV ae.2.p)] 62, ow [(sV av 0 3 3)] ([256, -1, 1] : List Int), ow [(sV aQ 0 5 5)] ([-1, aA.regs, (aA.blocks.length : Int), 0, 1] : List Int), ow [aT, (sV bf bg aB.ins.length al), (nV aB.jump), (nV aB.on), aU] ((⟨aB.phis, (aB.ins.set (0 : Int).toNat (⟨aV.op, aV.to, aV.args, ae.1⟩ : Ins_)), aB.jump, aB.on, aB.next_⟩ : Block_) : Block_), holeE aH aI aA.blocks.length aG (aA.blocks : List Block_) (aP.1).toNat [aT, (sV bf bg aB.ins.length al), (nV aB.jump), (nV aB.on), aU], blk aK [(sV aE aF aC.codes.length aD)] 25, holeE aE aF aC.codes.length aD (aC.codes : List Code_) (aO.1).toNat [(nV aA.params), (nV aA.regs), (sV aH aI aA.blocks.length aG)], ow [aN] aM.1.codes, blk aJ [(.slice none 0 0)] 25]) [0, 1, 2, 5, 6, 7, 8, 9, 10] rfl rfl
              replace hm := (hm.shutE (y := ((⟨aB.phis, (aB.ins.set (0 : Int).toNat (⟨aV.op, aV.to, aV.args, ae.1⟩ : Ins_)), aB.jump, aB.on, aB.next_⟩ : Block_) : Block_)) 4 3 (by decide) rfl rfl).pk (L' := [blk bp0 [v1p, (nV ae.2.p)] 62, ow [(sV av 0 3 3)] ([256, -1, 1] : List Int), ow [(sV aQ 0 5 5)] ([-1, aA.regs, (aA.blocks.length : Int), 0, 1] : List Int), ow [(sV aH aI aA.blocks.length aG)] (aA.blocks.set (aP.1).toNat (⟨aB.phis, (aB.ins.set (0 : Int).toNat (⟨aV.op, aV.to, aV.args, ae.1⟩ : Ins_)), aB.jump, aB.on, aB.next_⟩ : Block_)), blk aK [(sV aE aF aC.codes.length aD)] 25, holeE aE aF aC.codes.length aD (aC.codes : List Code_) (aO.1).toNat [(nV aA.params), (nV aA.regs), (sV aH aI aA.blocks.length aG)], ow [aN] aM.1.codes, blk aJ [(.slice none 0 0)] 25]) [0, 1, 2, 4, 5, 6, 7, 8] rfl rfl
              have dl := List.getElem?_set_self (a := ((⟨aB.phis, (aB.ins.set (0 : Int).toNat (⟨aV.op, aV.to, aV.args, ae.1⟩ : Ins_)), aB.jump, aB.on, aB.next_⟩ : Block_) : Block_)) (idx_lt ac)
              replace hm : Mem w0 hz _ [blk bp0 [v1p, (nV ae.2.p)] 62, ow [(sV av 0 3 3)] ([256, -1, 1] : List Int), ow [(sV aQ 0 5 5)] ([-1, aA.regs, (aA.blocks.length : Int), 0, 1] : List Int), ow [(nV aA.params), (nV aA.regs), (sV aH aI aA.blocks.length aG)] ((⟨aA.params, aA.regs, (aA.blocks.set (aP.1).toNat (⟨aB.phis, (aB.ins.set (0 : Int).toNat (⟨aV.op, aV.to, aV.args, ae.1⟩ : Ins_)), aB.jump, aB.on, aB.next_⟩ : Block_))⟩ : Code_) : Code_), blk aK [(sV aE aF aC.codes.length aD)] 25, holeE aE aF aC.codes.length aD (aC.codes : List Code_) (aO.1).toNat [(nV aA.params), (nV aA.regs), (sV aH aI aA.blocks.length aG)], ow [aN] aM.1.codes, blk aJ [(.slice none 0 0)] 25] := mk_Code_ aA.params aA.regs hm 3 rfl
              replace hm := (hm.shutE (y := ((⟨aA.params, aA.regs, (aA.blocks.set (aP.1).toNat (⟨aB.phis, (aB.ins.set (0 : Int).toNat (⟨aV.op, aV.to, aV.args, ae.1⟩ : Ins_)), aB.jump, aB.on, aB.next_⟩ : Block_))⟩ : Code_) : Code_)) 5 3 (by decide) rfl rfl).pk (L' := [blk bp0 [v1p, (nV ae.2.p)] 62, ow [(sV av 0 3 3)] ([256, -1, 1] : List Int), ow [(sV aQ 0 5 5)] ([-1, aA.regs, (aA.blocks.length : Int), 0, 1] : List Int), blk aK [(sV aE aF aC.codes.length aD)] 25, ow [(sV aE aF aC.codes.length aD)] (aC.codes.set (aO.1).toNat (⟨aA.params, aA.regs, (aA.blocks.set (aP.1).toNat (⟨aB.phis, (aB.ins.set (0 : Int).toNat (⟨aV.op, aV.to, aV.args, ae.1⟩ : Ins_)), aB.jump, aB.on, aB.next_⟩ : Block_))⟩ : Code_)), ow [aN] aM.1.codes, blk aJ [(.slice none 0 0)] 25]) [0, 1, 2, 4, 5, 6, 7] rfl rfl
              have dm := List.getElem?_set_self (a := ((⟨aA.params, aA.regs, (aA.blocks.set (aP.1).toNat (⟨aB.phis, (aB.ins.set (0 : Int).toNat (⟨aV.op, aV.to, aV.args, ae.1⟩ : Ins_)), aB.jump, aB.on, aB.next_⟩ : Block_))⟩ : Code_) : Code_)) (idx_lt ab)
              exact gz hm [6, 3, 4, 0] rfl
             refine gcf rfl (gSk ?_)
             replace hm := (mk_Block_ aB.jump aB.on hm 4 3 2 rfl).pk (L' := [blk bp0 [v1p, (nV aR.2.p)] 62, ow [(sV aQ 0 5 5)] ([-1, aA.regs, (aA.blocks.length : Int), 0, 1] : List Int), ow [aT, (.slice au aB.ins.length al), (nV aB.jump), (nV aB.on), aU] (aB : Block_), holeE aH aI aA.blocks.length aG (aA.blocks : List Block_) (aP.1).toNat [aT, (.slice au aB.ins.length al), (nV aB.jump), (nV aB.on), aU], blk aK [(sV aE aF aC.codes.length aD)] 25, holeE aE aF aC.codes.length aD (aC.codes : List Code_) (aO.1).toNat [(nV aA.params), (nV aA.regs), (sV aH aI aA.blocks.length aG)], ow [aN] aM.1.codes, blk aJ [(.slice none 0 0)] 25]) [0, 1, 4, 5, 6, 7, 8, 9] rfl rfl
             replace hm := (hm.shutE (y := (aB : Block_)) 3 2 (by decide) rfl rfl).pk (L' := [blk bp0 [v1p, (nV aR.2.p)] 62, ow [(sV aQ 0 5 5)] ([-1, aA.regs, (aA.blocks.length : Int), 0, 1] : List Int), ow [(sV aH aI aA.blocks.length aG)] (aA.blocks.set (aP.1).toNat aB), blk aK [(sV aE aF aC.codes.length aD)] 25, holeE aE aF aC.codes.length aD (aC.codes : List Code_) (aO.1).toNat [(nV aA.params), (nV aA.regs), (sV aH aI aA.blocks.length aG)], ow [aN] aM.1.codes, blk aJ [(.slice none 0 0)] 25]) [0, 1, 3, 4, 5, 6, 7] rfl rfl
             rw [set_same ac] at hm
             replace hm : Mem w0 hz _ [blk bp0 [v1p, (nV aR.2.p)] 62, ow [(sV aQ 0 5 5)] ([-1, aA.regs, (aA.blocks.length : Int), 0, 1] : List Int), ow [(nV aA.params), (nV aA.regs), (sV aH aI aA.blocks.length aG)] (aA : Code_), blk aK [(sV aE aF aC.codes.length aD)] 25, holeE aE aF aC.codes.length aD (aC.codes : List Code_) (aO.1).toNat [(nV aA.params), (nV aA.regs), (sV aH aI aA.blocks.length aG)], ow [aN] aM.1.codes, blk aJ [(.slice none 0 0)] 25] := mk_Code_ aA.params aA.regs hm 2 rfl
             replace hm := (hm.shutE (y := (aA : Code_)) 4 2 (by decide) rfl rfl).pk (L' := [blk bp0 [v1p, (nV aR.2.p)] 62, ow [(sV aQ 0 5 5)] ([-1, aA.regs, (aA.blocks.length : Int), 0, 1] : List Int), blk aK [(sV aE aF aC.codes.length aD)] 25, ow [(sV aE aF aC.codes.length aD)] (aC.codes.set (aO.1).toNat aA), ow [aN] aM.1.codes, blk aJ [(.slice none 0 0)] 25]) [0, 1, 3, 4, 5, 6] rfl rfl
             rw [set_same ab] at hm
             exact gz hm [5, 2, 3, 0] rfl
            repeat clear hm
            intro bG w hm
            exact gz hm [0, 1, 2, 3] rfl
           refine gcf rfl (gSk ?_)
           replace hm := (mk_Block_ aB.jump aB.on hm 4 3 2 rfl).pk (L' := [blk bp0 [v1p, (nV aR.2.p)] 62, ow [(sV aQ 0 5 5)] ([-1, aA.regs, (aA.blocks.length : Int), 0, 1] : List Int), ow [aT, aW, (nV aB.jump), (nV aB.on), aU] (aB : Block_), holeE aH aI aA.blocks.length aG (aA.blocks : List Block_) (aP.1).toNat [aT, aW, (nV aB.jump), (nV aB.on), aU], blk aK [(sV aE aF aC.codes.length aD)] 25, holeE aE aF aC.codes.length aD (aC.codes : List Code_) (aO.1).toNat [(nV aA.params), (nV aA.regs), (sV aH aI aA.blocks.length aG)], ow [aN] aM.1.codes, blk aJ [(.slice none 0 0)] 25]) [0, 1, 4, 5, 6, 7, 8, 9] rfl rfl
           replace hm := (hm.shutE (y := (aB : Block_)) 3 2 (by decide) rfl rfl).pk (L' := [blk bp0 [v1p, (nV aR.2.p)] 62, ow [(sV aQ 0 5 5)] ([-1, aA.regs, (aA.blocks.length : Int), 0, 1] : List Int), ow [(sV aH aI aA.blocks.length aG)] (aA.blocks.set (aP.1).toNat aB), blk aK [(sV aE aF aC.codes.length aD)] 25, holeE aE aF aC.codes.length aD (aC.codes : List Code_) (aO.1).toNat [(nV aA.params), (nV aA.regs), (sV aH aI aA.blocks.length aG)], ow [aN] aM.1.codes, blk aJ [(.slice none 0 0)] 25]) [0, 1, 3, 4, 5, 6, 7] rfl rfl
           rw [set_same ac] at hm
           replace hm : Mem w0 hz _ [blk bp0 [v1p, (nV aR.2.p)] 62, ow [(sV aQ 0 5 5)] ([-1, aA.regs, (aA.blocks.length : Int), 0, 1] : List Int), ow [(nV aA.params), (nV aA.regs), (sV aH aI aA.blocks.length aG)] (aA : Code_), blk aK [(sV aE aF aC.codes.length aD)] 25, holeE aE aF aC.codes.length aD (aC.codes : List Code_) (aO.1).toNat [(nV aA.params), (nV aA.regs), (sV aH aI aA.blocks.length aG)], ow [aN] aM.1.codes, blk aJ [(.slice none 0 0)] 25] := mk_Code_ aA.params aA.regs hm 2 rfl
           replace hm := (hm.shutE (y := (aA : Code_)) 4 2 (by decide) rfl rfl).pk (L' := [blk bp0 [v1p, (nV aR.2.p)] 62, ow [(sV aQ 0 5 5)] ([-1, aA.regs, (aA.blocks.length : Int), 0, 1] : List Int), blk aK [(sV aE aF aC.codes.length aD)] 25, ow [(sV aE aF aC.codes.length aD)] (aC.codes.set (aO.1).toNat aA), ow [aN] aM.1.codes, blk aJ [(.slice none 0 0)] 25]) [0, 1, 3, 4, 5, 6] rfl rfl
           rw [set_same ab] at hm
           exact gz hm [5, 2, 3, 0] rfl
          repeat clear hm
          intro bF w hm
          exact gz hm [0, 1, 2, 3] rfl
         repeat clear hm
         intro bE w hm
         exact gz hm [0, 1, 2, 3] rfl
        repeat clear hm
        intro bD w hm
        exact gz hm [0, 1, 2, 3] rfl
       repeat clear hm
       intro bC w hm
       exact gz hm [0, 1, 2, 3] rfl
      repeat clear hm
      intro bA w hm
      exact gz hm [0, 1, 2, 3] rfl
     repeat clear hm
     intro az w hm
     exact gz hm [0, 1, 2, 3] rfl
    repeat clear hm
    intro ay w hm
    exact gz hm [0, 1, 2, 3] rfl
   repeat clear hm
   intro ax w hm
   exact gz hm [0, 1, 2, 3] rfl
  repeat clear hm
  intro aw w hm
  exact gS (gR (gY (yn (hm.blk_at 1 rfl) isAgg25 sizeOf25 rfl) (gSN hm 0 sizeOf25 (one_cons rfl one_nil) rfl fun w hm => gE (gRt (grc 0 results14 hm rfl isAgg25 sizeOf25 ⟨(sV aE aF aC.codes.length aD), rfl, hm.pk [3, 2] rfl rfl⟩)))))
theorem spec_l8In_ok (w0 : World) (hz : Heap) (r_ : l30Rd) (bp0 : Nat) (v1p : Value) (h1p : GT.rep hz [v1p] r_.b) (u : Unit_) (v1 : Value) (h1 : GT.rep hz [v1] u.codes) (hm0 : Mem w0 hz w0 [blk bp0 [v1p, (nV r_.p)] 62]) :
    ConM Try.prog 15 [(pV bp0), (.agg #[v1])] w0 (spec_l8In r_ u) fun r v w' => ∃ (x1 : Value), v = x1 ∧ Mem w0 hz w' [blk bp0 [v1p, (nV r.2.p)] 62, ow [x1] r.1] := by
  unfold spec_l8In
  refine gcon func15 rfl fun r => ?_
  have hm := hm0
  refine gS (gR (gBx hm rfl fun aE w hm => gA rfl (gE (gS (gR (gf rfl (fun a hf => e_build0 (α := Int) et_26 hm rfl) ?_))))))
  rintro aq w hm
  refine gA rfl (gE (gS (gS (gR (gA rfl (gE ?_))))))
  obtain ⟨aP, aQ, rfl, ar⟩ := ro_slice (hm.ow_rep 0 rfl)
  refine gJg (fun aB a w => ∃ (aF : Value), St 45 [(0, (pV bp0)), (5, aF)] w0 hz [blk bp0 [v1p, (nV aB.1)] 62, ow [aF] aB.2] a w) (fun aB => ?_) ?_
  ·
   refine gBk (gMg (fun aA a w => ∃ (aC : Value), St 45 [(0, (pV bp0)), (3, (pV aE)), (5, aC), (6, (nV aA.2.2))] w0 hz [blk bp0 [v1p, (nV aA.1)] 62, blk aE [v1] 25, ow [aC] aA.2.1] a w) (fun a hf => ⟨(.slice aP ([] : List Int).length aQ), hf.sb rfl, hm.pk [2, 1, 0] rfl rfl⟩) ?_)
   repeat clear hm
   rintro au aR aA a w ⟨aC, hf, hm⟩ av aS
   refine gv hf (gS (gS (gJ hm (fun aG => [(0, (pV bp0)), (3, (pV aE)), (5, aC), (6, (nV aA.2.2)), (24, (.bool (aG)))]) (fun aG => [blk bp0 [v1p, (nV aA.1)] 62, blk aE [v1] 25, ow [aC] aA.2.1]) (fun aG => ?_) ?_)))
   ·
    refine gR (gF fo_25_0 rfl (gL hm 1 isAgg23 rfl ?_))
    obtain ⟨aw, ax, rfl, ay⟩ := ro_slice h1
    refine gY (yV st_23 rfl) (gB rfl (gM rfl (gsd 12 rfl (fun aT => ?_) fun aT => ?_)))
    ·
     refine gM rfl (gF fo_25_0 rfl (gL hm 1 isAgg23 rfl (gF fo_25_0 rfl (gL hm 1 isAgg23 rfl (gY (yV st_23 rfl) (gY (yS (by omega) (by omega) rfl) (gg fun az aU aJ => ?_)))))))
     obtain ⟨bA, bB, bC, he⟩ := idx_form' h1 aJ
     obtain ⟨rfl, _, rfl⟩ := sl3 he
     obtain ⟨bD, aV, bE⟩ := rk_Code_ h1 aJ
     exact gI st_23 aU (idx_lt aJ) rfl (gF fo_59_0 rfl (gY (yl isAgg3 ((aV.mono hm.lez).cell (j := 0) rfl) rfl) (gB rfl (gKt rfl (gE (gz hm [0, 1, 2] rfl))))))
    exact gO rfl (gO rfl (gO rfl (gO rfl (gO rfl (gO rfl (gO rfl (gO rfl (gO rfl (gO rfl (gO rfl (gKf rfl (gE (gz hm [0, 1, 2] rfl)))))))))))))
   repeat clear hm
   intro aG w hm
   refine gs 24 rfl (fun aW => ?_) fun aW => ?_
   ·
    refine gct rfl (gSk (gS (gBk (gR (gM rfl (gM rfl (gM rfl ?_)))))))
    obtain ⟨aX, hle, hm1, hsub, aY⟩ := hm.take2 (L1 := [blk bp0 [v1p, (nV aA.1)] 62]) (L2 := [blk aE [v1] 25, ow [aC] aA.2.1]) [0] [1, 2] (by decide) rfl rfl
    refine gCg rfl call13 (pspec_l30Rd__pick_ok _ aX (⟨r_.b, aA.1⟩ : l30Rd) bp0 v1p (GT.mono hle h1p) 256 hm1 ) ?_
    rintro aD bF bG w ⟨rfl, hB⟩
    replace hm := aY _ _ hB; clear hB
    refine gf rfl (fun a hf => e_build (vs := #[(0, (nV 0)), (1, (nV 1)), (2, (nV 2)), (3, (nV 3)), (4, (nV 7)), (5, (nV 16)), (6, (nV 255)), (7, (nV aD.1))]) (cs := [(nV 0), (nV 1), (nV 2), (nV 3), (nV 7), (nV 16), (nV 255), (nV aD.1)]) et_26 hf hm rfl rfl (by kernel_rfl) rfl rfl) ?_
    rintro _ w ⟨aM, rfl, hm⟩
    replace hm := hm.lit (xs := ([0, 1, 2, 3, 7, 16, 255, aD.1] : List Int)) 0 rfl rfl rfl rfl
    obtain ⟨aZ, hle, hm1, hsub, aa⟩ := hm.take2 (L1 := [blk bp0 [v1p, (nV aD.2.p)] 62]) (L2 := [ow [(sV aM 0 8 8)] ([0, 1, 2, 3, 7, 16, 255, aD.1] : List Int), blk aE [v1] 25, ow [aC] aA.2.1]) [1] [0, 2, 3] (by decide) rfl rfl
    refine gCg rfl call16 (pspec_l30Rd__num_ok _ aZ (⟨r_.b, aD.2.p⟩ : l30Rd) bp0 v1p (GT.mono hle h1p) ([0, 1, 2, 3, 7, 16, 255, aD.1] : List Int) (sV aM 0 8 8) (fz_ow (hsub 0 _ rfl)) hm1 ) ?_
    rintro aK bH bJ w ⟨rfl, hB⟩
    replace hm := aa _ _ hB; clear hB
    refine gf rfl (fun a hf => e_build (vs := #[(0, (nV aK.1))]) (cs := [(nV aK.1)]) et_26 hf hm rfl rfl (by kernel_rfl) rfl rfl) ?_
    rintro _ w ⟨bK, rfl, hm⟩
    replace hm := hm.lit (xs := ([aK.1] : List Int)) 0 rfl rfl rfl rfl
    refine gb fun bL ab => ?_
    obtain ⟨ac, ae⟩ := appM_some.1 ab
    refine gf rfl (fun a hf => e_append 4 et_26 hf hm rfl (hm.ow_rep 0 rfl) rfl rfl rfl ac) ?_
    rintro af w hm
    rw [ae] at hm
    exact gA rfl (gE (gR (gM rfl (gB rfl (gA rfl (gE (gZe fun a hf => ⟨af, hf.sb rfl, hm.pk [1, 3, 4] rfl rfl⟩)))))))
   exact gcf rfl (gXt (gHh (gLp aS aR (gZ fun a hf => ⟨aC, hf.sb rfl, hm.pk [0, 2] rfl rfl⟩))))
  repeat clear hm
  rintro aB a w ⟨aF, hf, hm⟩
  refine gv hf (gS (gS (gR (gM rfl ?_))))
  obtain ⟨ag, hle, hm1, hsub, ah⟩ := hm.take2 (L1 := [blk bp0 [v1p, (nV aB.1)] 62]) (L2 := [ow [aF] aB.2]) [0] [1] (by decide) rfl rfl
  refine gCg rfl call13 (pspec_l30Rd__pick_ok _ ag (⟨r_.b, aB.1⟩ : l30Rd) bp0 v1p (GT.mono hle h1p) 40 hm1 ) ?_
  rintro aN bM bN w ⟨rfl, hB⟩
  replace hm := ah _ _ hB; clear hB
  refine gB rfl (gE (gJg (fun aH a w => ∃ (aI : Value), St 45 [(5, aI)] w0 hz [ow [aI] aH.1, blk bp0 [v1p, (nV aH.2)] 62] a w) (fun aH => ?_) ?_))
  ·
   refine gsd 37 rfl (fun ai => ?_) fun ai => ?_
   ·
    refine gct rfl (gR (gM rfl (gM rfl (gf rfl (fun a hf => e_build (vs := #[(0, (nV 0)), (1, (nV 256))]) (cs := [(nV 0), (nV 256)]) et_26 hf hm rfl rfl (by kernel_rfl) rfl rfl) ?_))))
    rintro _ w ⟨aO, rfl, hm⟩
    replace hm := hm.lit (xs := ([0, 256] : List Int)) 0 rfl rfl rfl rfl
    obtain ⟨aj, hle, hm1, hsub, ak⟩ := hm.take2 (L1 := [blk bp0 [v1p, (nV aN.2.p)] 62]) (L2 := [ow [(sV aO 0 2 2)] ([0, 256] : List Int), ow [aF] aB.2]) [1] [0, 2] (by decide) rfl rfl
    refine gCg rfl call16 (pspec_l30Rd__num_ok _ aj (⟨r_.b, aN.2.p⟩ : l30Rd) bp0 v1p (GT.mono hle h1p) ([0, 256] : List Int) (sV aO 0 2 2) (fz_ow (hsub 0 _ rfl)) hm1 ) ?_
    rintro aL bO bP w ⟨rfl, hB⟩
    replace hm := ak _ _ hB; clear hB
    refine gf rfl (fun a hf => e_build (vs := #[(0, (nV aL.1))]) (cs := [(nV aL.1)]) et_26 hf hm rfl rfl (by kernel_rfl) rfl rfl) ?_
    rintro _ w ⟨bQ, rfl, hm⟩
    replace hm := hm.lit (xs := ([aL.1] : List Int)) 0 rfl rfl rfl rfl
    refine gb fun bR al => ?_
    obtain ⟨am, an⟩ := appM_some.1 al
    refine gf rfl (fun a hf => e_append 3 et_26 hf hm rfl (hm.ow_rep 0 rfl) rfl rfl rfl am) ?_
    rintro ao w hm
    rw [an] at hm
    exact gA rfl (gE (gZ fun a hf => ⟨ao, hf.sb rfl, hm.pk [3, 1] rfl rfl⟩))
   exact gcf rfl (gSk (gZ fun a hf => ⟨aF, hf.sb rfl, hm.pk [1, 0] rfl rfl⟩))
  repeat clear hm
  rintro aH a w ⟨aI, hf, hm⟩
  exact gv hf (gS (gR (gM rfl (gA rfl (gE (gRt (gr1 results15 rfl ⟨aI, rfl, hm.pk [1, 0] rfl rfl⟩)))))))
theorem spec_DrawRunUnit_ok (w0 : World) (code : List UInt8) (v1 : Value) (h1 : GT.rep (hp w0) [v1] code) :
    ConM Try.prog 4 [v1] w0 (spec_DrawRunUnit code) fun r v w' => ∃ (x1 : Value) (x2 : Value), v = (.tuple #[(.agg #[x1]), x2, (nV r.2.2)]) ∧ Mem w0 (hp w0) w' [ow [x1] r.1.codes, ow [x2] r.2.1] := by
  unfold spec_DrawRunUnit
  refine gcon func4 rfl fun r => ?_
  have hm := Mem.start w0
  refine gS (gR (gAl hm zeroValue25 rfl fun aE w hm => gA rfl (gA rfl (gE (gS (gR (gM rfl (gCg rfl call11 (spec_l30Open_ok _ _ hm.lez code v1 h1 ) ?_))))))))
  rintro aG an ao w ⟨aB, aD, aO, rfl, aP, aH, hB⟩
  replace hm := Mem.giveA hm aP hB; clear hB
  refine gA rfl (gE (gS (gR (gM rfl ?_))))
  obtain ⟨aW, hle, hm1, hsub, aX⟩ := hm.take2 (L1 := [blk aB [aD, (nV aG.p)] 62]) (L2 := [blk aE [(.slice none 0 0)] 25]) [0] [1] (by decide) rfl rfl
  refine gCg rfl call12 (spec_l7Unit_ok _ aW aG aB aD (GT.mono hle aH) hm1 ) ?_
  rintro aK aq ar w ⟨aJ, rfl, hB⟩
  replace hm := aX _ _ hB; clear hB
  refine gAl hm zeroValue25 rfl fun aF w hm => gSN hm 0 sizeOf25 (one_cons (rep_one (hm.ow_rep 2 rfl)) one_nil) rfl fun w hm => gE (gS (gS (gR (gM rfl ?_))))
  obtain ⟨aY, hle, hm1, hsub, aZ⟩ := hm.take2 (L1 := [blk aB [aD, (nV aK.2.p)] 62]) (L2 := [blk aF [aJ] 25, ow [aJ] aK.1.codes, blk aE [(.slice none 0 0)] 25]) [1] [0, 2, 3] (by decide) rfl rfl
  refine gCg rfl call13 (pspec_l30Rd__pick_ok _ aY (⟨aG.b, aK.2.p⟩ : l30Rd) aB aD (GT.mono hle aH) 10 hm1 ) ?_
  rintro aQ au av w ⟨rfl, hB⟩
  replace hm := aZ _ _ hB; clear hB
  refine gB rfl (gE (gJg (fun aC a w => ∃ (aA : Value), St 23 [(2, (pV aE)), (5, (pV aB)), (6, (pV aF))] w0 aO [blk aE [(.slice none 0 0)] 25, blk aB [aD, (nV aC.1)] 62, blk aF [aA] 25, ow [aA] aC.2] a w) (fun aC => ?_) ?_))
  ·
   refine gsd 13 rfl (fun aa => ?_) fun aa => ?_
   ·
    refine gct rfl (gR (gM rfl ?_))
    obtain ⟨ab, hle, hm1, hsub, ac⟩ := hm.take2 (L1 := [blk aB [aD, (nV aQ.2.p)] 62]) (L2 := [blk aF [aJ] 25, ow [aJ] aK.1.codes, blk aE [(.slice none 0 0)] 25]) [0] [1, 2, 3] (by decide) rfl rfl
    refine gCg rfl call14 (spec_l7Bent_ok _ ab (⟨aG.b, aQ.2.p⟩ : l30Rd) aB aD (GT.mono hle aH) hm1 ) ?_
    rintro aw ax ay w ⟨ae, rfl, hB⟩
    replace hm := ac _ _ hB; clear hB
    exact gSN hm 2 sizeOf25 (one_cons (rep_one (hm.ow_rep 1 rfl)) one_nil) rfl fun w hm => gE (gZ fun a hf => ⟨ae, hf.sb rfl, hm.pk [4, 0, 2, 1] rfl rfl⟩)
   exact gcf rfl (gSk (gZ fun a hf => ⟨aJ, hf.sb rfl, hm.pk [3, 0, 1, 2] rfl rfl⟩))
  repeat clear hm
  rintro aC a w ⟨aA, hf, hm⟩
  refine gv hf (gS (gJg (fun aL a w => ∃ (aM : Value), St 23 [(2, (pV aE)), (3, aM), (4, (nV aL.2))] w0 aO [blk aE [aA] 25, ow [aA] aC.2, ow [aM] aL.1] a w) (fun aL => ?_) ?_))
  ·
   refine gW (.p 1 (.p 4 (.q 0 (.q 2 (.e 3 (.e 5 (.e 6 (.e 7 (.p 8 (.p 9 .fin)) .nil) .nil) .nil) (.e 5 (.e 3 (.e 6 (.e 7 (.p 8 (.p 9 .fin)) .nil) .nil) .nil) .nil)))))) [0, 2, 3, 5, 6] [1, 4, 8, 9] hm [0, 2, 3] [blk aE [(.slice none 0 0)] 25, blk aF [aA] 25, ow [aA] aC.2] rfl mxo (by kernel_rfl) (fun _ _ _ h => h.2) fun w hm hS => tP rfl (fun w => yM rfl) (tP rfl (fun w => yM rfl) (tQ rfl hS (fun w hm => yn (hm.blk_at 1 rfl) isAgg25 sizeOf25 rfl) (tQ rfl hS (fun w hm => yn (hm.blk_at 1 rfl) isAgg25 sizeOf25 rfl) (gb fun aI aR => gb fun az aS => tMo ?_ ?_))))
   ·
    obtain ⟨af, hle, hm1, hsub, ag⟩ := hm.take2 (L1 := [blk aB [aD, (nV aC.1)] 62]) (L2 := [blk aE [(.slice none 0 0)] 25, blk aF [aA] 25, ow [aA] aC.2]) [1] [0, 2, 3] (by decide) rfl rfl
    refine tf rfl rfl (fun a hf => e_call hf rfl call15 rfl (spec_l8In_ok _ af (⟨aG.b, aC.1⟩ : l30Rd) aB aD (GT.mono hle aH) (⟨aC.2⟩ : Unit_) aA (fz_ow (hsub 2 _ rfl)) hm1  _ aR)) ?_
    rintro aT w ⟨_, rfl, hB⟩
    replace hm := ag _ _ hB; clear hB
    refine tAk hm [2, 3, 4] rfl fun hS => tO (tf rfl rfl (fun a hf => e_build (vs := #[(0, (nV 300)), (1, (nV 300)), (2, (nV 50)), (3, (nV 8)), (4, (nV 3)), (5, (nV 1)), (6, (nV 0)), (7, (nV 2000)), (8, (nV (-1))), (9, (nV 60001))]) (cs := [(nV 300), (nV 300), (nV 50), (nV 8), (nV 3), (nV 1), (nV 0), (nV 2000), (nV (-1)), (nV 60001)]) et_26 hf hm rfl rfl (by kernel_rfl) rfl rfl) ?_)
    rintro _ w ⟨aU, rfl, hm⟩
    replace hm := hm.lit (xs := ([300, 300, 50, 8, 3, 1, 0, 2000, -1, 60001] : List Int)) 0 rfl rfl rfl rfl
    refine tAk hm [3, 4, 5] rfl fun hS => tO ?_
    obtain ⟨ah, hle, hm1, hsub, ai⟩ := hm.take2 (L1 := [blk aB [aD, (nV aI.2.p)] 62]) (L2 := [ow [(sV aU 0 10 10)] ([300, 300, 50, 8, 3, 1, 0, 2000, -1, 60001] : List Int), ow [aT] aI.1, blk aE [(.slice none 0 0)] 25, blk aF [aA] 25, ow [aA] aC.2]) [1] [0, 2, 3, 4, 5] (by decide) rfl rfl
    refine tf rfl rfl (fun a hf => e_call hf rfl call16 rfl (pspec_l30Rd__num_ok _ ah (⟨aG.b, aI.2.p⟩ : l30Rd) aB aD (GT.mono hle aH) ([300, 300, 50, 8, 3, 1, 0, 2000, -1, 60001] : List Int) (sV aU 0 10 10) (fz_ow (hsub 0 _ rfl)) hm1  _ aS)) ?_
    rintro bA w ⟨rfl, hB⟩
    replace hm := ai _ _ hB; clear hB
    refine tAk hm [3, 4, 5] rfl fun hS => tO (tf0 rfl rfl (fun a hf => e_storeN 3 hf hm rfl sizeOf25 rfl rfl rfl (one_cons (rep_one (hm.ow_rep 5 rfl)) one_nil) rfl rfl) ?_)
    rintro _ w hm
    exact tAn rfl (tP rfl (fun w => yA rfl) (tP rfl (fun w => yA rfl) (tE (gZ fun a hf => ⟨aT, hf.sb rfl, hm.pk [3, 5, 2] rfl rfl⟩))))
   refine tO (tf rfl rfl (fun a hf => e_build (vs := #[(0, (nV 300)), (1, (nV 300)), (2, (nV 50)), (3, (nV 8)), (4, (nV 3)), (5, (nV 1)), (6, (nV 0)), (7, (nV 2000)), (8, (nV (-1))), (9, (nV 60001))]) (cs := [(nV 300), (nV 300), (nV 50), (nV 8), (nV 3), (nV 1), (nV 0), (nV 2000), (nV (-1)), (nV 60001)]) et_26 hf hm rfl rfl (by kernel_rfl) rfl rfl) ?_)
   rintro _ w ⟨aN, rfl, hm⟩
   replace hm := hm.lit (xs := ([300, 300, 50, 8, 3, 1, 0, 2000, -1, 60001] : List Int)) 0 rfl rfl rfl rfl
   refine tAk hm [1, 3, 4] rfl fun hS => tO ?_
   obtain ⟨aj, hle, hm1, hsub, ak⟩ := hm.take2 (L1 := [blk aB [aD, (nV aC.1)] 62]) (L2 := [ow [(sV aN 0 10 10)] ([300, 300, 50, 8, 3, 1, 0, 2000, -1, 60001] : List Int), blk aE [(.slice none 0 0)] 25, blk aF [aA] 25, ow [aA] aC.2]) [2] [0, 1, 3, 4] (by decide) rfl rfl
   refine tf rfl rfl (fun a hf => e_call hf rfl call15 rfl (spec_l8In_ok _ aj (⟨aG.b, aC.1⟩ : l30Rd) aB aD (GT.mono hle aH) (⟨aC.2⟩ : Unit_) aA (fz_ow (hsub 3 _ rfl)) hm1  _ aR)) ?_
   rintro aV w ⟨_, rfl, hB⟩
   replace hm := ak _ _ hB; clear hB
   refine tAk hm [3, 4, 5] rfl fun hS => tO ?_
   obtain ⟨al, hle, hm1, hsub, am⟩ := hm.take2 (L1 := [blk aB [aD, (nV aI.2.p)] 62]) (L2 := [ow [aV] aI.1, ow [(sV aN 0 10 10)] ([300, 300, 50, 8, 3, 1, 0, 2000, -1, 60001] : List Int), blk aE [(.slice none 0 0)] 25, blk aF [aA] 25, ow [aA] aC.2]) [0] [1, 2, 3, 4, 5] (by decide) rfl rfl
   refine tf rfl rfl (fun a hf => e_call hf rfl call16 rfl (pspec_l30Rd__num_ok _ al (⟨aG.b, aI.2.p⟩ : l30Rd) aB aD (GT.mono hle aH) ([300, 300, 50, 8, 3, 1, 0, 2000, -1, 60001] : List Int) (sV aN 0 10 10) (fz_ow (hsub 1 _ rfl)) hm1  _ aS)) ?_
   rintro bB w ⟨rfl, hB⟩
   replace hm := am _ _ hB; clear hB
   refine tAk hm [3, 4, 5] rfl fun hS => tO (tf0 rfl rfl (fun a hf => e_storeN 3 hf hm rfl sizeOf25 rfl rfl rfl (one_cons (rep_one (hm.ow_rep 5 rfl)) one_nil) rfl rfl) ?_)
   rintro _ w hm
   exact tAn rfl (tP rfl (fun w => yA rfl) (tP rfl (fun w => yA rfl) (tE (gZ fun a hf => ⟨aV, hf.sb rfl, hm.pk [3, 5, 1] rfl rfl⟩))))
  repeat clear hm
  rintro aL a w ⟨aM, hf, hm⟩
  refine gv hf (gRt ?_)
  replace hm := hm.thaw aP
  exact grct2 0 results4 hm rfl isAgg25 sizeOf25 ⟨aA, aM, rfl, hm.pk [1, 2] rfl rfl⟩
theorem impl_within_ok (w0 : World) (n_ : Int) (low : Int) (high : Int) :
    ConM Try.prog 32 [(nV n_), (nV low), (nV high)] w0 (impl_within n_ low high) fun r v w' => v = (.bool (r)) ∧ Below w0.heap.size w0 w' := by
  unfold impl_within
  refine gcon func32 rfl fun r => ?_
  have hm := Mem.start w0
  refine gS (gR (gA rfl (gE (gS (gJ hm (fun aA => [(6, (.bool (aA)))]) (fun aA => []) (fun aA => ?_) ?_)))))
  ·
   refine gR (gM rfl (gM rfl (gB rfl (gM rfl (gsd 10 rfl (fun aB => ?_) fun aB => ?_)))))
   ·
    exact gM rfl (gM rfl (gB rfl (gKt rfl (gA rfl (gE (gz hm [] rfl))))))
   exact gO rfl (gO rfl (gO rfl (gKf rfl (gA rfl (gE (gz hm [] rfl))))))
  repeat clear hm
  intro aA w hm
  exact gRt (gr1 results32 rfl ⟨rfl, hm.below⟩)
theorem impl_codeOk_1_ok (w0 : World) (r_ : Int) (c0_ : Code_) (v1 : Value) (h1 : GT.rep (hp w0) [v1] c0_.blocks) (bf0 : Nat) (hbf0 : w0.heap[bf0]? = some (.cells ([(nV c0_.params), (nV c0_.regs), v1] : List Value).toArray 59 (0, 0))) :
    ConM Try.prog 62 [(nV r_), (pV bf0)] w0 (impl_codeOk_1 r_ c0_) fun r v w' => v = (.bool (r)) ∧ Below w0.heap.size w0 w' := by
  unfold impl_codeOk_1
  refine gcon func62 rfl fun r => ?_
  have hm := Mem.start w0
  exact gS (gR (gA rfl (gE (gS (gR (gM rfl (gF fo_59_1 rfl (gY (yl isAgg3 (hm.old_cell hbf0 rfl) rfl) (gB rfl (gC hm rfl call32 (impl_within_ok _ r_ 0 (w64 (c0_.regs - 1))) fun aA aB w hm => gA rfl (gE (gRt (gr1 results62 rfl ⟨rfl, hm.below⟩)))))))))))))
theorem impl_nextCount_ok (w0 : World) (jump : Int) :
    ConM Try.prog 63 [(nV jump)] w0 (impl_nextCount jump) fun r v w' => v = (nV r) ∧ Below w0.heap.size w0 w' := by
  unfold impl_nextCount
  refine gcon func63 rfl fun r => ?_
  have hm := Mem.start w0
  refine gS (gR (gA rfl (gE (gS (gS (gR (gM rfl (gE (gBk (gS (gR (gB rfl (gA rfl (gE (gsd 4 rfl (fun aA => ?_) fun aA => ?_)))))))))))))))
  ·
   exact gct rfl (gS (gR (gA rfl (gE (gRt (gr1 results63 rfl ⟨rfl, hm.below⟩))))))
  refine gcf rfl (gS (gR (gB rfl (gA rfl (gE (gsd 6 rfl (fun aB => ?_) fun aB => ?_))))))
  ·
   exact gct rfl (gS (gR (gA rfl (gE (gRt (gr1 results63 rfl ⟨rfl, hm.below⟩))))))
  refine gcf rfl (gS (gR (gB rfl (gA rfl (gE (gsd 8 rfl (fun aC => ?_) fun aC => ?_))))))
  ·
   exact gct rfl (gS (gR (gA rfl (gE (gRt (gr1 results63 rfl ⟨rfl, hm.below⟩))))))
  exact gcf rfl (gSk (gS (gR (gA rfl (gE (gRt (gr1 results63 rfl ⟨rfl, hm.below⟩)))))))
theorem impl_usesOn_ok (w0 : World) (jump : Int) :
    ConM Try.prog 64 [(nV jump)] w0 (impl_usesOn jump) fun r v w' => v = (.bool (r)) ∧ Below w0.heap.size w0 w' := by
  unfold impl_usesOn
  refine gcon func64 rfl fun r => ?_
  have hm := Mem.start w0
  refine gS (gR (gA rfl (gE (gS (gJ hm (fun aA => [(2, (.bool (aA)))]) (fun aA => []) (fun aA => ?_) ?_)))))
  ·
   refine gR (gM rfl (gB rfl (gM rfl (gsd 5 rfl (fun aB => ?_) fun aB => ?_))))
   ·
    exact gO rfl (gO rfl (gKt rfl (gA rfl (gE (gz hm [] rfl)))))
   exact gM rfl (gB rfl (gKf rfl (gA rfl (gE (gz hm [] rfl)))))
  repeat clear hm
  intro aA w hm
  exact gRt (gr1 results64 rfl ⟨rfl, hm.below⟩)
theorem impl_codeOk_2_ok (w0 : World) (n_ : Int) (c0_ : Code_) (v1 : Value) (h1 : GT.rep (hp w0) [v1] c0_.blocks) (bf0 : Nat) (hbf0 : w0.heap[bf0]? = some (.cells ([(nV c0_.params), (nV c0_.regs), v1] : List Value).toArray 59 (0, 0))) :
    ConM Try.prog 65 [(nV n_), (pV bf0)] w0 (impl_codeOk_2 n_ c0_) fun r v w' => v = (.bool (r)) ∧ Below w0.heap.size w0 w' := by
  unfold impl_codeOk_2
  refine gcon func65 rfl fun r => ?_
  have hm := Mem.start w0
  refine gS (gR (gA rfl (gE (gS (gR (gM rfl (gF fo_59_2 rfl (gY (yl isAgg57 (hm.old_cell hbf0 rfl) rfl) ?_))))))))
  obtain ⟨aA, aB, rfl, aC⟩ := ro_slice h1
  exact gY (yV st_57 rfl) (gY (yS (by omega) (by omega) rfl) (gC hm rfl call32 (impl_within_ok _ n_ 1 (((c0_.blocks.length : Int)) - 1)) fun aD aE w hm => gN rfl (gA rfl (gE (gRt (gr1 results65 rfl ⟨rfl, hm.below⟩))))))
theorem slices_IndexFunc_S_int_int_ok (w0 : World) (s_ : List Int) (v1 : Value) (h1 : GT.rep (hp w0) [v1] s_) (f : Int → Option Bool) (fv1 : Value) (hfn1 : ∀ (w : World) (y0 : Int) (r : Bool), Below w0.heap.size w0 w → f y0 = some r → FnOk Try.prog fv1 [(nV y0)] w (fun v w' => v = (.bool (r)) ∧ Below w.heap.size w w')) :
    ConM Try.prog 76 [v1, fv1] w0 (slices_IndexFunc_S_int_int s_ f) fun r v w' => v = (nV r) ∧ Below w0.heap.size w0 w' := by
  unfold slices_IndexFunc_S_int_int
  refine gcon func76 rfl fun r => ?_
  have hm := Mem.start w0
  refine gS (gR (gA rfl (gE (gS (gS (gR (gM rfl ?_)))))))
  obtain ⟨aE, aF, rfl, aL⟩ := ro_slice h1
  refine gY (yV st_26 rfl) (gM rfl (gE (gBk (gNf hm (fun aA aC => [(0, (.slice aE s_.length aF)), (1, fv1), (7, (nV ((s_.length : Int)))), (8, (nV aA))]) (fun aA aC => []) [] rfl ?_ ?_))))
  ·
   repeat clear hm
   intro aM aG aA aC w hm aN aO aP aH
   refine gS (gR (gB rfl (gE (gS (go _ 9 rfl (decide_eq_true (by omega)) (gct rfl (gSk (gS (gBk (gS (gR (gM rfl (gA rfl (gE (gS (gR (gM rfl (gM rfl (gM rfl (gg fun aD aI aB => ?_))))))))))))))))))))
   obtain ⟨aQ, aR, aS, he⟩ := idx_form h1 aB
   obtain ⟨rfl, _, rfl⟩ := sl3 he
   refine gI st_26 aI (idx_lt aB) rfl (gY (yl isAgg3 ((flat_cells (cs := [(nV aD)]) (hm.now h1) aB rfl).cell (j := 0) rfl) rfl) (gb fun aT aJ => gf rfl (fun a hf => e_callv hf rfl rfl rfl (hfn1 _ aD _ hm.below aJ)) ?_))
   rintro aU w ⟨rfl, hB⟩
   replace hm := hm.below' hB; clear hB
   refine gE (gs 16 rfl (fun aK => ?_) fun aK => ?_)
   ·
    exact gct rfl (gS (gR (gM rfl (gA rfl (gE (gRt (gLr aH aG (gr1 results76 rfl ⟨rfl, hm.below⟩))))))))
   exact gcf rfl (gSk (gR (gP (by omega) (by omega) rfl (gM rfl (gE (gze hm [] rfl))))))
  repeat clear hm
  intro aV aW w hm aX aY
  exact gS (gR (gB rfl (gE (gS (go _ 9 rfl (decide_eq_false (by omega)) (gcf rfl (gXt (gHh (gS (gR (gA rfl (gE (gRt (gr1 results76 rfl ⟨rfl, hm.below⟩))))))))))))))
theorem slices_ContainsFunc_S_int_int_ok (w0 : World) (s_ : List Int) (v1 : Value) (h1 : GT.rep (hp w0) [v1] s_) (f : Int → Option Bool) (fv1 : Value) (hfn1 : ∀ (w : World) (y0 : Int) (r : Bool), Below w0.heap.size w0 w → f y0 = some r → FnOk Try.prog fv1 [(nV y0)] w (fun v w' => v = (.bool (r)) ∧ Below w.heap.size w w')) :
    ConM Try.prog 48 [v1, fv1] w0 (slices_ContainsFunc_S_int_int s_ f) fun r v w' => v = (.bool (r)) ∧ Below w0.heap.size w0 w' := by
  unfold slices_ContainsFunc_S_int_int
  refine gcon func48 rfl fun r => ?_
  have hm := Mem.start w0
  exact gS (gR (gA rfl (gE (gS (gR (gM rfl (gM rfl (gC hm rfl call76 (slices_IndexFunc_S_int_int_ok _ s_ v1 (hm.now h1) f fv1 (fun w y0 r hB hq => hfn1 w y0 r (hm.below.trans (hB.mono hm.below.size)) hq)) fun aA aB w hm => gB rfl (gA rfl (gE (gRt (gr1 results48 rfl ⟨rfl, hm.below⟩))))))))))))
theorem impl_insOk_1_ok (w0 : World) (r_ : Int) (c0_ : Code_) (v1 : Value) (h1 : GT.rep (hp w0) [v1] c0_.blocks) (bf0 : Nat) (hbf0 : w0.heap[bf0]? = some (.cells ([(nV c0_.params), (nV c0_.regs), v1] : List Value).toArray 59 (0, 0))) :
    ConM Try.prog 88 [(nV r_), (pV bf0)] w0 (impl_insOk_1 r_ c0_) fun r v w' => v = (.bool (r)) ∧ Below w0.heap.size w0 w' := by
  unfold impl_insOk_1
  refine gcon func88 rfl fun r => ?_
  have hm := Mem.start w0
  exact gS (gR (gA rfl (gE (gS (gR (gM rfl (gF fo_59_1 rfl (gY (yl isAgg3 (hm.old_cell hbf0 rfl) rfl) (gB rfl (gC hm rfl call32 (impl_within_ok _ r_ 0 (w64 (c0_.regs - 1))) fun aA aB w hm => gA rfl (gE (gRt (gr1 results88 rfl ⟨rfl, hm.below⟩)))))))))))))
theorem impl_isIns_ok (w0 : World) (op : Int) :
    ConM Try.prog 89 [(nV op)] w0 (impl_isIns op) fun r v w' => v = (.bool (r)) ∧ Below w0.heap.size w0 w' := by
  unfold impl_isIns
  refine gcon func89 rfl fun r => ?_
  have hm := Mem.start w0
  exact gS (gR (gA rfl (gE (gS (gR (gM rfl (gC hm rfl call32 (impl_within_ok _ op 1 14) fun aA aB w hm => gA rfl (gE (gRt (gr1 results89 rfl ⟨rfl, hm.below⟩))))))))))
theorem impl_insOk_2_ok (w0 : World) (r_ : Int) (c0_0_ : Code_) (v1 : Value) (h1 : GT.rep (hp w0) [v1] c0_0_.blocks) (aA : Nat) (aB : w0.heap[aA]? = some (.cells ([(nV c0_0_.params), (nV c0_0_.regs), v1] : List Value).toArray 59 (0, 0))) (bf0 : Nat) (hbf0 : w0.heap[bf0]? = some (.cells ([(.func (.func 88) #[] #[(pV aA)])] : List Value).toArray 96 (0, 0))) :
    ConM Try.prog 90 [(nV r_), (pV bf0)] w0 (impl_insOk_2 r_ c0_0_) fun r v w' => v = (.bool (r)) ∧ Below w0.heap.size w0 w' := by
  unfold impl_insOk_2
  refine gcon func90 rfl fun r => ?_
  have hm := Mem.start w0
  refine gS (gR (gA rfl (gE (gS (gR (gY (yl isAgg96 (hm.old_cell hbf0 rfl) rfl) (gM rfl (gb fun aD aC => gf rfl (fun a hf => e_callv hf rfl rfl rfl ⟨88, [(pV aA)], rfl, call88, impl_insOk_1_ok _ r_ c0_0_ v1 (rep_later (hm.now h1) (Below.refl _ _)) aA (hm.old_later aB (Below.refl _ _)) _ aC⟩) ?_))))))))
  rintro aE w ⟨rfl, hB⟩
  replace hm := hm.below' hB; clear hB
  exact gN rfl (gA rfl (gE (gRt (gr1 results90 rfl ⟨rfl, hm.below⟩))))
theorem impl_sets_ok (w0 : World) (op : Int) :
    ConM Try.prog 72 [(nV op)] w0 (impl_sets op) fun r v w' => v = (.bool (r)) ∧ Below w0.heap.size w0 w' := by
  unfold impl_sets
  refine gcon func72 rfl fun r => ?_
  have hm := Mem.start w0
  refine gS (gR (gA rfl (gE (gS (gJ hm (fun aA => [(2, (.bool (aA)))]) (fun aA => []) (fun aA => ?_) ?_)))))
  ·
   refine gR (gM rfl (gC hm rfl call89 (impl_isIns_ok _ op) fun aD aE w hm => gM rfl (gs 5 rfl (fun aB => ?_) fun aB => ?_)))
   ·
    refine gM rfl (gB rfl (gKt rfl (gM rfl (gsd 9 rfl (fun aC => ?_) fun aC => ?_))))
    ·
     exact gM rfl (gB rfl (gKt rfl (gA rfl (gE (gz hm [] rfl)))))
    exact gO rfl (gO rfl (gKf rfl (gA rfl (gE (gz hm [] rfl)))))
   exact gO rfl (gO rfl (gKf rfl (gM rfl (gO rfl (gO rfl (gKf rfl (gA rfl (gE (gz hm [] rfl)))))))))
  repeat clear hm
  intro aA w hm
  exact gRt (gr1 results72 rfl ⟨rfl, hm.below⟩)
theorem impl_isByte_ok (w0 : World) (n_ : Int) :
    ConM Try.prog 50 [(nV n_)] w0 (impl_isByte n_) fun r v w' => v = (.bool (r)) ∧ Below w0.heap.size w0 w' := by
  unfold impl_isByte
  refine gcon func50 rfl fun r => ?_
  have hm := Mem.start w0
  exact gS (gR (gA rfl (gE (gS (gR (gM rfl (gC hm rfl call32 (impl_within_ok _ n_ 0 255) fun aA aB w hm => gA rfl (gE (gRt (gr1 results50 rfl ⟨rfl, hm.below⟩))))))))))
theorem impl_insArgs_ok (w0 : World) (op : Int) :
    ConM Try.prog 91 [(nV op)] w0 (impl_insArgs op) fun r v w' => v = (nV r) ∧ Below w0.heap.size w0 w' := by
  unfold impl_insArgs
  refine gcon func91 rfl fun r => ?_
  have hm := Mem.start w0
  refine gS (gR (gA rfl (gE (gS (gS (gR (gM rfl (gE (gBk (gS (gR (gB rfl (gA rfl (gE (gsd 4 rfl (fun aD => ?_) fun aD => ?_)))))))))))))))
  ·
   exact gct rfl (gS (gR (gA rfl (gE (gRt (gr1 results91 rfl ⟨rfl, hm.below⟩))))))
  refine gcf rfl (gS (gS (gR (gB rfl (gA rfl (gE (gJ hm (fun aA => [(6, (.bool (aA)))]) (fun aA => []) (fun aA => ?_) ?_)))))))
  ·
   refine gsd 6 rfl (fun aE => ?_) fun aE => ?_
   ·
    exact gct rfl (gSk (gz hm [] rfl))
   refine gcf rfl (gS (gR (gB rfl (gA rfl (gE (gJ hm (fun aB => [(6, (.bool (aB)))]) (fun aB => []) (fun aB => ?_) ?_))))))
   ·
    refine gsd 6 rfl (fun aF => ?_) fun aF => ?_
    ·
     exact gct rfl (gSk (gz hm [] rfl))
    refine gcf rfl (gS (gR (gB rfl (gA rfl (gE (gJ hm (fun aC => [(6, (.bool (aC)))]) (fun aC => []) (fun aC => ?_) ?_))))))
    ·
     refine gsd 6 rfl (fun aG => ?_) fun aG => ?_
     ·
      exact gct rfl (gSk (gz hm [] rfl))
     exact gcf rfl (gR (gB rfl (gA rfl (gE (gz hm [] rfl)))))
    repeat clear hm
    intro aC w hm
    exact gz hm [] rfl
   repeat clear hm
   intro aB w hm
   exact gz hm [] rfl
  repeat clear hm
  intro aA w hm
  refine gs 6 rfl (fun aH => ?_) fun aH => ?_
  ·
   exact gct rfl (gS (gR (gA rfl (gE (gRt (gr1 results91 rfl ⟨rfl, hm.below⟩))))))
  exact gcf rfl (gSk (gS (gR (gA rfl (gE (gRt (gr1 results91 rfl ⟨rfl, hm.below⟩)))))))
end Go.Proofs.Ytabgclojkbijbaa
