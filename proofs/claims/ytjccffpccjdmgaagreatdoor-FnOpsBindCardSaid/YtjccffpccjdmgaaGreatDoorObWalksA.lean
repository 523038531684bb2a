/- A part of the proof of FnOpsBindCardSaid. -/
import Derived.Test.YtjccffpccjdmgaaGreatDoorObModels
import Derived.Test.YtjccffpccjdmgaaGreatDoorChecked
import Derived.Test.YtjccffpccjdmgaaGreatDoorObLays
import Derived.Test.YtjccffpccjdmgaaGreatDoorWkAd
namespace Go.Proofs.YtjccffpccjdmgaaGreatDoor
open Go Go.Wk Go.RowKit
set_option maxRecDepth 4000
set_option maxHeartbeats 4000000
open Tryz
theorem mxo : Tryz.prog.follows .mixedOrders = true := by kernel_rfl
theorem fo_24_0 : FieldOff Tryz.prog 24 0 0 := by have h := FieldOff.mk (k := 0) underlying24 rfl sizeOf3; exact h
theorem fo_24_1 : FieldOff Tryz.prog 24 1 1 := by have h := FieldOff.mk (k := 1) underlying24 rfl sizeOf3; exact h
theorem fo_24_2 : FieldOff Tryz.prog 24 2 2 := by have h := FieldOff.mk (k := 2) underlying24 rfl sizeOf9; exact h
theorem fo_24_3 : FieldOff Tryz.prog 24 3 3 := by have h := FieldOff.mk (k := 3) underlying24 rfl sizeOf22; exact h
theorem fo_56_0 : FieldOff Tryz.prog 56 0 0 := by have h := FieldOff.mk (k := 0) underlying56 rfl sizeOf3; exact h
theorem fo_56_1 : FieldOff Tryz.prog 56 1 1 := by have h := FieldOff.mk (k := 1) underlying56 rfl sizeOf9; exact h
theorem fo_63_0 : FieldOff Tryz.prog 63 0 0 := by have h := FieldOff.mk (k := 0) underlying63 rfl sizeOf41; exact h
theorem fo_63_1 : FieldOff Tryz.prog 63 1 1 := by have h := FieldOff.mk (k := 1) underlying63 rfl sizeOf4; exact h
theorem fo_120_0 : FieldOff Tryz.prog 120 0 0 := by have h := FieldOff.mk (k := 0) underlying120 rfl sizeOf9; exact h
theorem fo_120_1 : FieldOff Tryz.prog 120 1 1 := by have h := FieldOff.mk (k := 1) underlying120 rfl sizeOf3; exact h
theorem fo_124_0 : FieldOff Tryz.prog 124 0 0 := by have h := FieldOff.mk (k := 0) underlying124 rfl sizeOf30; exact h
theorem fo_124_1 : FieldOff Tryz.prog 124 1 1 := by have h := FieldOff.mk (k := 1) underlying124 rfl sizeOf3; exact h
theorem st_22 : SliceTy Tryz.prog 22 24 4 := ⟨underlying22, sizeOf24⟩
theorem st_30 : SliceTy Tryz.prog 30 5 1 := ⟨underlying30, sizeOf5⟩
theorem st_41 : SliceTy Tryz.prog 41 56 2 := ⟨underlying41, sizeOf56⟩
theorem st_74 : SliceTy Tryz.prog 74 9 1 := ⟨underlying74, sizeOf9⟩
theorem st_83 : SliceTy Tryz.prog 83 3 1 := ⟨underlying83, sizeOf3⟩
theorem et_22 : ElemTy Tryz.prog 22 24 4 (.agg #[(.int .i64 (0)), (.int .i64 (0)), (.string ⟨((mkS [])).b.toArray⟩), (.slice none 0 0)]) := ⟨underlying22, ⟨_, (by kernel_rfl : Tryz.prog.info? 24 = some t24), rfl, by decide, rfl⟩, rfl, by decide⟩
theorem et_41 : ElemTy Tryz.prog 41 56 2 (.agg #[(.int .i64 (0)), (.string ⟨((mkS [])).b.toArray⟩)]) := ⟨underlying41, ⟨_, (by kernel_rfl : Tryz.prog.info? 56 = some t56), rfl, by decide, rfl⟩, rfl, by decide⟩
theorem et_74 : ElemTy Tryz.prog 74 9 1 (.string ⟨((mkS [])).b.toArray⟩) := ⟨underlying74, ⟨_, (by kernel_rfl : Tryz.prog.info? 9 = some t9), rfl, by decide, rfl⟩, rfl, by decide⟩
theorem et_83 : ElemTy Tryz.prog 83 3 1 (.int .i64 (0)) := ⟨underlying83, ⟨_, (by kernel_rfl : Tryz.prog.info? 3 = some t3), rfl, by decide, rfl⟩, rfl, by decide⟩
theorem spec_l30Open_ok (w0 : World) (hz : Heap) (hle0 : Heap.le hz (hp w0)) (code : List UInt8) (v1 : Value) (h1 : GT.rep hz [v1] code) :
    ConM Tryz.prog 50 [v1] w0 (spec_l30Open code) fun r v w' => ∃ (b1 : Nat) (x2 : Value) (hz2 : Heap), v = (pV b1) ∧ Heap.le hz hz2 ∧ GT.rep hz2 [x2] r.b ∧ Mem w0 hz2 w' [junk w0 hz, blk b1 [x2, (nV r.p)] 124] := by
  unfold spec_l30Open
  refine gcon func50 rfl fun r => ?_
  have hm := Mem.startA hle0
  refine gS (gR (gA rfl (gE (gS (gS (gR (gM rfl ?_)))))))
  obtain ⟨aE, aF, rfl, aQ⟩ := ro_slice h1
  refine gY (yV st_30 rfl) (gB rfl (gE (gJg (fun aA a w => ∃ (aB : Value), GT.rep hz [aB] (aA) ∧ St 11 [(0, aB)] w0 hz [junk w0 hz] a w) (fun aA => ?_) ?_)))
  ·
   refine gsd 5 rfl (fun aH => ?_) fun aH => ?_
   ·
    refine gct rfl (gR (gM rfl (gb fun aI aJ => ?_)))
    obtain ⟨aK, aL⟩ := subM_some.1 aJ
    obtain ⟨aM, aN, aO⟩ : ∃ nv, nv = subV (GT.sz (UInt8)) (.slice aE code.length aF) (0 : Int).toNat (2000 : Int).toNat ∧ GT.rep hz [nv] aI := ⟨_, rfl, by rw [← aL]; exact rep_subV h1 (by omega) (by omega)⟩
    exact gY (yG rfl (yl_eq aN (y_slcH (α := UInt8) st_30 h1 rfl rfl rfl aK _))) (gA rfl (gE (gZ fun a hf => ⟨aM, aO, hf.sb rfl, hm.pk [0] rfl rfl⟩)))
   exact gcf rfl (gSk (gZ fun a hf => ⟨(.slice aE code.length aF), h1, hf.sb rfl, hm.pk [0] rfl rfl⟩))
  repeat clear hm
  rintro aA a w ⟨aB, aG, hf, hm⟩
  refine gv hf (gS (gR (gM rfl ?_)))
  obtain ⟨aC, aD, rfl, aR⟩ := ro_slice aG
  exact gY (yG rfl (y_build (vs := [(0, (.slice aC aA.length aD))]) (cs := #[(.slice aC aA.length aD), (nV 0)]) rfl rfl (by kernel_rfl))) (gBx hm rfl fun aP w hm => gA rfl (gE (gRt (gr1 results50 rfl ⟨aP, (.slice aC aA.length aD), hz, rfl, (Heap.le_refl _), aG, hm.pk [1, 0] rfl rfl⟩))))
theorem pspec_l30Rd__pick_ok (w0 : World) (hz : Heap) (r_ : l30Rd) (bp0 : Nat) (v1p : Value) (h1p : GT.rep hz [v1p] r_.b) (n_ : Int) (hm0 : Mem w0 hz w0 [blk bp0 [v1p, (nV r_.p)] 124]) :
    ConM Tryz.prog 52 [(pV bp0), (nV n_)] w0 (pspec_l30Rd__pick r_ n_) fun r v w' => v = (nV r.1) ∧ Mem w0 hz w' [blk bp0 [v1p, (nV r.2.p)] 124] := by
  unfold pspec_l30Rd__pick
  refine gcon func52 rfl fun r => ?_
  have hm := hm0
  refine gS (gR (gA rfl (gE (gS (gR (gM rfl (gM rfl (gY (yG rfl (y_nilptr rfl rfl)) (gF fo_124_1 rfl (gL hm 0 isAgg3 rfl (gB rfl (gY (yG rfl (y_nilptr rfl rfl)) (gF fo_124_1 rfl (gS1 hm 0 sizeOf3 rfl rfl fun w hm => gE (gS (gS (gJ hm (fun aA => [(0, (pV bp0)), (1, (nV n_)), (24, (.bool (aA)))]) (fun aA => [blk bp0 [v1p, (nV (w64 (r_.p + 1)))] 124]) (fun aA => ?_) ?_)))))))))))))))))
  ·
   refine gR (gM rfl (gB rfl (gM rfl (gsd 17 rfl (fun aH => ?_) fun aH => ?_))))
   ·
    exact gO rfl (gO rfl (gO rfl (gO rfl (gO rfl (gO rfl (gKt rfl (gE (gz hm [0] rfl))))))))
   refine gM rfl (gY (yG rfl (y_nilptr rfl rfl)) (gF fo_124_0 rfl (gL hm 0 isAgg30 rfl ?_)))
   obtain ⟨a8, aa, rfl, ab⟩ := ro_slice h1p
   exact gY (yV st_30 rfl) (gB rfl (gKf rfl (gE (gz hm [0] rfl))))
  repeat clear hm
  intro aA w hm
  refine gs 24 rfl (fun aI => ?_) fun aI => ?_
  ·
   exact gct rfl (gS (gR (gA rfl (gE (gRt (gr1 results52 rfl ⟨rfl, hm.pk [0] rfl rfl⟩))))))
  refine gcf rfl (gSk (gS (gR (gM rfl (gY (yG rfl (y_nilptr rfl rfl)) (gF fo_124_1 rfl (gL hm 0 isAgg3 rfl (gB rfl (gA rfl (gE (gS (gS (gR (gM rfl (gM rfl (gY (yG rfl (y_nilptr rfl rfl)) (gF fo_124_0 rfl (gL hm 0 isAgg30 rfl ?_))))))))))))))))))
  obtain ⟨aJ, aK, rfl, ac⟩ := ro_slice h1p
  refine gY (yV st_30 rfl) (gB rfl (gE (gsd 36 rfl (fun aL => ?_) fun aL => ?_)))
  ·
   refine gct rfl (gS (gR (gM rfl (gY (yG rfl (y_nilptr rfl rfl)) (gF fo_124_0 rfl (gL hm 0 isAgg30 rfl (gM rfl (gg fun aB aM aC => ?_))))))))
   obtain ⟨ae, af, ag, he⟩ := idx_form h1p aC
   obtain ⟨rfl, _, rfl⟩ := sl3 he
   refine gI st_30 aM (idx_lt aC) rfl (gY (yl isAgg5 ((flat_cells (cs := [(.int .u8 ((aB).toNat : Int))]) (hm.now h1p) aC rfl).cell (j := 0) rfl) rfl) (gY (yG rfl (y_conv64 (b := aB) underlying5 underlying3 rfl rfl)) ?_))
   have ah := UInt8.toNat_lt (aB)
   refine gM rfl (gb fun ai aN => ?_)
   obtain ⟨aO, rfl⟩ := remM_some.1 aN
   exact gY (yG rfl (y_rem rfl rfl rfl aO)) (gA rfl (gE (gRt (gr1 results52 rfl ⟨rfl, hm.pk [0] rfl rfl⟩))))
  refine gcf rfl (gSk (gS (gW (.p 0 (.p 1 (.p 2 (.p 4 (.p 5 (.p 6 (.p 7 (.p 15 (.p 16 (.p 17 (.p 19 (.p 20 (.p 21 (.p 22 (.p 23 (.p 24 (.p 33 (.p 34 (.p 36 (.p 37 (.p 38 (.p 39 (.q 3 (.q 8 (.p 9 (.p 10 (.p 11 (.q 12 (.p 13 (.p 14 (.q 18 (.q 25 (.p 26 (.p 27 (.p 28 (.q 29 (.p 30 (.p 31 (.p 32 (.p 35 (.e 40 (.p 41 (.p 42 (.p 43 (.p 44 (.p 45 .fin))))) .nil))))))))))))))))))))))))))))))))))))))))) [3, 8, 12, 18, 25, 29, 40] [0, 1, 2, 4, 5, 6, 7, 9, 10, 11, 13, 14, 15, 16, 17, 19, 20, 21, 22, 23, 24, 26, 27, 28, 30, 31, 32, 33, 34, 35, 36, 37, 38, 39, 41, 42, 43, 44, 45] hm [0] [blk bp0 [(.slice aJ r_.b.length aK), (nV (w64 (r_.p + 1)))] 124] rfl mxo (by kernel_rfl) (fun _ _ _ h => h.2) fun w hm hS => tP rfl (fun w => yM rfl) (tP rfl (fun w => yG rfl (y_nilptr rfl rfl)) (tP rfl (fun w => yF fo_124_0 rfl) (tP rfl (fun w => yM rfl) (tP rfl (fun w => yM rfl) (tP rfl (fun w => yG rfl (y_nilptr rfl rfl)) (tP rfl (fun w => yF fo_124_0 rfl) (tP rfl (fun w => yM rfl) (tP rfl (fun w => yG rfl (y_nilptr rfl rfl)) (tP rfl (fun w => yF fo_124_0 rfl) (tP rfl (fun w => yM rfl) (tP rfl (fun w => yB rfl) (tP rfl (fun w => yB rfl) (tP rfl (fun w => yM rfl) (tP rfl (fun w => yG rfl (y_nilptr rfl rfl)) (tP rfl (fun w => yF fo_124_0 rfl) (tP rfl (fun w => yM rfl) (tP rfl (fun w => yB rfl) (tP rfl (fun w => yM rfl) (tP rfl (fun w => yM rfl) (tP rfl (fun w => yG rfl (y_nilptr rfl rfl)) (tP rfl (fun w => yF fo_124_0 rfl) (tQ rfl hS (fun w hm => yL hm 0 isAgg30 rfl) (tQ rfl hS (fun w hm => yL hm 0 isAgg30 rfl) (tP rfl (fun w => yV st_30 rfl) (gb fun aj aP => ?_))))))))))))))))))))))))))))
  obtain ⟨aQ, rfl⟩ := remM_some.1 aP
  refine tP rfl (fun w => yG rfl (y_rem rfl rfl rfl aQ)) (gg fun aD aR aE => ?_)
  obtain ⟨ak, al, am, he⟩ := idx_form h1p aE
  obtain ⟨rfl, _, rfl⟩ := sl3 he
  refine tP rfl (fun w => yI st_30 aR (idx_lt aE) rfl) (tQ rfl hS (fun w hm => yl isAgg5 ((flat_cells (cs := [(.int .u8 ((aD).toNat : Int))]) (hm.now h1p) aE rfl).cell (j := 0) rfl) rfl) (tP rfl (fun w => yG rfl (y_conv64 (b := aD) underlying5 underlying3 rfl rfl)) ?_))
  have an := UInt8.toNat_lt (aD)
  refine tP rfl (fun w => yB rfl) (tQ rfl hS (fun w hm => yL hm 0 isAgg30 rfl) (tQ rfl hS (fun w hm => yL hm 0 isAgg30 rfl) (tP rfl (fun w => yV st_30 rfl) (gb fun ao aS => ?_))))
  obtain ⟨aT, rfl⟩ := remM_some.1 aS
  refine tP rfl (fun w => yG rfl (y_rem rfl rfl rfl aT)) (gg fun aF aU aG => tP rfl (fun w => yI st_30 aU (idx_lt aG) rfl) (tQ rfl hS (fun w hm => yl isAgg5 ((flat_cells (cs := [(.int .u8 ((aF).toNat : Int))]) (hm.now h1p) aG rfl).cell (j := 0) rfl) rfl) (tP rfl (fun w => yG rfl (y_conv64 (b := aF) underlying5 underlying3 rfl rfl)) ?_)))
  have aq := UInt8.toNat_lt (aF)
  refine tP rfl (fun w => yB rfl) (tP rfl (fun w => yB rfl) (tP rfl (fun w => yB rfl) (tO (tY rfl (yL hm 0 isAgg30 rfl) (tAs hS (tP rfl (fun w => yV st_30 rfl) (gb fun ar aV => ?_)))))))
  obtain ⟨aX, rfl⟩ := quoM_some.1 aV
  refine tP rfl (fun w => yG rfl (y_quo rfl rfl rfl aX)) (tP rfl (fun w => yB rfl) (tP rfl (fun w => yB rfl) (tP rfl (fun w => yA rfl) (tE (gS (gR (gM rfl (gM rfl (gY (yG rfl (y_quo rfl rfl rfl (by decide))) (gB rfl (gA rfl (gE (gS (gR (gM rfl (gM rfl (gb fun au aY => ?_)))))))))))))))))
  obtain ⟨aZ, rfl⟩ := remM_some.1 aY
  exact gY (yG rfl (y_rem rfl rfl rfl aZ)) (gA rfl (gE (gRt (gr1 results52 rfl ⟨rfl, hm.pk [0] rfl rfl⟩))))
theorem pspec_l30Rd__num_ok (w0 : World) (hz : Heap) (r_ : l30Rd) (bp0 : Nat) (v1p : Value) (h1p : GT.rep hz [v1p] r_.b) (list : List Int) (v1 : Value) (h1 : GT.rep hz [v1] list) (hm0 : Mem w0 hz w0 [blk bp0 [v1p, (nV r_.p)] 124]) :
    ConM Tryz.prog 63 [(pV bp0), v1] w0 (pspec_l30Rd__num r_ list) fun r v w' => v = (nV r.1) ∧ Mem w0 hz w' [blk bp0 [v1p, (nV r.2.p)] 124] := by
  unfold pspec_l30Rd__num
  refine gcon func63 rfl fun r => ?_
  have hm := hm0
  refine gS (gR (gA rfl (gE (gS (gR (gM rfl (gM rfl (gM rfl ?_))))))))
  obtain ⟨aF, aG, rfl, aH⟩ := ro_slice h1
  refine gY (yV st_83 rfl) ?_
  obtain ⟨aB, hle, hm1, hsub, aC⟩ := hm.take2 (L1 := [blk bp0 [v1p, (nV r_.p)] 124]) (L2 := []) [0] [] (by decide) rfl rfl
  refine gCg rfl call52 (pspec_l30Rd__pick_ok _ aB r_ bp0 v1p (GT.mono hle h1p) (list.length : Int) hm1 ) ?_
  rintro aI aJ aK w ⟨rfl, hB⟩
  replace hm := aC _ _ hB; clear hB
  refine gg fun aD aE aA => ?_
  obtain ⟨aL, aM, aN, he⟩ := idx_form h1 aA
  obtain ⟨rfl, _, rfl⟩ := sl3 he
  exact gI st_83 aE (idx_lt aA) rfl (gY (yl isAgg3 ((flat_cells (cs := [(nV aD)]) (hm.now h1) aA rfl).cell (j := 0) rfl) rfl) (gA rfl (gE (gRt (gr1 results63 rfl ⟨rfl, hm.pk [0] rfl rfl⟩)))))
theorem pspec_l30Rd__of_ok (w0 : World) (hz : Heap) (r_ : l30Rd) (bp0 : Nat) (v1p : Value) (h1p : GT.rep hz [v1p] r_.b) (list : List Str) (v1 : Value) (h1 : GT.rep hz [v1] list) (hm0 : Mem w0 hz w0 [blk bp0 [v1p, (nV r_.p)] 124]) :
    ConM Tryz.prog 64 [(pV bp0), v1] w0 (pspec_l30Rd__of r_ list) fun r v w' => v = (.string ⟨(r.1).b.toArray⟩) ∧ Mem w0 hz w' [blk bp0 [v1p, (nV r.2.p)] 124] := by
  unfold pspec_l30Rd__of
  refine gcon func64 rfl fun r => ?_
  have hm := hm0
  refine gS (gR (gA rfl (gE (gS (gR (gM rfl (gM rfl (gM rfl ?_))))))))
  obtain ⟨aF, aG, rfl, aH⟩ := ro_slice h1
  refine gY (yV st_74 rfl) ?_
  obtain ⟨aB, hle, hm1, hsub, aC⟩ := hm.take2 (L1 := [blk bp0 [v1p, (nV r_.p)] 124]) (L2 := []) [0] [] (by decide) rfl rfl
  refine gCg rfl call52 (pspec_l30Rd__pick_ok _ aB r_ bp0 v1p (GT.mono hle h1p) (list.length : Int) hm1 ) ?_
  rintro aI aJ aK w ⟨rfl, hB⟩
  replace hm := aC _ _ hB; clear hB
  refine gg fun aD aE aA => ?_
  obtain ⟨aL, aM, aN, he⟩ := idx_form h1 aA
  obtain ⟨rfl, _, rfl⟩ := sl3 he
  exact gI st_74 aE (idx_lt aA) rfl (gY (yl isAgg9 ((flat_cells (cs := [(.string ⟨(aD).b.toArray⟩)]) (hm.now h1) aA rfl).cell (j := 0) rfl) rfl) (gA rfl (gE (gRt (gr1 results64 rfl ⟨rfl, hm.pk [0] rfl rfl⟩)))))
theorem spec_l2Leaf_ok (w0 : World) (hz : Heap) (r_ : l30Rd) (bp0 : Nat) (v1p : Value) (h1p : GT.rep hz [v1p] r_.b) (names : List Str) (v1 : Value) (h1 : GT.rep hz [v1] names) (hm0 : Mem w0 hz w0 [blk bp0 [v1p, (nV r_.p)] 124]) :
    ConM Tryz.prog 55 [(pV bp0), v1] w0 (spec_l2Leaf r_ names) fun r v w' => ∃ (x1 : Value), v = (.agg #[(nV r.1.op), (nV r.1.n_), (.string ⟨(r.1.name).b.toArray⟩), x1]) ∧ Mem w0 hz w' [blk bp0 [v1p, (nV r.2.p)] 124, ow [x1] r.1.kids] := by
  unfold spec_l2Leaf
  refine gcon func55 rfl fun r => ?_
  have hm := hm0
  refine gS (gR (gAl hm zeroValue24 rfl fun aB w hm => gE (gS (gS (gJ hm (fun aA => [(0, (pV bp0)), (1, v1), (4, (pV aB)), (12, (.bool (aA.2)))]) (fun aA => [blk bp0 [v1p, (nV aA.1)] 124, blk aB [(nV 0), (nV 0), (.string ⟨((mkS [])).b.toArray⟩), (.slice none 0 0)] 24]) (fun aA => ?_) ?_)))))
  ·
   refine gR (gM rfl ?_)
   obtain ⟨aN, aO, rfl, aP⟩ := ro_slice h1
   refine gY (yV st_74 rfl) (gB rfl (gM rfl (gsd 8 rfl (fun aF => ?_) fun aF => ?_)))
   ·
    exact gO rfl (gO rfl (gO rfl (gKt rfl (gE (gz hm [1, 0] rfl)))))
   refine gM rfl ?_
   obtain ⟨aG, hle, hm1, hsub, aH⟩ := hm.take2 (L1 := [blk bp0 [v1p, (nV r_.p)] 124]) (L2 := [blk aB [(nV 0), (nV 0), (.string ⟨((mkS [])).b.toArray⟩), (.slice none 0 0)] 24]) [1] [0] (by decide) rfl rfl
   refine gCg rfl call52 (pspec_l30Rd__pick_ok _ aG r_ bp0 v1p (GT.mono hle h1p) 3 hm1 ) ?_
   rintro aQ aR aS w ⟨rfl, hB⟩
   replace hm := aH _ _ hB; clear hB
   exact gB rfl (gKf rfl (gE (gz hm [0, 1] rfl)))
  repeat clear hm
  intro aA w hm
  refine gs 12 rfl (fun aI => ?_) fun aI => ?_
  ·
   refine gct rfl (gS (gR (gM rfl (gf rfl (fun a hf => e_build (vs := #[(0, (nV 0)), (1, (nV 1)), (2, (nV 2)), (3, (nV 3)), (4, (nV 5)), (5, (nV 7)), (6, (nV 15)), (7, (nV 16)), (8, (nV 100)), (9, (nV 255))]) (cs := [(nV 0), (nV 1), (nV 2), (nV 3), (nV 5), (nV 7), (nV 15), (nV 16), (nV 100), (nV 255)]) et_83 hf hm rfl rfl (by kernel_rfl) rfl rfl) ?_))))
   rintro _ w ⟨aC, rfl, hm⟩
   replace hm := hm.lit (xs := ([0, 1, 2, 3, 5, 7, 15, 16, 100, 255] : List Int)) 0 rfl rfl rfl rfl
   obtain ⟨aJ, hle, hm1, hsub, aK⟩ := hm.take2 (L1 := [blk bp0 [v1p, (nV aA.1)] 124]) (L2 := [ow [(sV aC 0 10 10)] ([0, 1, 2, 3, 5, 7, 15, 16, 100, 255] : List Int), blk aB [(nV 0), (nV 0), (.string ⟨((mkS [])).b.toArray⟩), (.slice none 0 0)] 24]) [1] [0, 2] (by decide) rfl rfl
   refine gCg rfl call63 (pspec_l30Rd__num_ok _ aJ (⟨r_.b, aA.1⟩ : l30Rd) bp0 v1p (GT.mono hle h1p) ([0, 1, 2, 3, 5, 7, 15, 16, 100, 255] : List Int) (sV aC 0 10 10) (fz_ow (hsub 0 _ rfl)) hm1 ) ?_
   rintro aD aT aU w ⟨rfl, hB⟩
   replace hm := aK _ _ hB; clear hB
   refine gY (yG rfl (y_build (vs := [(0, (nV 1)), (1, (nV aD.1))]) (cs := #[(nV 1), (nV aD.1), (.string ⟨((mkS [])).b.toArray⟩), (.slice none 0 0)]) rfl rfl (by kernel_rfl))) (gSN hm 2 sizeOf24 (one_cons rfl (one_cons rfl (one_cons rfl (one_cons rfl one_nil)))) rfl fun w hm => gE (gRt ?_))
   replace hm := hm.nilow (α := Expr_)
   exact grc 3 results55 hm rfl isAgg24 sizeOf24 ⟨(.slice none 0 0), rfl, hm.pk [1, 0] rfl rfl⟩
  refine gcf rfl (gSk (gS (gR (gM rfl (gM rfl ?_)))))
  obtain ⟨aL, hle, hm1, hsub, aM⟩ := hm.take2 (L1 := [blk bp0 [v1p, (nV aA.1)] 124]) (L2 := [blk aB [(nV 0), (nV 0), (.string ⟨((mkS [])).b.toArray⟩), (.slice none 0 0)] 24]) [0] [1] (by decide) rfl rfl
  refine gCg rfl call64 (pspec_l30Rd__of_ok _ aL (⟨r_.b, aA.1⟩ : l30Rd) bp0 v1p (GT.mono hle h1p) names v1 (GT.mono hle h1) hm1 ) ?_
  rintro aE aV aX w ⟨rfl, hB⟩
  replace hm := aM _ _ hB; clear hB
  refine gY (yG rfl (y_build (vs := [(0, (nV 2)), (2, (.string ⟨(aE.1).b.toArray⟩))]) (cs := #[(nV 2), (nV 0), (.string ⟨(aE.1).b.toArray⟩), (.slice none 0 0)]) rfl rfl (by kernel_rfl))) (gSN hm 1 sizeOf24 (one_cons rfl (one_cons rfl (one_cons rfl (one_cons rfl one_nil)))) rfl fun w hm => gE (gRt ?_))
  replace hm := hm.nilow (α := Expr_)
  exact grc 2 results55 hm rfl isAgg24 sizeOf24 ⟨(.slice none 0 0), rfl, hm.pk [1, 0] rfl rfl⟩
theorem spec_l2Expr_all (names : List Str) : ∀ (r_ : l30Rd) (deep : Int) (r : Expr_ × l30Rd), spec_l2Expr r_ names deep = some r → ∀ (w0 : World) (hz : Heap) (bp0 : Nat) (v1p : Value) (h1p : GT.rep hz [v1p] r_.b) (v1 : Value) (h1 : GT.rep hz [v1] names) (hm0 : Mem w0 hz w0 [blk bp0 [v1p, (nV r_.p)] 124]), Con Tryz.prog 108 [(pV bp0), v1, (nV deep)] w0 (fun v w' => ∃ (x1 : Value), v = (.agg #[(nV r.1.op), (nV r.1.n_), (.string ⟨(r.1.name).b.toArray⟩), x1]) ∧ Mem w0 hz w' [blk bp0 [v1p, (nV r.2.p)] 124, ow [x1] r.1.kids]) := by
  refine spec_l2Expr.partial_correctness names (motive := fun r_ deep r => ∀ (w0 : World) (hz : Heap) (bp0 : Nat) (v1p : Value) (h1p : GT.rep hz [v1p] r_.b) (v1 : Value) (h1 : GT.rep hz [v1] names) (hm0 : Mem w0 hz w0 [blk bp0 [v1p, (nV r_.p)] 124]), Con Tryz.prog 108 [(pV bp0), v1, (nV deep)] w0 (fun v w' => ∃ (x1 : Value), v = (.agg #[(nV r.1.op), (nV r.1.n_), (.string ⟨(r.1.name).b.toArray⟩), x1]) ∧ Mem w0 hz w' [blk bp0 [v1p, (nV r.2.p)] 124, ow [x1] r.1.kids])) ?_
  intro rec_ ih_ r_ deep r hq w0 hz bp0 v1p h1p v1 h1 hm0
  have spec_l2Expr_rec : ∀ (w0 : World) (hz : Heap) (r_ : l30Rd) (bp0 : Nat) (v1p : Value) (h1p : GT.rep hz [v1p] r_.b) (_ : List Str) (v1 : Value) (h1 : GT.rep hz [v1] names) (deep : Int) (hm0 : Mem w0 hz w0 [blk bp0 [v1p, (nV r_.p)] 124]) (r : Expr_ × l30Rd) (hq : rec_ r_ deep = some r), Con Tryz.prog 108 [(pV bp0), v1, (nV deep)] w0 (fun v w' => ∃ (x1 : Value), v = (.agg #[(nV r.1.op), (nV r.1.n_), (.string ⟨(r.1.name).b.toArray⟩), x1]) ∧ Mem w0 hz w' [blk bp0 [v1p, (nV r.2.p)] 124, ow [x1] r.1.kids]) := fun w0 hz r_ bp0 v1p h1p _ v1 h1 deep hm0 r hq => ih_ r_ deep r hq w0 hz bp0 v1p h1p v1 h1 hm0
  refine gconr (ρ := Expr_ × l30Rd) (R := fun r v w' => ∃ (x1 : Value), v = (.agg #[(nV r.1.op), (nV r.1.n_), (.string ⟨(r.1.name).b.toArray⟩), x1]) ∧ Mem w0 hz w' [blk bp0 [v1p, (nV r.2.p)] 124, ow [x1] r.1.kids]) func108 rfl hq ?_
  have hm := hm0
  refine gS (gR (gAl hm zeroValue24 rfl fun aD w hm => gE (gS (gS (gJ hm (fun aG => [(0, (pV bp0)), (1, v1), (2, (nV deep)), (6, (pV aD)), (14, (.bool (aG.2)))]) (fun aG => [blk bp0 [v1p, (nV aG.1)] 124, blk aD [(nV 0), (nV 0), (.string ⟨((mkS [])).b.toArray⟩), (.slice none 0 0)] 24]) (fun aG => ?_) ?_)))))
  ·
   refine gR (gM rfl (gB rfl (gM rfl (gsd 10 rfl (fun aP => ?_) fun aP => ?_))))
   ·
    exact gO rfl (gO rfl (gO rfl (gKt rfl (gE (gz hm [1, 0] rfl)))))
   refine gM rfl ?_
   obtain ⟨aQ, hle, hm1, hsub, aR⟩ := hm.take2 (L1 := [blk bp0 [v1p, (nV r_.p)] 124]) (L2 := [blk aD [(nV 0), (nV 0), (.string ⟨((mkS [])).b.toArray⟩), (.slice none 0 0)] 24]) [1] [0] (by decide) rfl rfl
   refine gCg rfl call52 (pspec_l30Rd__pick_ok _ aQ r_ bp0 v1p (GT.mono hle h1p) 4 hm1 ) ?_
   rintro ak al am w ⟨rfl, hB⟩
   replace hm := aR _ _ hB; clear hB
   exact gB rfl (gKf rfl (gE (gz hm [0, 1] rfl)))
  repeat clear hm
  intro aG w hm
  refine gs 14 rfl (fun aS => ?_) fun aS => ?_
  ·
   refine gct rfl (gS (gR (gM rfl (gM rfl ?_))))
   obtain ⟨aT, hle, hm1, hsub, aU⟩ := hm.take2 (L1 := [blk bp0 [v1p, (nV aG.1)] 124]) (L2 := [blk aD [(nV 0), (nV 0), (.string ⟨((mkS [])).b.toArray⟩), (.slice none 0 0)] 24]) [0] [1] (by decide) rfl rfl
   refine gCg rfl call55 (spec_l2Leaf_ok _ aT (⟨r_.b, aG.1⟩ : l30Rd) bp0 v1p (GT.mono hle h1p) names v1 (GT.mono hle h1) hm1 ) ?_
   rintro an ao aq w ⟨aV, rfl, hB⟩
   replace hm := aU _ _ hB; clear hB
   exact gSN hm 2 sizeOf24 (one_cons rfl (one_cons rfl (one_cons rfl (one_cons (rep_one (hm.ow_rep 1 rfl)) one_nil)))) rfl fun w hm => gE (gRt (grc 2 results108 hm rfl isAgg24 sizeOf24 ⟨aV, rfl, hm.pk [0, 1] rfl rfl⟩))
  refine gcf rfl (gSk (gS (gS (gR (gM rfl ?_)))))
  obtain ⟨aX, hle, hm1, hsub, aY⟩ := hm.take2 (L1 := [blk bp0 [v1p, (nV aG.1)] 124]) (L2 := [blk aD [(nV 0), (nV 0), (.string ⟨((mkS [])).b.toArray⟩), (.slice none 0 0)] 24]) [0] [1] (by decide) rfl rfl
  refine gCg rfl call52 (pspec_l30Rd__pick_ok _ aX (⟨r_.b, aG.1⟩ : l30Rd) bp0 v1p (GT.mono hle h1p) 7 hm1 ) ?_
  rintro aM ar au w ⟨rfl, hB⟩
  replace hm := aY _ _ hB; clear hB
  refine gB rfl (gE (gsd 20 rfl (fun aZ => ?_) fun aZ => ?_))
  ·
   refine gct rfl (gS (gR (gM rfl (gf rfl (fun a hf => e_build (vs := #[(0, (nV 11)), (1, (nV 12)), (2, (nV 11))]) (cs := [(nV 11), (nV 12), (nV 11)]) et_83 hf hm rfl rfl (by kernel_rfl) rfl rfl) ?_))))
   rintro _ w ⟨aJ, rfl, hm⟩
   replace hm := hm.lit (xs := ([11, 12, 11] : List Int)) 0 rfl rfl rfl rfl
   obtain ⟨a8, hle, hm1, hsub, aa⟩ := hm.take2 (L1 := [blk bp0 [v1p, (nV aM.2.p)] 124]) (L2 := [ow [(sV aJ 0 3 3)] ([11, 12, 11] : List Int), blk aD [(nV 0), (nV 0), (.string ⟨((mkS [])).b.toArray⟩), (.slice none 0 0)] 24]) [1] [0, 2] (by decide) rfl rfl
   refine gCg rfl call63 (pspec_l30Rd__num_ok _ a8 (⟨r_.b, aM.2.p⟩ : l30Rd) bp0 v1p (GT.mono hle h1p) ([11, 12, 11] : List Int) (sV aJ 0 3 3) (fz_ow (hsub 0 _ rfl)) hm1 ) ?_
   rintro aN av aw w ⟨rfl, hB⟩
   replace hm := aa _ _ hB; clear hB
   refine gM rfl (gM rfl (gM rfl (gB rfl ?_)))
   obtain ⟨ab, hle, hm1, hsub, ac⟩ := hm.take2 (L1 := [blk bp0 [v1p, (nV aN.2.p)] 124]) (L2 := [ow [(sV aJ 0 3 3)] ([11, 12, 11] : List Int), blk aD [(nV 0), (nV 0), (.string ⟨((mkS [])).b.toArray⟩), (.slice none 0 0)] 24]) [0] [1, 2] (by decide) rfl rfl
   refine gCg rfl call108 (spec_l2Expr_rec _ ab (⟨r_.b, aN.2.p⟩ : l30Rd) bp0 v1p (GT.mono hle h1p) names v1 (GT.mono hle h1) (w64 (deep - 1)) hm1 ) ?_
   rintro aC ax ay w ⟨aK, rfl, hB⟩
   replace hm := ac _ _ hB; clear hB
   refine gf rfl (fun a hf => e_build (vs := #[(0, (.agg #[(nV aC.1.op), (nV aC.1.n_), (.string ⟨(aC.1.name).b.toArray⟩), aK]))]) (cs := [(nV aC.1.op), (nV aC.1.n_), (.string ⟨(aC.1.name).b.toArray⟩), aK]) et_22 hf hm rfl rfl (by kernel_rfl) rfl rfl) ?_
   rintro _ w ⟨aL, rfl, hm⟩
   replace hm := hm.els_nil (α := Expr_)
   replace hm : Mem w0 hz _ [els [] ([] : List Expr_), blk aL [(nV aC.1.op), (nV aC.1.n_), (.string ⟨(aC.1.name).b.toArray⟩), aK] 24, blk bp0 [v1p, (nV aC.2.p)] 124, ow [(nV aC.1.op), (nV aC.1.n_), (.string ⟨(aC.1.name).b.toArray⟩), aK] (aC.1 : Expr_), ow [(sV aJ 0 3 3)] ([11, 12, 11] : List Int), blk aD [(nV 0), (nV 0), (.string ⟨((mkS [])).b.toArray⟩), (.slice none 0 0)] 24] := mkx_Expr_ aC.1 hm 3 rfl
   replace hm := (hm.els_cons 0 3 (by decide) rfl rfl).pk (L' := [els [(nV aC.1.op), (nV aC.1.n_), (.string ⟨(aC.1.name).b.toArray⟩), aK] ([aC.1] : List Expr_), blk aL [(nV aC.1.op), (nV aC.1.n_), (.string ⟨(aC.1.name).b.toArray⟩), aK] 24, blk bp0 [v1p, (nV aC.2.p)] 124, ow [(sV aJ 0 3 3)] ([11, 12, 11] : List Int), blk aD [(nV 0), (nV 0), (.string ⟨((mkS [])).b.toArray⟩), (.slice none 0 0)] 24]) [0, 1, 2, 4, 5] rfl rfl
   replace hm := (hm.lit_els 1 0 (by decide) rfl rfl rfl rfl).pk (L' := [ow [(sV aL 0 1 1)] ([aC.1] : List Expr_), blk bp0 [v1p, (nV aC.2.p)] 124, ow [(sV aJ 0 3 3)] ([11, 12, 11] : List Int), blk aD [(nV 0), (nV 0), (.string ⟨((mkS [])).b.toArray⟩), (.slice none 0 0)] 24]) [1, 2, 3, 4] rfl rfl
   exact gY (yG rfl (y_build (vs := [(0, (nV aN.1)), (3, (sV aL 0 1 1))]) (cs := #[(nV aN.1), (nV 0), (.string ⟨((mkS [])).b.toArray⟩), (sV aL 0 1 1)]) rfl rfl (by kernel_rfl))) (gSN hm 3 sizeOf24 (one_cons rfl (one_cons rfl (one_cons rfl (one_cons rfl one_nil)))) rfl fun w hm => gE (gRt (grc 3 results108 hm rfl isAgg24 sizeOf24 ⟨(sV aL 0 1 1), rfl, hm.pk [1, 0] rfl rfl⟩)))
  refine gcf rfl (gSk (gS (gR (gM rfl (gf rfl (fun a hf => e_build (vs := #[(0, (nV 3)), (1, (nV 3)), (2, (nV 4)), (3, (nV 5)), (4, (nV 6)), (5, (nV 7)), (6, (nV 8)), (7, (nV 9)), (8, (nV 10))]) (cs := [(nV 3), (nV 3), (nV 4), (nV 5), (nV 6), (nV 7), (nV 8), (nV 9), (nV 10)]) et_83 hf hm rfl rfl (by kernel_rfl) rfl rfl) ?_)))))
  rintro _ w ⟨aH, rfl, hm⟩
  replace hm := hm.lit (xs := ([3, 3, 4, 5, 6, 7, 8, 9, 10] : List Int)) 0 rfl rfl rfl rfl
  obtain ⟨ae, hle, hm1, hsub, af⟩ := hm.take2 (L1 := [blk bp0 [v1p, (nV aM.2.p)] 124]) (L2 := [ow [(sV aH 0 9 9)] ([3, 3, 4, 5, 6, 7, 8, 9, 10] : List Int), blk aD [(nV 0), (nV 0), (.string ⟨((mkS [])).b.toArray⟩), (.slice none 0 0)] 24]) [1] [0, 2] (by decide) rfl rfl
  refine gCg rfl call63 (pspec_l30Rd__num_ok _ ae (⟨r_.b, aM.2.p⟩ : l30Rd) bp0 v1p (GT.mono hle h1p) ([3, 3, 4, 5, 6, 7, 8, 9, 10] : List Int) (sV aH 0 9 9) (fz_ow (hsub 0 _ rfl)) hm1 ) ?_
  rintro aO az bA w ⟨rfl, hB⟩
  replace hm := af _ _ hB; clear hB
  refine gA rfl (gE (gS (gR (gM rfl (gM rfl (gM rfl (gM rfl (gB rfl ?_))))))))
  obtain ⟨ag, hle, hm1, hsub, ah⟩ := hm.take2 (L1 := [blk bp0 [v1p, (nV aO.2.p)] 124]) (L2 := [ow [(sV aH 0 9 9)] ([3, 3, 4, 5, 6, 7, 8, 9, 10] : List Int), blk aD [(nV 0), (nV 0), (.string ⟨((mkS [])).b.toArray⟩), (.slice none 0 0)] 24]) [0] [1, 2] (by decide) rfl rfl
  refine gCg rfl call108 (spec_l2Expr_rec _ ag (⟨r_.b, aO.2.p⟩ : l30Rd) bp0 v1p (GT.mono hle h1p) names v1 (GT.mono hle h1) (w64 (deep - 1)) hm1 ) ?_
  rintro aB bB bC w ⟨aE, rfl, hB⟩
  replace hm := ah _ _ hB; clear hB
  refine gM rfl (gM rfl (gM rfl (gB rfl ?_)))
  obtain ⟨ai, hle, hm1, hsub, aj⟩ := hm.take2 (L1 := [blk bp0 [v1p, (nV aB.2.p)] 124]) (L2 := [ow [aE] aB.1.kids, ow [(sV aH 0 9 9)] ([3, 3, 4, 5, 6, 7, 8, 9, 10] : List Int), blk aD [(nV 0), (nV 0), (.string ⟨((mkS [])).b.toArray⟩), (.slice none 0 0)] 24]) [0] [1, 2, 3] (by decide) rfl rfl
  refine gCg rfl call108 (spec_l2Expr_rec _ ai (⟨r_.b, aB.2.p⟩ : l30Rd) bp0 v1p (GT.mono hle h1p) names v1 (GT.mono hle h1) (w64 (deep - 1)) hm1 ) ?_
  rintro aA bD bE w ⟨aF, rfl, hB⟩
  replace hm := aj _ _ hB; clear hB
  refine gf rfl (fun a hf => e_build (vs := #[(0, (.agg #[(nV aB.1.op), (nV aB.1.n_), (.string ⟨(aB.1.name).b.toArray⟩), aE])), (1, (.agg #[(nV aA.1.op), (nV aA.1.n_), (.string ⟨(aA.1.name).b.toArray⟩), aF]))]) (cs := [(nV aB.1.op), (nV aB.1.n_), (.string ⟨(aB.1.name).b.toArray⟩), aE, (nV aA.1.op), (nV aA.1.n_), (.string ⟨(aA.1.name).b.toArray⟩), aF]) et_22 hf hm rfl rfl (by kernel_rfl) rfl rfl) ?_
  rintro _ w ⟨aI, rfl, hm⟩
  replace hm := hm.els_nil (α := Expr_)
  replace hm : Mem w0 hz _ [els [] ([] : List Expr_), blk aI [(nV aB.1.op), (nV aB.1.n_), (.string ⟨(aB.1.name).b.toArray⟩), aE, (nV aA.1.op), (nV aA.1.n_), (.string ⟨(aA.1.name).b.toArray⟩), aF] 24, blk bp0 [v1p, (nV aA.2.p)] 124, ow [(nV aA.1.op), (nV aA.1.n_), (.string ⟨(aA.1.name).b.toArray⟩), aF] (aA.1 : Expr_), ow [aE] aB.1.kids, ow [(sV aH 0 9 9)] ([3, 3, 4, 5, 6, 7, 8, 9, 10] : List Int), blk aD [(nV 0), (nV 0), (.string ⟨((mkS [])).b.toArray⟩), (.slice none 0 0)] 24] := mkx_Expr_ aA.1 hm 3 rfl
  replace hm := (hm.els_cons 0 3 (by decide) rfl rfl).pk (L' := [els [(nV aA.1.op), (nV aA.1.n_), (.string ⟨(aA.1.name).b.toArray⟩), aF] ([aA.1] : List Expr_), blk aI [(nV aB.1.op), (nV aB.1.n_), (.string ⟨(aB.1.name).b.toArray⟩), aE, (nV aA.1.op), (nV aA.1.n_), (.string ⟨(aA.1.name).b.toArray⟩), aF] 24, blk bp0 [v1p, (nV aA.2.p)] 124, ow [aE] aB.1.kids, ow [(sV aH 0 9 9)] ([3, 3, 4, 5, 6, 7, 8, 9, 10] : List Int), blk aD [(nV 0), (nV 0), (.string ⟨((mkS [])).b.toArray⟩), (.slice none 0 0)] 24]) [0, 1, 2, 4, 5, 6] rfl rfl
  replace hm : Mem w0 hz _ [els [(nV aA.1.op), (nV aA.1.n_), (.string ⟨(aA.1.name).b.toArray⟩), aF] ([aA.1] : List Expr_), blk aI [(nV aB.1.op), (nV aB.1.n_), (.string ⟨(aB.1.name).b.toArray⟩), aE, (nV aA.1.op), (nV aA.1.n_), (.string ⟨(aA.1.name).b.toArray⟩), aF] 24, blk bp0 [v1p, (nV aA.2.p)] 124, ow [(nV aB.1.op), (nV aB.1.n_), (.string ⟨(aB.1.name).b.toArray⟩), aE] (aB.1 : Expr_), ow [(sV aH 0 9 9)] ([3, 3, 4, 5, 6, 7, 8, 9, 10] : List Int), blk aD [(nV 0), (nV 0), (.string ⟨((mkS [])).b.toArray⟩), (.slice none 0 0)] 24] := mkx_Expr_ aB.1 hm 3 rfl
  replace hm := (hm.els_cons 0 3 (by decide) rfl rfl).pk (L' := [els [(nV aB.1.op), (nV aB.1.n_), (.string ⟨(aB.1.name).b.toArray⟩), aE, (nV aA.1.op), (nV aA.1.n_), (.string ⟨(aA.1.name).b.toArray⟩), aF] ([aB.1, aA.1] : List Expr_), blk aI [(nV aB.1.op), (nV aB.1.n_), (.string ⟨(aB.1.name).b.toArray⟩), aE, (nV aA.1.op), (nV aA.1.n_), (.string ⟨(aA.1.name).b.toArray⟩), aF] 24, blk bp0 [v1p, (nV aA.2.p)] 124, ow [(sV aH 0 9 9)] ([3, 3, 4, 5, 6, 7, 8, 9, 10] : List Int), blk aD [(nV 0), (nV 0), (.string ⟨((mkS [])).b.toArray⟩), (.slice none 0 0)] 24]) [0, 1, 2, 4, 5] rfl rfl
  replace hm := (hm.lit_els 1 0 (by decide) rfl rfl rfl rfl).pk (L' := [ow [(sV aI 0 2 2)] ([aB.1, aA.1] : List Expr_), blk bp0 [v1p, (nV aA.2.p)] 124, ow [(sV aH 0 9 9)] ([3, 3, 4, 5, 6, 7, 8, 9, 10] : List Int), blk aD [(nV 0), (nV 0), (.string ⟨((mkS [])).b.toArray⟩), (.slice none 0 0)] 24]) [1, 2, 3, 4] rfl rfl
  exact gY (yG rfl (y_build (vs := [(0, (nV aO.1)), (3, (sV aI 0 2 2))]) (cs := #[(nV aO.1), (nV 0), (.string ⟨((mkS [])).b.toArray⟩), (sV aI 0 2 2)]) rfl rfl (by kernel_rfl))) (gSN hm 3 sizeOf24 (one_cons rfl (one_cons rfl (one_cons rfl (one_cons rfl one_nil)))) rfl fun w hm => gE (gRt (grc 3 results108 hm rfl isAgg24 sizeOf24 ⟨(sV aI 0 2 2), rfl, hm.pk [1, 0] rfl rfl⟩)))
theorem spec_l2Expr_ok (w0 : World) (hz : Heap) (r_ : l30Rd) (bp0 : Nat) (v1p : Value) (h1p : GT.rep hz [v1p] r_.b) (names : List Str) (v1 : Value) (h1 : GT.rep hz [v1] names) (deep : Int) (hm0 : Mem w0 hz w0 [blk bp0 [v1p, (nV r_.p)] 124]) (r : Expr_ × l30Rd) (hq : spec_l2Expr r_ names deep = some r) : Con Tryz.prog 108 [(pV bp0), v1, (nV deep)] w0 (fun v w' => ∃ (x1 : Value), v = (.agg #[(nV r.1.op), (nV r.1.n_), (.string ⟨(r.1.name).b.toArray⟩), x1]) ∧ Mem w0 hz w' [blk bp0 [v1p, (nV r.2.p)] 124, ow [x1] r.1.kids]) := spec_l2Expr_all names r_ deep r hq w0 hz bp0 v1p h1p v1 h1 hm0
theorem spec_l2Any_ok (w0 : World) (hz : Heap) (r_ : l30Rd) (bp0 : Nat) (v1p : Value) (h1p : GT.rep hz [v1p] r_.b) (deep : Int) (hm0 : Mem w0 hz w0 [blk bp0 [v1p, (nV r_.p)] 124]) :
    ConM Tryz.prog 51 [(pV bp0), (nV deep)] w0 (spec_l2Any r_ deep) fun r v w' => ∃ (x1 : Value), v = (.agg #[(nV r.1.op), (nV r.1.n_), (.string ⟨(r.1.name).b.toArray⟩), x1]) ∧ Mem w0 hz w' [blk bp0 [v1p, (nV r.2.p)] 124, ow [x1] r.1.kids] := by
  unfold spec_l2Any
  refine gcon func51 rfl fun r => ?_
  have hm := hm0
  refine gS (gR (gAl hm zeroValue24 rfl fun aG w hm => gE (gS (gR (gM rfl (gf rfl (fun a hf => e_build (vs := #[(0, (.string ⟨((mkS [97])).b.toArray⟩)), (1, (.string ⟨((mkS [98])).b.toArray⟩)), (2, (.string ⟨((mkS [120])).b.toArray⟩)), (3, (.string ⟨((mkS [103, 111])).b.toArray⟩))]) (cs := [(.string ⟨((mkS [97])).b.toArray⟩), (.string ⟨((mkS [98])).b.toArray⟩), (.string ⟨((mkS [120])).b.toArray⟩), (.string ⟨((mkS [103, 111])).b.toArray⟩)]) et_74 hf hm rfl rfl (by kernel_rfl) rfl rfl) ?_))))))
  rintro _ w ⟨aQ, rfl, hm⟩
  replace hm := hm.lit (xs := ([(mkS [97]), (mkS [98]), (mkS [120]), (mkS [103, 111])] : List Str)) 0 rfl rfl rfl rfl
  refine gM rfl ?_
  obtain ⟨aV, hle, hm1, hsub, aX⟩ := hm.take2 (L1 := [blk bp0 [v1p, (nV r_.p)] 124]) (L2 := [ow [(sV aQ 0 4 4)] ([(mkS [97]), (mkS [98]), (mkS [120]), (mkS [103, 111])] : List Str), blk aG [(nV 0), (nV 0), (.string ⟨((mkS [])).b.toArray⟩), (.slice none 0 0)] 24]) [2] [0, 1] (by decide) rfl rfl
  refine gCg rfl call108 (spec_l2Expr_ok _ aV r_ bp0 v1p (GT.mono hle h1p) ([(mkS [97]), (mkS [98]), (mkS [120]), (mkS [103, 111])] : List Str) (sV aQ 0 4 4) (fz_ow (hsub 0 _ rfl)) deep hm1 ) ?_
  rintro aA av aw w ⟨aN, rfl, hB⟩
  replace hm := aX _ _ hB; clear hB
  refine gAl hm zeroValue24 rfl fun aH w hm => gSN hm 0 sizeOf24 (one_cons rfl (one_cons rfl (one_cons rfl (one_cons (rep_one (hm.ow_rep 2 rfl)) one_nil)))) rfl fun w hm => gE (gS (gS (gR (gM rfl ?_))))
  obtain ⟨aY, hle, hm1, hsub, aZ⟩ := hm.take2 (L1 := [blk bp0 [v1p, (nV aA.2.p)] 124]) (L2 := [blk aH [(nV aA.1.op), (nV aA.1.n_), (.string ⟨(aA.1.name).b.toArray⟩), aN] 24, ow [aN] aA.1.kids, ow [(sV aQ 0 4 4)] ([(mkS [97]), (mkS [98]), (mkS [120]), (mkS [103, 111])] : List Str), blk aG [(nV 0), (nV 0), (.string ⟨((mkS [])).b.toArray⟩), (.slice none 0 0)] 24]) [1] [0, 2, 3, 4] (by decide) rfl rfl
  refine gCg rfl call52 (pspec_l30Rd__pick_ok _ aY (⟨r_.b, aA.2.p⟩ : l30Rd) bp0 v1p (GT.mono hle h1p) 3 hm1 ) ?_
  rintro aU ax ay w ⟨rfl, hB⟩
  replace hm := aZ _ _ hB; clear hB
  refine gB rfl (gE (gsd 14 rfl (fun a8 => ?_) fun a8 => ?_))
  ·
   exact gct rfl (gS (gR (gY (yn (hm.blk_at 1 rfl) isAgg24 sizeOf24 rfl) (gSN hm 4 sizeOf24 (one_cons rfl (one_cons rfl (one_cons rfl (one_cons (rep_one (hm.ow_rep 2 rfl)) one_nil)))) rfl fun w hm => gE (gRt (grc 4 results51 hm rfl isAgg24 sizeOf24 ⟨aN, rfl, hm.pk [0, 2] rfl rfl⟩))))))
  refine gcf rfl (gSk (gS (gR (gM rfl (gf rfl (fun a hf => e_build (vs := #[(0, (.string ⟨((mkS [102])).b.toArray⟩)), (1, (.string ⟨((mkS [103])).b.toArray⟩)), (2, (.string ⟨((mkS [97])).b.toArray⟩))]) (cs := [(.string ⟨((mkS [102])).b.toArray⟩), (.string ⟨((mkS [103])).b.toArray⟩), (.string ⟨((mkS [97])).b.toArray⟩)]) et_74 hf hm rfl rfl (by kernel_rfl) rfl rfl) ?_)))))
  rintro _ w ⟨aT, rfl, hm⟩
  replace hm := hm.lit (xs := ([(mkS [102]), (mkS [103]), (mkS [97])] : List Str)) 0 rfl rfl rfl rfl
  obtain ⟨aa, hle, hm1, hsub, ab⟩ := hm.take2 (L1 := [blk bp0 [v1p, (nV aU.2.p)] 124]) (L2 := [ow [(sV aT 0 3 3)] ([(mkS [102]), (mkS [103]), (mkS [97])] : List Str), blk aH [(nV aA.1.op), (nV aA.1.n_), (.string ⟨(aA.1.name).b.toArray⟩), aN] 24, ow [aN] aA.1.kids, ow [(sV aQ 0 4 4)] ([(mkS [97]), (mkS [98]), (mkS [120]), (mkS [103, 111])] : List Str), blk aG [(nV 0), (nV 0), (.string ⟨((mkS [])).b.toArray⟩), (.slice none 0 0)] 24]) [1] [0, 2, 3, 4, 5] (by decide) rfl rfl
  refine gCg rfl call64 (pspec_l30Rd__of_ok _ aa (⟨r_.b, aU.2.p⟩ : l30Rd) bp0 v1p (GT.mono hle h1p) ([(mkS [102]), (mkS [103]), (mkS [97])] : List Str) (sV aT 0 3 3) (fz_ow (hsub 0 _ rfl)) hm1 ) ?_
  rintro aB az bA w ⟨rfl, hB⟩
  replace hm := ab _ _ hB; clear hB
  refine gY (yG rfl (y_build (vs := [(0, (nV 13)), (2, (.string ⟨(aB.1).b.toArray⟩))]) (cs := #[(nV 13), (nV 0), (.string ⟨(aB.1).b.toArray⟩), (.slice none 0 0)]) rfl rfl (by kernel_rfl))) (gAl hm zeroValue24 rfl fun aI w hm => gSN hm 0 sizeOf24 (one_cons rfl (one_cons rfl (one_cons rfl (one_cons rfl one_nil)))) rfl fun w hm => gE (gS (gS (gR (gM rfl ?_)))))
  obtain ⟨ac, hle, hm1, hsub, ae⟩ := hm.take2 (L1 := [blk bp0 [v1p, (nV aB.2.p)] 124]) (L2 := [blk aI [(nV 13), (nV 0), (.string ⟨(aB.1).b.toArray⟩), (.slice none 0 0)] 24, ow [(sV aT 0 3 3)] ([(mkS [102]), (mkS [103]), (mkS [97])] : List Str), blk aH [(nV aA.1.op), (nV aA.1.n_), (.string ⟨(aA.1.name).b.toArray⟩), aN] 24, ow [aN] aA.1.kids, ow [(sV aQ 0 4 4)] ([(mkS [97]), (mkS [98]), (mkS [120]), (mkS [103, 111])] : List Str), blk aG [(nV 0), (nV 0), (.string ⟨((mkS [])).b.toArray⟩), (.slice none 0 0)] 24]) [1] [0, 2, 3, 4, 5, 6] (by decide) rfl rfl
  refine gCg rfl call52 (pspec_l30Rd__pick_ok _ ac (⟨r_.b, aB.2.p⟩ : l30Rd) bp0 v1p (GT.mono hle h1p) 4 hm1 ) ?_
  rintro bB bC bD w ⟨rfl, hB⟩
  replace hm := ae _ _ hB; clear hB
  refine gA rfl (gE ?_)
  obtain ⟨aC, aD, rfl, bE⟩ := ro_slice (hm.ow_rep 4 rfl)
  refine gJg (fun aL a w => ∃ (aF : Value), St 42 [(0, (pV bp0)), (4, (pV aG)), (5, (pV aH)), (6, (pV aI))] w0 hz [blk bp0 [v1p, (nV aL.1)] 124, blk aG [(nV 0), (nV 0), (.string ⟨((mkS [])).b.toArray⟩), (.slice none 0 0)] 24, blk aH [(nV aA.1.op), (nV aA.1.n_), (.string ⟨(aA.1.name).b.toArray⟩), (.slice aC aA.1.kids.length aD)] 24, ow [(.slice aC aA.1.kids.length aD)] aA.1.kids, blk aI [(nV 13), (nV 0), (.string ⟨(aB.1).b.toArray⟩), aF] 24, ow [aF] aL.2] a w) (fun aL => ?_) ?_
  ·
   refine gBk ?_
   replace hm := hm.nilow (α := Expr_)
   refine gMg (fun aK a w => ∃ (aJ : Value), St 42 [(0, (pV bp0)), (4, (pV aG)), (5, (pV aH)), (6, (pV aI)), (7, (nV aK.2.2))] w0 hz [blk bp0 [v1p, (nV aK.1)] 124, blk aG [(nV 0), (nV 0), (.string ⟨((mkS [])).b.toArray⟩), (.slice none 0 0)] 24, blk aH [(nV aA.1.op), (nV aA.1.n_), (.string ⟨(aA.1.name).b.toArray⟩), (.slice aC aA.1.kids.length aD)] 24, ow [(.slice aC aA.1.kids.length aD)] aA.1.kids, blk aI [(nV 13), (nV 0), (.string ⟨(aB.1).b.toArray⟩), aJ] 24, ow [aJ] aK.2.1] a w) (fun a hf => ⟨(.slice none 0 0), hf.sb rfl, hm.pk [1, 7, 4, 5, 2, 0] rfl rfl⟩) ?_
   repeat clear hm
   rintro bF af aK a w ⟨aJ, hf, hm⟩ bG ag
   refine gv hf (gS (gS (gR (gM rfl (gB rfl (gE (gsd 23 rfl (fun ah => ?_) fun ah => ?_)))))))
   ·
    refine gct rfl (gSk (gS (gBk (gW (.p 0 (.p 2 (.q 1 (.e 3 (.e 4 (.e 5 (.e 6 (.p 7 (.e 8 .fin .nil)) .nil) .nil) .nil) .nil)))) [3, 4, 5] [0, 2, 7] hm [1, 2, 3, 4, 5] [blk aG [(nV 0), (nV 0), (.string ⟨((mkS [])).b.toArray⟩), (.slice none 0 0)] 24, blk aH [(nV aA.1.op), (nV aA.1.n_), (.string ⟨(aA.1.name).b.toArray⟩), (.slice aC aA.1.kids.length aD)] 24, ow [(.slice aC aA.1.kids.length aD)] aA.1.kids, blk aI [(nV 13), (nV 0), (.string ⟨(aB.1).b.toArray⟩), aJ] 24, ow [aJ] aK.2.1] rfl mxo (by kernel_rfl) (fun _ _ _ h => h.2) fun w hm hS => tP rfl (fun w => yF fo_24_3 rfl) (tP rfl (fun w => yM rfl) (tQ rfl hS (fun w hm => yL hm 3 isAgg22 rfl) (tO (tf rfl rfl (fun a hf => e_build (vs := #[(0, (.string ⟨((mkS [97])).b.toArray⟩)), (1, (.string ⟨((mkS [98])).b.toArray⟩))]) (cs := [(.string ⟨((mkS [97])).b.toArray⟩), (.string ⟨((mkS [98])).b.toArray⟩)]) et_74 hf hm rfl rfl (by kernel_rfl) rfl rfl) ?_))))))))
    rintro _ w ⟨aO, rfl, hm⟩
    replace hm := hm.lit (xs := ([(mkS [97]), (mkS [98])] : List Str)) 0 rfl rfl rfl rfl
    refine tAk hm [2, 3, 4, 5, 6] rfl fun hS => tO (gb fun aE ai => ?_)
    obtain ⟨aj, hle, hm1, hsub, ak⟩ := hm.take2 (L1 := [blk bp0 [v1p, (nV aK.1)] 124]) (L2 := [ow [(sV aO 0 2 2)] ([(mkS [97]), (mkS [98])] : List Str), blk aG [(nV 0), (nV 0), (.string ⟨((mkS [])).b.toArray⟩), (.slice none 0 0)] 24, blk aH [(nV aA.1.op), (nV aA.1.n_), (.string ⟨(aA.1.name).b.toArray⟩), (.slice aC aA.1.kids.length aD)] 24, ow [(.slice aC aA.1.kids.length aD)] aA.1.kids, blk aI [(nV 13), (nV 0), (.string ⟨(aB.1).b.toArray⟩), aJ] 24, ow [aJ] aK.2.1]) [1] [0, 2, 3, 4, 5, 6] (by decide) rfl rfl
    refine tf rfl rfl (fun a hf => e_call hf rfl call108 rfl (spec_l2Expr_ok _ aj (⟨r_.b, aK.1⟩ : l30Rd) bp0 v1p (GT.mono hle h1p) ([(mkS [97]), (mkS [98])] : List Str) (sV aO 0 2 2) (fz_ow (hsub 0 _ rfl)) 2 hm1  _ ai)) ?_
    rintro bH w ⟨aP, rfl, hB⟩
    replace hm := ak _ _ hB; clear hB
    refine tAk hm [3, 4, 5, 6, 7] rfl fun hS => tO (tf rfl rfl (fun a hf => e_build (vs := #[(0, (.agg #[(nV aE.1.op), (nV aE.1.n_), (.string ⟨(aE.1.name).b.toArray⟩), aP]))]) (cs := [(nV aE.1.op), (nV aE.1.n_), (.string ⟨(aE.1.name).b.toArray⟩), aP]) et_22 hf hm rfl rfl (by kernel_rfl) rfl rfl) ?_)
    rintro _ w ⟨aS, rfl, hm⟩
    replace hm := hm.els_nil (α := Expr_)
    replace hm : Mem w0 hz _ [els [] ([] : List Expr_), blk aS [(nV aE.1.op), (nV aE.1.n_), (.string ⟨(aE.1.name).b.toArray⟩), aP] 24, blk bp0 [v1p, (nV aE.2.p)] 124, ow [(nV aE.1.op), (nV aE.1.n_), (.string ⟨(aE.1.name).b.toArray⟩), aP] (aE.1 : Expr_), ow [(sV aO 0 2 2)] ([(mkS [97]), (mkS [98])] : List Str), blk aG [(nV 0), (nV 0), (.string ⟨((mkS [])).b.toArray⟩), (.slice none 0 0)] 24, blk aH [(nV aA.1.op), (nV aA.1.n_), (.string ⟨(aA.1.name).b.toArray⟩), (.slice aC aA.1.kids.length aD)] 24, ow [(.slice aC aA.1.kids.length aD)] aA.1.kids, blk aI [(nV 13), (nV 0), (.string ⟨(aB.1).b.toArray⟩), aJ] 24, ow [aJ] aK.2.1] := mkx_Expr_ aE.1 hm 3 rfl
    replace hm := (hm.els_cons 0 3 (by decide) rfl rfl).pk (L' := [els [(nV aE.1.op), (nV aE.1.n_), (.string ⟨(aE.1.name).b.toArray⟩), aP] ([aE.1] : List Expr_), blk aS [(nV aE.1.op), (nV aE.1.n_), (.string ⟨(aE.1.name).b.toArray⟩), aP] 24, blk bp0 [v1p, (nV aE.2.p)] 124, ow [(sV aO 0 2 2)] ([(mkS [97]), (mkS [98])] : List Str), blk aG [(nV 0), (nV 0), (.string ⟨((mkS [])).b.toArray⟩), (.slice none 0 0)] 24, blk aH [(nV aA.1.op), (nV aA.1.n_), (.string ⟨(aA.1.name).b.toArray⟩), (.slice aC aA.1.kids.length aD)] 24, ow [(.slice aC aA.1.kids.length aD)] aA.1.kids, blk aI [(nV 13), (nV 0), (.string ⟨(aB.1).b.toArray⟩), aJ] 24, ow [aJ] aK.2.1]) [0, 1, 2, 4, 5, 6, 7, 8, 9] rfl rfl
    replace hm := (hm.lit_els 1 0 (by decide) rfl rfl rfl rfl).pk (L' := [ow [(sV aS 0 1 1)] ([aE.1] : List Expr_), blk bp0 [v1p, (nV aE.2.p)] 124, ow [(sV aO 0 2 2)] ([(mkS [97]), (mkS [98])] : List Str), blk aG [(nV 0), (nV 0), (.string ⟨((mkS [])).b.toArray⟩), (.slice none 0 0)] 24, blk aH [(nV aA.1.op), (nV aA.1.n_), (.string ⟨(aA.1.name).b.toArray⟩), (.slice aC aA.1.kids.length aD)] 24, ow [(.slice aC aA.1.kids.length aD)] aA.1.kids, blk aI [(nV 13), (nV 0), (.string ⟨(aB.1).b.toArray⟩), aJ] 24, ow [aJ] aK.2.1]) [1, 2, 3, 4, 5, 6, 7, 8] rfl rfl
    refine tAk hm [3, 4, 5, 6, 7] rfl fun hS => tO (gb fun bJ al => ?_)
    obtain ⟨am, an⟩ := appM_some.1 al
    replace hm := (hm.both 7 0 (by decide) rfl rfl).pk (L' := [blk bp0 [v1p, (nV aE.2.p)] 124, ow [(sV aO 0 2 2)] ([(mkS [97]), (mkS [98])] : List Str), blk aG [(nV 0), (nV 0), (.string ⟨((mkS [])).b.toArray⟩), (.slice none 0 0)] 24, blk aH [(nV aA.1.op), (nV aA.1.n_), (.string ⟨(aA.1.name).b.toArray⟩), (.slice aC aA.1.kids.length aD)] 24, ow [(.slice aC aA.1.kids.length aD)] aA.1.kids, blk aI [(nV 13), (nV 0), (.string ⟨(aB.1).b.toArray⟩), aJ] 24, both (ow [aJ] aK.2.1) (ow [(sV aS 0 1 1)] ([aE.1] : List Expr_))]) [1, 2, 3, 4, 5, 6, 7] rfl rfl
    refine tf rfl rfl (fun a hf => e_appendD (xs := aK.2.1) (ys := ([aE.1] : List Expr_)) 6 et_22 hf hm rfl rfl rfl rfl am) ?_
    rintro ao w hm
    rw [an] at hm
    refine tAn rfl (tP rfl (fun w => yF fo_24_3 rfl) (tO (tf0 rfl rfl (fun a hf => e_store1 5 hf hm rfl sizeOf22 rfl rfl rfl (rep_one (hm.ow_rep 6 rfl)) rfl) ?_)))
    rintro _ w hm
    exact tAn rfl (tE (gR (gM rfl (gB rfl (gA rfl (gE (gZe fun a hf => ⟨ao, hf.sb rfl, hm.pk [0, 2, 3, 4, 5, 6] rfl rfl⟩)))))))
   exact gcf rfl (gXt (gHh (gLp ag af (gZ fun a hf => ⟨aJ, hf.sb rfl, hm.pk [0, 1, 2, 3, 4, 5] rfl rfl⟩))))
  repeat clear hm
  rintro aL a w ⟨aF, hf, hm⟩
  refine gv hf (gS (gS (gR (gM rfl ?_))))
  obtain ⟨aq, hle, hm1, hsub, ar⟩ := hm.take2 (L1 := [blk bp0 [v1p, (nV aL.1)] 124]) (L2 := [blk aG [(nV 0), (nV 0), (.string ⟨((mkS [])).b.toArray⟩), (.slice none 0 0)] 24, blk aH [(nV aA.1.op), (nV aA.1.n_), (.string ⟨(aA.1.name).b.toArray⟩), (.slice aC aA.1.kids.length aD)] 24, ow [(.slice aC aA.1.kids.length aD)] aA.1.kids, blk aI [(nV 13), (nV 0), (.string ⟨(aB.1).b.toArray⟩), aF] 24, ow [aF] aL.2]) [0] [1, 2, 3, 4, 5] (by decide) rfl rfl
  refine gCg rfl call52 (pspec_l30Rd__pick_ok _ aq (⟨r_.b, aL.1⟩ : l30Rd) bp0 v1p (GT.mono hle h1p) 2 hm1 ) ?_
  rintro aR bK bL w ⟨rfl, hB⟩
  replace hm := ar _ _ hB; clear hB
  refine gB rfl (gE (gsd 36 rfl (fun au => ?_) fun au => ?_))
  ·
   exact gct rfl (gS (gR (gY (yn (hm.blk_at 4 rfl) isAgg24 sizeOf24 rfl) (gSN hm 1 sizeOf24 (one_cons rfl (one_cons rfl (one_cons rfl (one_cons (rep_one (hm.ow_rep 5 rfl)) one_nil)))) rfl fun w hm => gE (gRt (grc 1 results51 hm rfl isAgg24 sizeOf24 ⟨aF, rfl, hm.pk [0, 5] rfl rfl⟩))))))
  refine gcf rfl (gSk (gS (gR (gY (yn (hm.blk_at 2 rfl) isAgg24 sizeOf24 rfl) (gY (yn (hm.blk_at 4 rfl) isAgg24 sizeOf24 rfl) (gf rfl (fun a hf => e_build (vs := #[(0, (.agg #[(nV aA.1.op), (nV aA.1.n_), (.string ⟨(aA.1.name).b.toArray⟩), (.slice aC aA.1.kids.length aD)])), (1, (.agg #[(nV 13), (nV 0), (.string ⟨(aB.1).b.toArray⟩), aF]))]) (cs := [(nV aA.1.op), (nV aA.1.n_), (.string ⟨(aA.1.name).b.toArray⟩), (.slice aC aA.1.kids.length aD), (nV 13), (nV 0), (.string ⟨(aB.1).b.toArray⟩), aF]) et_22 hf hm rfl rfl (by kernel_rfl) rfl rfl) ?_))))))
  rintro _ w ⟨aM, rfl, hm⟩
  replace hm := hm.els_nil (α := Expr_)
  replace hm : Mem w0 hz _ [els [] ([] : List Expr_), blk aM [(nV aA.1.op), (nV aA.1.n_), (.string ⟨(aA.1.name).b.toArray⟩), (.slice aC aA.1.kids.length aD), (nV 13), (nV 0), (.string ⟨(aB.1).b.toArray⟩), aF] 24, blk bp0 [v1p, (nV aR.2.p)] 124, blk aG [(nV 0), (nV 0), (.string ⟨((mkS [])).b.toArray⟩), (.slice none 0 0)] 24, blk aH [(nV aA.1.op), (nV aA.1.n_), (.string ⟨(aA.1.name).b.toArray⟩), (.slice aC aA.1.kids.length aD)] 24, ow [(.slice aC aA.1.kids.length aD)] aA.1.kids, blk aI [(nV 13), (nV 0), (.string ⟨(aB.1).b.toArray⟩), aF] 24, ow [(nV 13), (nV 0), (.string ⟨(aB.1).b.toArray⟩), aF] ((⟨13, 0, aB.1, aL.2⟩ : Expr_) : Expr_)] := mk_Expr_ 13 0 aB.1 hm 7 rfl
  replace hm := (hm.els_cons 0 7 (by decide) rfl rfl).pk (L' := [els [(nV 13), (nV 0), (.string ⟨(aB.1).b.toArray⟩), aF] ([(⟨13, 0, aB.1, aL.2⟩ : Expr_)] : List Expr_), blk aM [(nV aA.1.op), (nV aA.1.n_), (.string ⟨(aA.1.name).b.toArray⟩), (.slice aC aA.1.kids.length aD), (nV 13), (nV 0), (.string ⟨(aB.1).b.toArray⟩), aF] 24, blk bp0 [v1p, (nV aR.2.p)] 124, blk aG [(nV 0), (nV 0), (.string ⟨((mkS [])).b.toArray⟩), (.slice none 0 0)] 24, blk aH [(nV aA.1.op), (nV aA.1.n_), (.string ⟨(aA.1.name).b.toArray⟩), (.slice aC aA.1.kids.length aD)] 24, ow [(.slice aC aA.1.kids.length aD)] aA.1.kids, blk aI [(nV 13), (nV 0), (.string ⟨(aB.1).b.toArray⟩), aF] 24]) [0, 1, 2, 3, 4, 5, 6] rfl rfl
  replace hm : Mem w0 hz _ [els [(nV 13), (nV 0), (.string ⟨(aB.1).b.toArray⟩), aF] ([(⟨13, 0, aB.1, aL.2⟩ : Expr_)] : List Expr_), blk aM [(nV aA.1.op), (nV aA.1.n_), (.string ⟨(aA.1.name).b.toArray⟩), (.slice aC aA.1.kids.length aD), (nV 13), (nV 0), (.string ⟨(aB.1).b.toArray⟩), aF] 24, blk bp0 [v1p, (nV aR.2.p)] 124, blk aG [(nV 0), (nV 0), (.string ⟨((mkS [])).b.toArray⟩), (.slice none 0 0)] 24, blk aH [(nV aA.1.op), (nV aA.1.n_), (.string ⟨(aA.1.name).b.toArray⟩), (.slice aC aA.1.kids.length aD)] 24, ow [(nV aA.1.op), (nV aA.1.n_), (.string ⟨(aA.1.name).b.toArray⟩), (.slice aC aA.1.kids.length aD)] (aA.1 : Expr_), blk aI [(nV 13), (nV 0), (.string ⟨(aB.1).b.toArray⟩), aF] 24] := mkx_Expr_ aA.1 hm 5 rfl
  replace hm := (hm.els_cons 0 5 (by decide) rfl rfl).pk (L' := [els [(nV aA.1.op), (nV aA.1.n_), (.string ⟨(aA.1.name).b.toArray⟩), (.slice aC aA.1.kids.length aD), (nV 13), (nV 0), (.string ⟨(aB.1).b.toArray⟩), aF] ([aA.1, (⟨13, 0, aB.1, aL.2⟩ : Expr_)] : List Expr_), blk aM [(nV aA.1.op), (nV aA.1.n_), (.string ⟨(aA.1.name).b.toArray⟩), (.slice aC aA.1.kids.length aD), (nV 13), (nV 0), (.string ⟨(aB.1).b.toArray⟩), aF] 24, blk bp0 [v1p, (nV aR.2.p)] 124, blk aG [(nV 0), (nV 0), (.string ⟨((mkS [])).b.toArray⟩), (.slice none 0 0)] 24, blk aH [(nV aA.1.op), (nV aA.1.n_), (.string ⟨(aA.1.name).b.toArray⟩), (.slice aC aA.1.kids.length aD)] 24, blk aI [(nV 13), (nV 0), (.string ⟨(aB.1).b.toArray⟩), aF] 24]) [0, 1, 2, 3, 4, 6] rfl rfl
  replace hm := (hm.lit_els 1 0 (by decide) rfl rfl rfl rfl).pk (L' := [ow [(sV aM 0 2 2)] ([aA.1, (⟨13, 0, aB.1, aL.2⟩ : Expr_)] : List Expr_), blk bp0 [v1p, (nV aR.2.p)] 124, blk aG [(nV 0), (nV 0), (.string ⟨((mkS [])).b.toArray⟩), (.slice none 0 0)] 24, blk aH [(nV aA.1.op), (nV aA.1.n_), (.string ⟨(aA.1.name).b.toArray⟩), (.slice aC aA.1.kids.length aD)] 24, blk aI [(nV 13), (nV 0), (.string ⟨(aB.1).b.toArray⟩), aF] 24]) [1, 2, 3, 4, 5] rfl rfl
  exact gY (yG rfl (y_build (vs := [(0, (nV 3)), (3, (sV aM 0 2 2))]) (cs := #[(nV 3), (nV 0), (.string ⟨((mkS [])).b.toArray⟩), (sV aM 0 2 2)]) rfl rfl (by kernel_rfl))) (gSN hm 2 sizeOf24 (one_cons rfl (one_cons rfl (one_cons rfl (one_cons rfl one_nil)))) rfl fun w hm => gE (gRt (grc 2 results51 hm rfl isAgg24 sizeOf24 ⟨(sV aM 0 2 2), rfl, hm.pk [1, 0] rfl rfl⟩)))
theorem spec_l2Bent_ok (w0 : World) (hz : Heap) (r_ : l30Rd) (bp0 : Nat) (v1p : Value) (h1p : GT.rep hz [v1p] r_.b) (hm0 : Mem w0 hz w0 [blk bp0 [v1p, (nV r_.p)] 124]) :
    ConM Tryz.prog 53 [(pV bp0)] w0 (spec_l2Bent r_) fun r v w' => ∃ (x1 : Value), v = (.agg #[(nV r.1.op), (nV r.1.n_), (.string ⟨(r.1.name).b.toArray⟩), x1]) ∧ Mem w0 hz w' [blk bp0 [v1p, (nV r.2.p)] 124, ow [x1] r.1.kids] := by
  unfold spec_l2Bent
  refine gcon func53 rfl fun r => ?_
  have hm := hm0
  refine gS (gR (gAl hm zeroValue24 rfl fun aD w hm => gE (gS (gR (gM rfl ?_)))))
  obtain ⟨aY, hle, hm1, hsub, aZ⟩ := hm.take2 (L1 := [blk bp0 [v1p, (nV r_.p)] 124]) (L2 := [blk aD [(nV 0), (nV 0), (.string ⟨((mkS [])).b.toArray⟩), (.slice none 0 0)] 24]) [1] [0] (by decide) rfl rfl
  refine gCg rfl call51 (spec_l2Any_ok _ aY r_ bp0 v1p (GT.mono hle h1p) 4 hm1 ) ?_
  rintro aA bA bB w ⟨aC, rfl, hB⟩
  replace hm := aZ _ _ hB; clear hB
  refine gAl hm zeroValue24 rfl fun aE w hm => gSN hm 0 sizeOf24 (one_cons rfl (one_cons rfl (one_cons rfl (one_cons (rep_one (hm.ow_rep 2 rfl)) one_nil)))) rfl fun w hm => gE (gS (gS (gR (gM rfl ?_))))
  obtain ⟨a8, hle, hm1, hsub, aa⟩ := hm.take2 (L1 := [blk bp0 [v1p, (nV aA.2.p)] 124]) (L2 := [blk aE [(nV aA.1.op), (nV aA.1.n_), (.string ⟨(aA.1.name).b.toArray⟩), aC] 24, ow [aC] aA.1.kids, blk aD [(nV 0), (nV 0), (.string ⟨((mkS [])).b.toArray⟩), (.slice none 0 0)] 24]) [1] [0, 2, 3] (by decide) rfl rfl
  refine gCg rfl call52 (pspec_l30Rd__pick_ok _ a8 (⟨r_.b, aA.2.p⟩ : l30Rd) bp0 v1p (GT.mono hle h1p) 20 hm1 ) ?_
  rintro aF bC bD w ⟨rfl, hB⟩
  replace hm := aa _ _ hB; clear hB
  refine gE (gJg (fun aG a w => ∃ (aN : Value), St 40 [(2, (pV aD)), (3, (pV aE))] w0 hz [blk aD [(nV 0), (nV 0), (.string ⟨((mkS [])).b.toArray⟩), (.slice none 0 0)] 24, blk aE [(nV aG.1), (nV aG.2.1), (.string ⟨(aG.2.2.1).b.toArray⟩), aN] 24, ow [aN] aG.2.2.2.1, blk bp0 [v1p, (nV aG.2.2.2.2)] 124] a w) (fun aG => ?_) ?_)
  ·
   refine gBk (gS (gR (gB rfl (gA rfl (gE (gJg (fun aH a w => ∃ (aO : Value), St 40 [(2, (pV aD)), (3, (pV aE))] w0 hz [blk aD [(nV 0), (nV 0), (.string ⟨((mkS [])).b.toArray⟩), (.slice none 0 0)] 24, blk aE [(nV aH.1), (nV aH.2.1), (.string ⟨(aH.2.2.1).b.toArray⟩), aO] 24, ow [aO] aH.2.2.2.1, blk bp0 [v1p, (nV aH.2.2.2.2)] 124] a w) (fun aH => ?_) ?_))))))
   ·
    refine gsd 8 rfl (fun ab => ?_) fun ab => ?_
    ·
     refine gct rfl (gR (gM rfl (gf rfl (fun a hf => e_build (vs := #[(0, (nV (-1))), (1, (nV 256)), (2, (nV 3))]) (cs := [(nV (-1)), (nV 256), (nV 3)]) et_83 hf hm rfl rfl (by kernel_rfl) rfl rfl) ?_)))
     rintro _ w ⟨aU, rfl, hm⟩
     replace hm := hm.lit (xs := ([-1, 256, 3] : List Int)) 0 rfl rfl rfl rfl
     obtain ⟨ac, hle, hm1, hsub, ae⟩ := hm.take2 (L1 := [blk bp0 [v1p, (nV aF.2.p)] 124]) (L2 := [ow [(sV aU 0 3 3)] ([-1, 256, 3] : List Int), blk aE [(nV aA.1.op), (nV aA.1.n_), (.string ⟨(aA.1.name).b.toArray⟩), aC] 24, ow [aC] aA.1.kids, blk aD [(nV 0), (nV 0), (.string ⟨((mkS [])).b.toArray⟩), (.slice none 0 0)] 24]) [1] [0, 2, 3, 4] (by decide) rfl rfl
     refine gCg rfl call63 (pspec_l30Rd__num_ok _ ac (⟨r_.b, aF.2.p⟩ : l30Rd) bp0 v1p (GT.mono hle h1p) ([-1, 256, 3] : List Int) (sV aU 0 3 3) (fz_ow (hsub 0 _ rfl)) hm1 ) ?_
     rintro bE bF bG w ⟨rfl, hB⟩
     replace hm := ae _ _ hB; clear hB
     exact gF fo_24_1 rfl (gS1 hm 2 sizeOf3 rfl rfl fun w hm => gE (gZ fun a hf => ⟨aC, hf.sb rfl, hm.pk [4, 2, 3, 0] rfl rfl⟩))
    refine gcf rfl (gS (gR (gB rfl (gA rfl (gE (gJg (fun aI a w => ∃ (aP : Value), St 40 [(2, (pV aD)), (3, (pV aE))] w0 hz [blk aD [(nV 0), (nV 0), (.string ⟨((mkS [])).b.toArray⟩), (.slice none 0 0)] 24, blk aE [(nV aI.1), (nV aI.2.1), (.string ⟨(aI.2.2.1).b.toArray⟩), aP] 24, ow [aP] aI.2.2.2.1, blk bp0 [v1p, (nV aI.2.2.2.2)] 124] a w) (fun aI => ?_) ?_))))))
    ·
     refine gsd 14 rfl (fun af => ?_) fun af => ?_
     ·
      refine gct rfl (gR (gM rfl (gf rfl (fun a hf => e_build (vs := #[(0, (.string ⟨((mkS [])).b.toArray⟩)), (1, (.string ⟨((mkS [100, 111])).b.toArray⟩)), (2, (.string ⟨((mkS [65])).b.toArray⟩)), (3, (.string ⟨((mkS [97, 98, 99, 100, 101])).b.toArray⟩)), (4, (.string ⟨((mkS [113])).b.toArray⟩))]) (cs := [(.string ⟨((mkS [])).b.toArray⟩), (.string ⟨((mkS [100, 111])).b.toArray⟩), (.string ⟨((mkS [65])).b.toArray⟩), (.string ⟨((mkS [97, 98, 99, 100, 101])).b.toArray⟩), (.string ⟨((mkS [113])).b.toArray⟩)]) et_74 hf hm rfl rfl (by kernel_rfl) rfl rfl) ?_)))
      rintro _ w ⟨aV, rfl, hm⟩
      replace hm := hm.lit (xs := ([(mkS []), (mkS [100, 111]), (mkS [65]), (mkS [97, 98, 99, 100, 101]), (mkS [113])] : List Str)) 0 rfl rfl rfl rfl
      obtain ⟨ag, hle, hm1, hsub, ah⟩ := hm.take2 (L1 := [blk bp0 [v1p, (nV aF.2.p)] 124]) (L2 := [ow [(sV aV 0 5 5)] ([(mkS []), (mkS [100, 111]), (mkS [65]), (mkS [97, 98, 99, 100, 101]), (mkS [113])] : List Str), blk aE [(nV aA.1.op), (nV aA.1.n_), (.string ⟨(aA.1.name).b.toArray⟩), aC] 24, ow [aC] aA.1.kids, blk aD [(nV 0), (nV 0), (.string ⟨((mkS [])).b.toArray⟩), (.slice none 0 0)] 24]) [1] [0, 2, 3, 4] (by decide) rfl rfl
      refine gCg rfl call64 (pspec_l30Rd__of_ok _ ag (⟨r_.b, aF.2.p⟩ : l30Rd) bp0 v1p (GT.mono hle h1p) ([(mkS []), (mkS [100, 111]), (mkS [65]), (mkS [97, 98, 99, 100, 101]), (mkS [113])] : List Str) (sV aV 0 5 5) (fz_ow (hsub 0 _ rfl)) hm1 ) ?_
      rintro bH bJ bK w ⟨rfl, hB⟩
      replace hm := ah _ _ hB; clear hB
      exact gF fo_24_2 rfl (gS1 hm 2 sizeOf9 rfl rfl fun w hm => gE (gZ fun a hf => ⟨aC, hf.sb rfl, hm.pk [4, 2, 3, 0] rfl rfl⟩))
     refine gcf rfl (gS (gR (gB rfl (gA rfl (gE (gJg (fun aJ a w => ∃ (aQ : Value), St 40 [(2, (pV aD)), (3, (pV aE))] w0 hz [blk aD [(nV 0), (nV 0), (.string ⟨((mkS [])).b.toArray⟩), (.slice none 0 0)] 24, blk aE [(nV aJ.1), (nV aJ.2.1), (.string ⟨(aJ.2.2.1).b.toArray⟩), aQ] 24, ow [aQ] aJ.2.2.2.1, blk bp0 [v1p, (nV aJ.2.2.2.2)] 124] a w) (fun aJ => ?_) ?_))))))
     ·
      refine gsd 20 rfl (fun ai => ?_) fun ai => ?_
      ·
       refine gct rfl (gR (gM rfl (gf rfl (fun a hf => e_build (vs := #[(0, (nV 0)), (1, (nV 14)), (2, (nV (-1))), (3, (nV 5)), (4, (nV 11))]) (cs := [(nV 0), (nV 14), (nV (-1)), (nV 5), (nV 11)]) et_83 hf hm rfl rfl (by kernel_rfl) rfl rfl) ?_)))
       rintro _ w ⟨aX, rfl, hm⟩
       replace hm := hm.lit (xs := ([0, 14, -1, 5, 11] : List Int)) 0 rfl rfl rfl rfl
       obtain ⟨aj, hle, hm1, hsub, ak⟩ := hm.take2 (L1 := [blk bp0 [v1p, (nV aF.2.p)] 124]) (L2 := [ow [(sV aX 0 5 5)] ([0, 14, -1, 5, 11] : List Int), blk aE [(nV aA.1.op), (nV aA.1.n_), (.string ⟨(aA.1.name).b.toArray⟩), aC] 24, ow [aC] aA.1.kids, blk aD [(nV 0), (nV 0), (.string ⟨((mkS [])).b.toArray⟩), (.slice none 0 0)] 24]) [1] [0, 2, 3, 4] (by decide) rfl rfl
       refine gCg rfl call63 (pspec_l30Rd__num_ok _ aj (⟨r_.b, aF.2.p⟩ : l30Rd) bp0 v1p (GT.mono hle h1p) ([0, 14, -1, 5, 11] : List Int) (sV aX 0 5 5) (fz_ow (hsub 0 _ rfl)) hm1 ) ?_
       rintro bL bM bN w ⟨rfl, hB⟩
       replace hm := ak _ _ hB; clear hB
       exact gF fo_24_0 rfl (gS1 hm 2 sizeOf3 rfl rfl fun w hm => gE (gZ fun a hf => ⟨aC, hf.sb rfl, hm.pk [4, 2, 3, 0] rfl rfl⟩))
      refine gcf rfl (gS (gR (gB rfl (gA rfl (gE (gJg (fun aK a w => ∃ (aR : Value), St 40 [(2, (pV aD)), (3, (pV aE))] w0 hz [blk aD [(nV 0), (nV 0), (.string ⟨((mkS [])).b.toArray⟩), (.slice none 0 0)] 24, blk aE [(nV aK.1), (nV aK.2.1), (.string ⟨(aK.2.2.1).b.toArray⟩), aR] 24, ow [aR] aK.2.2.2.1, blk bp0 [v1p, (nV aK.2.2.2.2)] 124] a w) (fun aK => ?_) ?_))))))
      ·
       refine gsd 26 rfl (fun al => ?_) fun al => ?_
       ·
        refine gct rfl (gW (.p 0 (.p 2 (.q 1 (.e 3 (.e 4 (.e 5 (.p 6 (.e 7 .fin .nil)) .nil) .nil) .nil)))) [3, 4] [0, 2, 6] hm [1, 2, 3] [blk aE [(nV aA.1.op), (nV aA.1.n_), (.string ⟨(aA.1.name).b.toArray⟩), aC] 24, ow [aC] aA.1.kids, blk aD [(nV 0), (nV 0), (.string ⟨((mkS [])).b.toArray⟩), (.slice none 0 0)] 24] rfl mxo (by kernel_rfl) (fun _ _ _ h => h.2) fun w hm hS => tP rfl (fun w => yF fo_24_3 rfl) (tP rfl (fun w => yM rfl) (tQ rfl hS (fun w hm => yL hm 0 isAgg22 rfl) (tO (gb fun aB am => ?_)))))
        obtain ⟨an, hle, hm1, hsub, ao⟩ := hm.take2 (L1 := [blk bp0 [v1p, (nV aF.2.p)] 124]) (L2 := [blk aE [(nV aA.1.op), (nV aA.1.n_), (.string ⟨(aA.1.name).b.toArray⟩), aC] 24, ow [aC] aA.1.kids, blk aD [(nV 0), (nV 0), (.string ⟨((mkS [])).b.toArray⟩), (.slice none 0 0)] 24]) [0] [1, 2, 3] (by decide) rfl rfl
        refine tf rfl rfl (fun a hf => e_call hf rfl call55 rfl (spec_l2Leaf_ok _ an (⟨r_.b, aF.2.p⟩ : l30Rd) bp0 v1p (GT.mono hle h1p) [] (.slice none 0 0) rep_nil hm1  _ am)) ?_
        rintro bO w ⟨aM, rfl, hB⟩
        replace hm := ao _ _ hB; clear hB
        refine tAk hm [2, 3, 4] rfl fun hS => tO (tf rfl rfl (fun a hf => e_build (vs := #[(0, (.agg #[(nV aB.1.op), (nV aB.1.n_), (.string ⟨(aB.1.name).b.toArray⟩), aM]))]) (cs := [(nV aB.1.op), (nV aB.1.n_), (.string ⟨(aB.1.name).b.toArray⟩), aM]) et_22 hf hm rfl rfl (by kernel_rfl) rfl rfl) ?_)
        rintro _ w ⟨aS, rfl, hm⟩
        replace hm := hm.els_nil (α := Expr_)
        replace hm : Mem w0 hz _ [els [] ([] : List Expr_), blk aS [(nV aB.1.op), (nV aB.1.n_), (.string ⟨(aB.1.name).b.toArray⟩), aM] 24, blk bp0 [v1p, (nV aB.2.p)] 124, ow [(nV aB.1.op), (nV aB.1.n_), (.string ⟨(aB.1.name).b.toArray⟩), aM] (aB.1 : Expr_), blk aE [(nV aA.1.op), (nV aA.1.n_), (.string ⟨(aA.1.name).b.toArray⟩), aC] 24, ow [aC] aA.1.kids, blk aD [(nV 0), (nV 0), (.string ⟨((mkS [])).b.toArray⟩), (.slice none 0 0)] 24] := mkx_Expr_ aB.1 hm 3 rfl
        replace hm := (hm.els_cons 0 3 (by decide) rfl rfl).pk (L' := [els [(nV aB.1.op), (nV aB.1.n_), (.string ⟨(aB.1.name).b.toArray⟩), aM] ([aB.1] : List Expr_), blk aS [(nV aB.1.op), (nV aB.1.n_), (.string ⟨(aB.1.name).b.toArray⟩), aM] 24, blk bp0 [v1p, (nV aB.2.p)] 124, blk aE [(nV aA.1.op), (nV aA.1.n_), (.string ⟨(aA.1.name).b.toArray⟩), aC] 24, ow [aC] aA.1.kids, blk aD [(nV 0), (nV 0), (.string ⟨((mkS [])).b.toArray⟩), (.slice none 0 0)] 24]) [0, 1, 2, 4, 5, 6] rfl rfl
        replace hm := (hm.lit_els 1 0 (by decide) rfl rfl rfl rfl).pk (L' := [ow [(sV aS 0 1 1)] ([aB.1] : List Expr_), blk bp0 [v1p, (nV aB.2.p)] 124, blk aE [(nV aA.1.op), (nV aA.1.n_), (.string ⟨(aA.1.name).b.toArray⟩), aC] 24, ow [aC] aA.1.kids, blk aD [(nV 0), (nV 0), (.string ⟨((mkS [])).b.toArray⟩), (.slice none 0 0)] 24]) [1, 2, 3, 4, 5] rfl rfl
        refine tAk hm [2, 3, 4] rfl fun hS => tO (gb fun bP aq => ?_)
        obtain ⟨ar, au⟩ := appM_some.1 aq
        replace hm := (hm.both 3 0 (by decide) rfl rfl).pk (L' := [blk bp0 [v1p, (nV aB.2.p)] 124, blk aE [(nV aA.1.op), (nV aA.1.n_), (.string ⟨(aA.1.name).b.toArray⟩), aC] 24, both (ow [aC] aA.1.kids) (ow [(sV aS 0 1 1)] ([aB.1] : List Expr_)), blk aD [(nV 0), (nV 0), (.string ⟨((mkS [])).b.toArray⟩), (.slice none 0 0)] 24]) [1, 2, 3, 4] rfl rfl
        refine tf rfl rfl (fun a hf => e_appendD (xs := aA.1.kids) (ys := ([aB.1] : List Expr_)) 2 et_22 hf hm rfl rfl rfl rfl ar) ?_
        rintro av w hm
        rw [au] at hm
        refine tAn rfl (tP rfl (fun w => yF fo_24_3 rfl) (tO (tf0 rfl rfl (fun a hf => e_store1 1 hf hm rfl sizeOf22 rfl rfl rfl (rep_one (hm.ow_rep 2 rfl)) rfl) ?_)))
        rintro _ w hm
        exact tAn rfl (tE (gZ fun a hf => ⟨av, hf.sb rfl, hm.pk [3, 1, 2, 0] rfl rfl⟩))
       refine gcf rfl (gS (gR (gB rfl (gA rfl (gE (gJg (fun aL a w => ∃ (aT : Value), St 40 [(2, (pV aD)), (3, (pV aE))] w0 hz [blk aD [(nV 0), (nV 0), (.string ⟨((mkS [])).b.toArray⟩), (.slice none 0 0)] 24, blk aE [(nV aL.1), (nV aL.2.1), (.string ⟨(aL.2.2.1).b.toArray⟩), aT] 24, ow [aT] aL.2.2.2.1, blk bp0 [v1p, (nV aL.2.2.2.2)] 124] a w) (fun aL => ?_) ?_))))))
       ·
        refine gsd 35 rfl (fun aw => ?_) fun aw => ?_
        ·
         refine gct rfl (gR (gM rfl ?_))
         obtain ⟨ax, hle, hm1, hsub, ay⟩ := hm.take2 (L1 := [blk bp0 [v1p, (nV aF.2.p)] 124]) (L2 := [blk aE [(nV aA.1.op), (nV aA.1.n_), (.string ⟨(aA.1.name).b.toArray⟩), aC] 24, ow [aC] aA.1.kids, blk aD [(nV 0), (nV 0), (.string ⟨((mkS [])).b.toArray⟩), (.slice none 0 0)] 24]) [0] [1, 2, 3] (by decide) rfl rfl
         refine gCg rfl call51 (spec_l2Any_ok _ ax (⟨r_.b, aF.2.p⟩ : l30Rd) bp0 v1p (GT.mono hle h1p) 7 hm1 ) ?_
         rintro bQ bR bS w ⟨az, rfl, hB⟩
         replace hm := ay _ _ hB; clear hB
         exact gSN hm 2 sizeOf24 (one_cons rfl (one_cons rfl (one_cons rfl (one_cons (rep_one (hm.ow_rep 1 rfl)) one_nil)))) rfl fun w hm => gE (gZ fun a hf => ⟨az, hf.sb rfl, hm.pk [4, 2, 1, 0] rfl rfl⟩)
        exact gcf rfl (gSk (gZ fun a hf => ⟨aC, hf.sb rfl, hm.pk [3, 1, 2, 0] rfl rfl⟩))
       repeat clear hm
       rintro aL a w ⟨aT, hf, hm⟩
       exact gv hf (gZ fun a hf => ⟨aT, hf.sb rfl, hm.pk [0, 1, 2, 3] rfl rfl⟩)
      repeat clear hm
      rintro aK a w ⟨aR, hf, hm⟩
      exact gv hf (gZ fun a hf => ⟨aR, hf.sb rfl, hm.pk [0, 1, 2, 3] rfl rfl⟩)
     repeat clear hm
     rintro aJ a w ⟨aQ, hf, hm⟩
     exact gv hf (gZ fun a hf => ⟨aQ, hf.sb rfl, hm.pk [0, 1, 2, 3] rfl rfl⟩)
    repeat clear hm
    rintro aI a w ⟨aP, hf, hm⟩
    exact gv hf (gZ fun a hf => ⟨aP, hf.sb rfl, hm.pk [0, 1, 2, 3] rfl rfl⟩)
   repeat clear hm
   rintro aH a w ⟨aO, hf, hm⟩
   exact gv hf (gZ fun a hf => ⟨aO, hf.sb rfl, hm.pk [0, 1, 2, 3] rfl rfl⟩)
  repeat clear hm
  rintro aG a w ⟨aN, hf, hm⟩
  exact gv hf (gS (gR (gY (yn (hm.blk_at 1 rfl) isAgg24 sizeOf24 rfl) (gSN hm 0 sizeOf24 (one_cons rfl (one_cons rfl (one_cons rfl (one_cons (rep_one (hm.ow_rep 2 rfl)) one_nil)))) rfl fun w hm => gE (gRt (grc 0 results53 hm rfl isAgg24 sizeOf24 ⟨aN, rfl, hm.pk [3, 2] rfl rfl⟩))))))
theorem spec_l2Copy_all  : ∀ (e : Expr_) (r : Expr_), spec_l2Copy e = some r → ∀ (w0 : World) (v1 : Value) (h1 : GT.rep (hp w0) [v1] e.kids), Con Tryz.prog 54 [(.agg #[(nV e.op), (nV e.n_), (.string ⟨(e.name).b.toArray⟩), v1])] w0 (fun v w' => ∃ (x1 : Value), v = (.agg #[(nV r.op), (nV r.n_), (.string ⟨(r.name).b.toArray⟩), x1]) ∧ Mem w0 (hp w0) w' [ow [x1] r.kids]) := by
  refine spec_l2Copy.partial_correctness  (motive := fun e r => ∀ (w0 : World) (v1 : Value) (h1 : GT.rep (hp w0) [v1] e.kids), Con Tryz.prog 54 [(.agg #[(nV e.op), (nV e.n_), (.string ⟨(e.name).b.toArray⟩), v1])] w0 (fun v w' => ∃ (x1 : Value), v = (.agg #[(nV r.op), (nV r.n_), (.string ⟨(r.name).b.toArray⟩), x1]) ∧ Mem w0 (hp w0) w' [ow [x1] r.kids])) ?_
  intro rec_ ih_ e r hq w0 v1 h1
  have spec_l2Copy_rec : ∀ (w0 : World) (e : Expr_) (v1 : Value) (h1 : GT.rep (hp w0) [v1] e.kids) (r : Expr_) (hq : rec_ e = some r), Con Tryz.prog 54 [(.agg #[(nV e.op), (nV e.n_), (.string ⟨(e.name).b.toArray⟩), v1])] w0 (fun v w' => ∃ (x1 : Value), v = (.agg #[(nV r.op), (nV r.n_), (.string ⟨(r.name).b.toArray⟩), x1]) ∧ Mem w0 (hp w0) w' [ow [x1] r.kids]) := fun w0 e v1 h1 r hq => ih_ e r hq w0 v1 h1
  refine gconr (ρ := Expr_) (R := fun r v w' => ∃ (x1 : Value), v = (.agg #[(nV r.op), (nV r.n_), (.string ⟨(r.name).b.toArray⟩), x1]) ∧ Mem w0 (hp w0) w' [ow [x1] r.kids]) func54 rfl hq ?_
  have hm := Mem.start w0
  refine gS (gR (gBx hm rfl fun aD w hm => gAl hm zeroValue24 rfl fun aE w hm => gE (gS (gR (gf rfl (fun a hf => e_build0 (α := Expr_) et_22 hm rfl) ?_)))))
  rintro aZ w hm
  refine gA rfl (gE (gS (gS (gR (gA rfl (gE ?_))))))
  obtain ⟨aM, aN, rfl, a8⟩ := ro_slice (hm.ow_rep 0 rfl)
  refine gBk (gNg (fun aL aB a w => ∃ (aC : Value), St 25 [(1, (pV aD)), (2, (pV aE)), (3, aC), (4, (nV aL))] w0 (hp w0) [blk aD [(nV e.op), (nV e.n_), (.string ⟨(e.name).b.toArray⟩), v1] 24, blk aE [(nV 0), (nV 0), (.string ⟨((mkS [])).b.toArray⟩), (.slice none 0 0)] 24, ow [aC] aB] a w) (fun a hf => ⟨(.slice aM ([] : List Expr_).length aN), hf.sb rfl, hm.pk [2, 1, 0] rfl rfl⟩) ?_ ?_)
  ·
   repeat clear hm
   rintro _ _ aL aB a w ⟨aC, hf, hm⟩ aa ab ac _
   refine gv hf (gS (gS (gR (gM rfl (gF fo_24_3 rfl (gL hm 0 isAgg22 rfl ?_))))))
   obtain ⟨ae, aG, rfl, af⟩ := ro_slice h1
   refine gY (yV st_22 rfl) (gB rfl (gE (go _ 10 rfl (decide_eq_true (by omega)) (gct rfl (gSk (gS (gBk (gR (gM rfl (gF fo_24_3 rfl (gL hm 0 isAgg22 rfl (gM rfl (gg fun aO aP aK => ?_)))))))))))))
   obtain ⟨aH, aI, ag, he⟩ := idx_form' h1 aK
   obtain ⟨rfl, _, rfl⟩ := sl3 he
   obtain ⟨aQ, aR, aS⟩ := rk_Expr_ h1 aK
   refine gI st_22 aP (idx_lt aK) rfl (gY (yn (aR.mono hm.lez) isAgg24 sizeOf24 rfl) (gCg rfl call54 (spec_l2Copy_rec _ aO aQ (hm.now aS)) ?_))
   rintro aA ah ai w ⟨aF, rfl, hB⟩
   replace hm := hm.give hB; clear hB
   refine gf rfl (fun a hf => e_build (vs := #[(0, (.agg #[(nV aA.op), (nV aA.n_), (.string ⟨(aA.name).b.toArray⟩), aF]))]) (cs := [(nV aA.op), (nV aA.n_), (.string ⟨(aA.name).b.toArray⟩), aF]) et_22 hf hm rfl rfl (by kernel_rfl) rfl rfl) ?_
   rintro _ w ⟨aJ, rfl, hm⟩
   replace hm := hm.els_nil (α := Expr_)
   replace hm : Mem w0 (hp w0) _ [els [] ([] : List Expr_), blk aJ [(nV aA.op), (nV aA.n_), (.string ⟨(aA.name).b.toArray⟩), aF] 24, ow [(nV aA.op), (nV aA.n_), (.string ⟨(aA.name).b.toArray⟩), aF] (aA : Expr_), blk aD [(nV e.op), (nV e.n_), (.string ⟨(e.name).b.toArray⟩), (sV aH aI e.kids.length aG)] 24, blk aE [(nV 0), (nV 0), (.string ⟨((mkS [])).b.toArray⟩), (.slice none 0 0)] 24, ow [aC] aB] := mkx_Expr_ aA hm 2 rfl
   replace hm := (hm.els_cons 0 2 (by decide) rfl rfl).pk (L' := [els [(nV aA.op), (nV aA.n_), (.string ⟨(aA.name).b.toArray⟩), aF] ([aA] : List Expr_), blk aJ [(nV aA.op), (nV aA.n_), (.string ⟨(aA.name).b.toArray⟩), aF] 24, blk aD [(nV e.op), (nV e.n_), (.string ⟨(e.name).b.toArray⟩), (sV aH aI e.kids.length aG)] 24, blk aE [(nV 0), (nV 0), (.string ⟨((mkS [])).b.toArray⟩), (.slice none 0 0)] 24, ow [aC] aB]) [0, 1, 3, 4, 5] rfl rfl
   replace hm := (hm.lit_els 1 0 (by decide) rfl rfl rfl rfl).pk (L' := [ow [(sV aJ 0 1 1)] ([aA] : List Expr_), blk aD [(nV e.op), (nV e.n_), (.string ⟨(e.name).b.toArray⟩), (sV aH aI e.kids.length aG)] 24, blk aE [(nV 0), (nV 0), (.string ⟨((mkS [])).b.toArray⟩), (.slice none 0 0)] 24, ow [aC] aB]) [1, 2, 3, 4] rfl rfl
   refine gb fun aj aT => ?_
   obtain ⟨aU, aV⟩ := appM_some.1 aT
   replace hm := (hm.both 3 0 (by decide) rfl rfl).pk (L' := [blk aD [(nV e.op), (nV e.n_), (.string ⟨(e.name).b.toArray⟩), (sV aH aI e.kids.length aG)] 24, blk aE [(nV 0), (nV 0), (.string ⟨((mkS [])).b.toArray⟩), (.slice none 0 0)] 24, both (ow [aC] aB) (ow [(sV aJ 0 1 1)] ([aA] : List Expr_))]) [1, 2, 3] rfl rfl
   refine gf rfl (fun a hf => e_appendD (xs := aB) (ys := ([aA] : List Expr_)) 2 et_22 hf hm rfl rfl rfl rfl aU) ?_
   rintro aX w hm
   rw [aV] at hm
   exact gA rfl (gE (gR (gM rfl (gP (by omega) (by omega) rfl (gA rfl (gE (gZe fun a hf => ⟨aX, hf.sb rfl, hm.pk [0, 1, 2] rfl rfl⟩)))))))
  repeat clear hm
  rintro ak al a w ⟨aY, hf, hm⟩ am an
  refine gv hf (gS (gS (gR (gM rfl (gF fo_24_3 rfl (gL hm 0 isAgg22 rfl ?_))))))
  obtain ⟨ao, aq, rfl, ar⟩ := ro_slice h1
  exact gY (yV st_22 rfl) (gB rfl (gE (go _ 10 rfl (decide_eq_false (by omega)) (gcf rfl (gXt (gHh (gS (gR (gM rfl (gF fo_24_3 rfl (gS1 hm 0 sizeOf22 (rep_one (hm.ow_rep 2 rfl)) rfl fun w hm => gE (gS (gR (gY (yn (hm.blk_at 0 rfl) isAgg24 sizeOf24 rfl) (gSN hm 1 sizeOf24 (one_cons rfl (one_cons rfl (one_cons rfl (one_cons (rep_one (hm.ow_rep 2 rfl)) one_nil)))) rfl fun w hm => gE (gRt (grc 1 results54 hm rfl isAgg24 sizeOf24 ⟨aY, rfl, hm.pk [2] rfl rfl⟩)))))))))))))))))
theorem spec_l2Copy_ok (w0 : World) (e : Expr_) (v1 : Value) (h1 : GT.rep (hp w0) [v1] e.kids) (r : Expr_) (hq : spec_l2Copy e = some r) : Con Tryz.prog 54 [(.agg #[(nV e.op), (nV e.n_), (.string ⟨(e.name).b.toArray⟩), v1])] w0 (fun v w' => ∃ (x1 : Value), v = (.agg #[(nV r.op), (nV r.n_), (.string ⟨(r.name).b.toArray⟩), x1]) ∧ Mem w0 (hp w0) w' [ow [x1] r.kids]) := spec_l2Copy_all e r hq w0 v1 h1
theorem spec_DrawSameExpr_ok (w0 : World) (code : List UInt8) (v1 : Value) (h1 : GT.rep (hp w0) [v1] code) :
    ConM Tryz.prog 18 [v1] w0 (spec_DrawSameExpr code) fun r v w' => ∃ (x1 : Value) (x2 : Value), v = (.tuple #[(.agg #[(nV r.1.op), (nV r.1.n_), (.string ⟨(r.1.name).b.toArray⟩), x1]), (.agg #[(nV r.2.op), (nV r.2.n_), (.string ⟨(r.2.name).b.toArray⟩), x2])]) ∧ Mem w0 (hp w0) w' [ow [x1] r.1.kids, ow [x2] r.2.kids] := by
  unfold spec_DrawSameExpr
  refine gcon func18 rfl fun r => ?_
  have hm := Mem.start w0
  refine gS (gR (gAl hm zeroValue24 rfl fun aH w hm => gAl hm zeroValue24 rfl fun aF w hm => gE (gS (gR (gM rfl (gCg rfl call50 (spec_l30Open_ok _ _ hm.lez code v1 h1 ) ?_))))))
  rintro aM bL bM w ⟨aE, aG, ag, rfl, ac, aO, hB⟩
  replace hm := Mem.giveA hm ac hB; clear hB
  refine gA rfl (gE (gS (gR (gM rfl ?_))))
  obtain ⟨ak, hle, hm1, hsub, al⟩ := hm.take2 (L1 := [blk aE [aG, (nV aM.p)] 124]) (L2 := [blk aF [(nV 0), (nV 0), (.string ⟨((mkS [])).b.toArray⟩), (.slice none 0 0)] 24, blk aH [(nV 0), (nV 0), (.string ⟨((mkS [])).b.toArray⟩), (.slice none 0 0)] 24]) [0] [1, 2] (by decide) rfl rfl
  refine gCg rfl call51 (spec_l2Any_ok _ ak aM aE aG (GT.mono hle aO) 4 hm1 ) ?_
  rintro aA bN bO w ⟨aC, rfl, hB⟩
  replace hm := al _ _ hB; clear hB
  refine gAl hm zeroValue24 rfl fun aI w hm => gSN hm 0 sizeOf24 (one_cons rfl (one_cons rfl (one_cons rfl (one_cons (rep_one (hm.ow_rep 2 rfl)) one_nil)))) rfl fun w hm => gE (gS (gS (gR (gM rfl ?_))))
  obtain ⟨am, hle, hm1, hsub, an⟩ := hm.take2 (L1 := [blk aE [aG, (nV aA.2.p)] 124]) (L2 := [blk aI [(nV aA.1.op), (nV aA.1.n_), (.string ⟨(aA.1.name).b.toArray⟩), aC] 24, ow [aC] aA.1.kids, blk aF [(nV 0), (nV 0), (.string ⟨((mkS [])).b.toArray⟩), (.slice none 0 0)] 24, blk aH [(nV 0), (nV 0), (.string ⟨((mkS [])).b.toArray⟩), (.slice none 0 0)] 24]) [1] [0, 2, 3, 4] (by decide) rfl rfl
  refine gCg rfl call52 (pspec_l30Rd__pick_ok _ am (⟨aM.b, aA.2.p⟩ : l30Rd) aE aG (GT.mono hle aO) 3 hm1 ) ?_
  rintro aU bP bQ w ⟨rfl, hB⟩
  replace hm := an _ _ hB; clear hB
  refine gB rfl (gE (gsd 13 rfl (fun ao => ?_) fun ao => ?_))
  ·
   refine gct rfl (gS (gW (.p 1 (.q 0 (.e 2 (.e 3 (.e 4 .fin .nil) .nil) .nil))) [2] [1] hm [1, 2, 3, 4] [blk aI [(nV aA.1.op), (nV aA.1.n_), (.string ⟨(aA.1.name).b.toArray⟩), aC] 24, ow [aC] aA.1.kids, blk aF [(nV 0), (nV 0), (.string ⟨((mkS [])).b.toArray⟩), (.slice none 0 0)] 24, blk aH [(nV 0), (nV 0), (.string ⟨((mkS [])).b.toArray⟩), (.slice none 0 0)] 24] rfl mxo (by kernel_rfl) (fun _ _ _ h => h.2) fun w hm hS => tP rfl (fun w => yM rfl) (tQ rfl hS (fun w hm => yn (hm.blk_at 0 rfl) isAgg24 sizeOf24 rfl) (tO (gb fun bR aq => ?_)))))
   obtain ⟨ar, hle, hm1, hsub, au⟩ := hm.take2 (L1 := [blk aE [aG, (nV aU.2.p)] 124]) (L2 := [blk aI [(nV aA.1.op), (nV aA.1.n_), (.string ⟨(aA.1.name).b.toArray⟩), aC] 24, ow [aC] aA.1.kids, blk aF [(nV 0), (nV 0), (.string ⟨((mkS [])).b.toArray⟩), (.slice none 0 0)] 24, blk aH [(nV 0), (nV 0), (.string ⟨((mkS [])).b.toArray⟩), (.slice none 0 0)] 24]) [0] [1, 2, 3, 4] (by decide) rfl rfl
   refine tf rfl rfl (fun a hf => e_call hf rfl call53 rfl (spec_l2Bent_ok _ ar (⟨aM.b, aU.2.p⟩ : l30Rd) aE aG (GT.mono hle aO) hm1  _ aq)) ?_
   rintro bS w ⟨av, rfl, hB⟩
   replace hm := au _ _ hB; clear hB
   refine tAk hm [2, 3, 4, 5] rfl fun hS => tO (tf0 rfl rfl (fun a hf => e_storeN 5 hf hm rfl sizeOf24 rfl rfl rfl (one_cons rfl (one_cons rfl (one_cons rfl (one_cons (rep_one (hm.ow_rep 3 rfl)) one_nil)))) rfl rfl) ?_)
   rintro _ w hm
   refine tAn rfl (tO (tf0 rfl rfl (fun a hf => e_storeN 4 hf hm rfl sizeOf24 rfl rfl rfl (one_cons rfl (one_cons rfl (one_cons rfl (one_cons (rep_one (hm.ow_rep 1 rfl)) one_nil)))) rfl rfl) ?_))
   rintro _ w hm
   refine tAn rfl (tE (gRt ?_))
   replace hm := hm.thaw ac
   exact grcc 5 4 results18 hm rfl isAgg24 sizeOf24 isAgg24 sizeOf24 ⟨aC, av, rfl, hm.pk [3, 1] rfl rfl⟩
  refine gcf rfl (gSk (gS (gR (gY (yn (hm.blk_at 1 rfl) isAgg24 sizeOf24 rfl) (gCg rfl call54 (spec_l2Copy_ok _ aA.1 aC (hm.ow_rep 2 rfl)) ?_)))))
  rintro aB bT bU w ⟨aL, rfl, hB⟩
  replace hm := hm.give hB; clear hB
  refine gAl hm zeroValue24 rfl fun aJ w hm => gSN hm 0 sizeOf24 (one_cons rfl (one_cons rfl (one_cons rfl (one_cons (rep_one (hm.ow_rep 1 rfl)) one_nil)))) rfl fun w hm => gE (gS (gS (gJ hm (fun aN => [(2, (pV aH)), (3, (pV aF)), (4, (pV aE)), (5, (pV aI)), (6, (pV aJ)), (27, (.bool (aN.2)))]) (fun aN => [blk aH [(nV 0), (nV 0), (.string ⟨((mkS [])).b.toArray⟩), (.slice none 0 0)] 24, blk aF [(nV 0), (nV 0), (.string ⟨((mkS [])).b.toArray⟩), (.slice none 0 0)] 24, blk aE [aG, (nV aN.1)] 124, blk aI [(nV aA.1.op), (nV aA.1.n_), (.string ⟨(aA.1.name).b.toArray⟩), aC] 24, ow [aC] aA.1.kids, blk aJ [(nV aB.op), (nV aB.n_), (.string ⟨(aB.name).b.toArray⟩), aL] 24, ow [aL] aB.kids]) (fun aN => ?_) ?_)))
  ·
   refine gR (gM rfl ?_)
   obtain ⟨aw, hle, hm1, hsub, ax⟩ := hm.take2 (L1 := [blk aE [aG, (nV aU.2.p)] 124]) (L2 := [blk aJ [(nV aB.op), (nV aB.n_), (.string ⟨(aB.name).b.toArray⟩), aL] 24, ow [aL] aB.kids, blk aI [(nV aA.1.op), (nV aA.1.n_), (.string ⟨(aA.1.name).b.toArray⟩), aC] 24, ow [aC] aA.1.kids, blk aF [(nV 0), (nV 0), (.string ⟨((mkS [])).b.toArray⟩), (.slice none 0 0)] 24, blk aH [(nV 0), (nV 0), (.string ⟨((mkS [])).b.toArray⟩), (.slice none 0 0)] 24]) [2] [0, 1, 3, 4, 5, 6] (by decide) rfl rfl
   refine gCg rfl call52 (pspec_l30Rd__pick_ok _ aw (⟨aM.b, aU.2.p⟩ : l30Rd) aE aG (GT.mono hle aO) 2 hm1 ) ?_
   rintro bV bW bX w ⟨rfl, hB⟩
   replace hm := ax _ _ hB; clear hB
   refine gB rfl (gM rfl (gsd 22 rfl (fun ay => ?_) fun ay => ?_))
   ·
    refine gF fo_24_3 rfl (gL hm 1 isAgg22 rfl ?_)
    obtain ⟨bY, bZ, rfl, b8⟩ := ro_slice (hm.ow_rep 2 rfl)
    exact gY (yV st_22 rfl) (gB rfl (gKt rfl (gE (gz hm [6, 5, 0, 3, 4, 1, 2] rfl))))
   exact gO rfl (gO rfl (gO rfl (gO rfl (gKf rfl (gE (gz hm [6, 5, 0, 3, 4, 1, 2] rfl))))))
  repeat clear hm
  intro aN w hm
  refine gJ hm (fun aQ => [(2, (pV aH)), (3, (pV aF)), (5, (pV aI)), (6, (pV aJ))]) (fun aQ => [blk aH [(nV 0), (nV 0), (.string ⟨((mkS [])).b.toArray⟩), (.slice none 0 0)] 24, blk aF [(nV 0), (nV 0), (.string ⟨((mkS [])).b.toArray⟩), (.slice none 0 0)] 24, blk aI [(nV aA.1.op), (nV aA.1.n_), (.string ⟨(aA.1.name).b.toArray⟩), aC] 24, ow [aC] aA.1.kids, blk aJ [(nV aB.op), (nV aB.n_), (.string ⟨(aB.name).b.toArray⟩), aL] 24, ow [aL] aQ]) (fun aQ => ?_) ?_
  ·
   refine gs 27 rfl (fun az => ?_) fun az => ?_
   ·
    refine gct rfl (gJ hm (fun aV => [(2, (pV aH)), (3, (pV aF)), (5, (pV aI)), (6, (pV aJ))]) (fun aV => [blk aH [(nV 0), (nV 0), (.string ⟨((mkS [])).b.toArray⟩), (.slice none 0 0)] 24, blk aF [(nV 0), (nV 0), (.string ⟨((mkS [])).b.toArray⟩), (.slice none 0 0)] 24, blk aI [(nV aA.1.op), (nV aA.1.n_), (.string ⟨(aA.1.name).b.toArray⟩), aC] 24, ow [aC] aA.1.kids, blk aJ [(nV aB.op), (nV aB.n_), (.string ⟨(aB.name).b.toArray⟩), aL] 24, ow [aL] aV]) (fun aV => ?_) ?_)
    ·
     refine gW (.p 0 (.p 2 (.p 3 (.p 7 (.q 1 (.q 4 (.p 5 (.e 6 (.e 8 (.e 9 (.p 10 (.e 11 .fin .nil)) .nil) .nil) (.e 8 (.e 6 (.e 9 (.p 10 (.e 11 .fin .nil)) .nil) .nil) .nil))))))))) [1, 4, 6, 8, 9] [0, 2, 3, 5, 7, 10] hm [0, 1, 3, 4, 5, 6] [blk aH [(nV 0), (nV 0), (.string ⟨((mkS [])).b.toArray⟩), (.slice none 0 0)] 24, blk aF [(nV 0), (nV 0), (.string ⟨((mkS [])).b.toArray⟩), (.slice none 0 0)] 24, blk aI [(nV aA.1.op), (nV aA.1.n_), (.string ⟨(aA.1.name).b.toArray⟩), aC] 24, ow [aC] aA.1.kids, blk aJ [(nV aB.op), (nV aB.n_), (.string ⟨(aB.name).b.toArray⟩), aL] 24, ow [aL] aB.kids] rfl mxo (by kernel_rfl) (fun _ _ _ h => h.2) fun w hm hS => tP rfl (fun w => yF fo_24_3 rfl) (tP rfl (fun w => yM rfl) (tP rfl (fun w => yF fo_24_3 rfl) (tP rfl (fun w => yM rfl) (tQ rfl hS (fun w hm => yL hm 4 isAgg22 rfl) (tQ rfl hS (fun w hm => yL hm 4 isAgg22 rfl) ?_)))))
     obtain ⟨aP, aK, rfl, b9⟩ := ro_slice (hm.ow_rep 6 rfl)
     refine tP rfl (fun w => yV st_22 rfl) (gb fun aX ah => gb fun aD ai => gb fun bc aj => tMo ?_ ?_)
     ·
      obtain ⟨bA, hle, hm1, hsub, bB⟩ := hm.take2 (L1 := [blk aE [aG, (nV aN.1)] 124]) (L2 := [blk aH [(nV 0), (nV 0), (.string ⟨((mkS [])).b.toArray⟩), (.slice none 0 0)] 24, blk aF [(nV 0), (nV 0), (.string ⟨((mkS [])).b.toArray⟩), (.slice none 0 0)] 24, blk aI [(nV aA.1.op), (nV aA.1.n_), (.string ⟨(aA.1.name).b.toArray⟩), aC] 24, ow [aC] aA.1.kids, blk aJ [(nV aB.op), (nV aB.n_), (.string ⟨(aB.name).b.toArray⟩), (.slice aP aB.kids.length aK)] 24, ow [(.slice aP aB.kids.length aK)] aB.kids]) [2] [0, 1, 3, 4, 5, 6] (by decide) rfl rfl
      refine tf rfl rfl (fun a hf => e_call hf rfl call52 rfl (pspec_l30Rd__pick_ok _ bA (⟨aM.b, aN.1⟩ : l30Rd) aE aG (GT.mono hle aO) (aB.kids.length : Int) hm1  _ ah)) ?_
      rintro bd w ⟨rfl, hB⟩
      replace hm := bB _ _ hB; clear hB
      refine tAk hm [1, 2, 3, 4, 5, 6] rfl fun hS => tO (tf rfl rfl (fun a hf => e_build (vs := #[(0, (.string ⟨((mkS [97])).b.toArray⟩))]) (cs := [(.string ⟨((mkS [97])).b.toArray⟩)]) et_74 hf hm rfl rfl (by kernel_rfl) rfl rfl) ?_)
      rintro _ w ⟨aY, rfl, hm⟩
      replace hm := hm.lit (xs := ([(mkS [97])] : List Str)) 0 rfl rfl rfl rfl
      refine tAk hm [2, 3, 4, 5, 6, 7] rfl fun hS => tO ?_
      obtain ⟨bC, hle, hm1, hsub, bD⟩ := hm.take2 (L1 := [blk aE [aG, (nV aX.2.p)] 124]) (L2 := [ow [(sV aY 0 1 1)] ([(mkS [97])] : List Str), blk aH [(nV 0), (nV 0), (.string ⟨((mkS [])).b.toArray⟩), (.slice none 0 0)] 24, blk aF [(nV 0), (nV 0), (.string ⟨((mkS [])).b.toArray⟩), (.slice none 0 0)] 24, blk aI [(nV aA.1.op), (nV aA.1.n_), (.string ⟨(aA.1.name).b.toArray⟩), aC] 24, ow [aC] aA.1.kids, blk aJ [(nV aB.op), (nV aB.n_), (.string ⟨(aB.name).b.toArray⟩), (.slice aP aB.kids.length aK)] 24, ow [(.slice aP aB.kids.length aK)] aB.kids]) [1] [0, 2, 3, 4, 5, 6, 7] (by decide) rfl rfl
      refine tf rfl rfl (fun a hf => e_call hf rfl call55 rfl (spec_l2Leaf_ok _ bC (⟨aM.b, aX.2.p⟩ : l30Rd) aE aG (GT.mono hle aO) ([(mkS [97])] : List Str) (sV aY 0 1 1) (fz_ow (hsub 0 _ rfl)) hm1  _ ai)) ?_
      rintro be w ⟨ae, rfl, hB⟩
      replace hm := bD _ _ hB; clear hB
      refine tAk hm [3, 4, 5, 6, 7, 8] rfl fun hS => ?_
      obtain ⟨bE, aR⟩ := getI_some.1 aj
      obtain ⟨aZ, a8, bf, he⟩ := idx_form' (hm.ow_rep 8 rfl) aR
      obtain ⟨rfl, _, rfl⟩ := sl3 he
      obtain ⟨bg, bh, bi⟩ := rk_Expr_ (hm.ow_rep 8 rfl) aR
      refine tP rfl (fun w => yI st_22 bE (idx_lt aR) rfl) (tO ?_)
      replace hm : Mem w0 ag _ [blk aE [aG, (nV aD.2.p)] 124, ow [(nV aD.1.op), (nV aD.1.n_), (.string ⟨(aD.1.name).b.toArray⟩), ae] (aD.1 : Expr_), ow [(sV aY 0 1 1)] ([(mkS [97])] : List Str), blk aH [(nV 0), (nV 0), (.string ⟨((mkS [])).b.toArray⟩), (.slice none 0 0)] 24, blk aF [(nV 0), (nV 0), (.string ⟨((mkS [])).b.toArray⟩), (.slice none 0 0)] 24, blk aI [(nV aA.1.op), (nV aA.1.n_), (.string ⟨(aA.1.name).b.toArray⟩), aC] 24, ow [aC] aA.1.kids, blk aJ [(nV aB.op), (nV aB.n_), (.string ⟨(aB.name).b.toArray⟩), (sV aZ a8 aB.kids.length aK)] 24, ow [(sV aZ a8 aB.kids.length aK)] aB.kids] := mkx_Expr_ aD.1 hm 1 rfl
      replace hm := (hm.both 8 1 (by decide) rfl rfl).pk (L' := [blk aE [aG, (nV aD.2.p)] 124, ow [(sV aY 0 1 1)] ([(mkS [97])] : List Str), blk aH [(nV 0), (nV 0), (.string ⟨((mkS [])).b.toArray⟩), (.slice none 0 0)] 24, blk aF [(nV 0), (nV 0), (.string ⟨((mkS [])).b.toArray⟩), (.slice none 0 0)] 24, blk aI [(nV aA.1.op), (nV aA.1.n_), (.string ⟨(aA.1.name).b.toArray⟩), aC] 24, ow [aC] aA.1.kids, blk aJ [(nV aB.op), (nV aB.n_), (.string ⟨(aB.name).b.toArray⟩), (sV aZ a8 aB.kids.length aK)] 24, both (ow [(sV aZ a8 aB.kids.length aK)] aB.kids) (ow [(nV aD.1.op), (nV aD.1.n_), (.string ⟨(aD.1.name).b.toArray⟩), ae] (aD.1 : Expr_))]) [0, 2, 3, 4, 5, 6, 7, 8] rfl rfl
      refine tf0 rfl rfl (fun a hf => e_putElem (x1 := (aD.1 : Expr_)) (vs := [(nV aD.1.op), (nV aD.1.n_), (.string ⟨(aD.1.name).b.toArray⟩), ae]) 7 hf hm rfl aR rfl sizeOf24 rfl rfl rfl rfl) ?_
      rintro _ w hm
      have bj := List.getElem?_set_self (a := (aD.1 : Expr_)) (idx_lt aR)
      exact tAn rfl (tE (gz hm [2, 3, 4, 5, 6, 7] rfl))
     refine tO (tf rfl rfl (fun a hf => e_build (vs := #[(0, (.string ⟨((mkS [97])).b.toArray⟩))]) (cs := [(.string ⟨((mkS [97])).b.toArray⟩)]) et_74 hf hm rfl rfl (by kernel_rfl) rfl rfl) ?_)
     rintro _ w ⟨aS, rfl, hm⟩
     replace hm := hm.lit (xs := ([(mkS [97])] : List Str)) 0 rfl rfl rfl rfl
     refine tAk hm [1, 2, 4, 5, 6, 7] rfl fun hS => tO ?_
     obtain ⟨bF, hle, hm1, hsub, bG⟩ := hm.take2 (L1 := [blk aE [aG, (nV aN.1)] 124]) (L2 := [ow [(sV aS 0 1 1)] ([(mkS [97])] : List Str), blk aH [(nV 0), (nV 0), (.string ⟨((mkS [])).b.toArray⟩), (.slice none 0 0)] 24, blk aF [(nV 0), (nV 0), (.string ⟨((mkS [])).b.toArray⟩), (.slice none 0 0)] 24, blk aI [(nV aA.1.op), (nV aA.1.n_), (.string ⟨(aA.1.name).b.toArray⟩), aC] 24, ow [aC] aA.1.kids, blk aJ [(nV aB.op), (nV aB.n_), (.string ⟨(aB.name).b.toArray⟩), (.slice aP aB.kids.length aK)] 24, ow [(.slice aP aB.kids.length aK)] aB.kids]) [3] [0, 1, 2, 4, 5, 6, 7] (by decide) rfl rfl
     refine tf rfl rfl (fun a hf => e_call hf rfl call52 rfl (pspec_l30Rd__pick_ok _ bF (⟨aM.b, aN.1⟩ : l30Rd) aE aG (GT.mono hle aO) (aB.kids.length : Int) hm1  _ ah)) ?_
     rintro bk w ⟨rfl, hB⟩
     replace hm := bG _ _ hB; clear hB
     refine tAk hm [2, 3, 4, 5, 6, 7] rfl fun hS => tO ?_
     obtain ⟨bH, hle, hm1, hsub, bJ⟩ := hm.take2 (L1 := [blk aE [aG, (nV aX.2.p)] 124]) (L2 := [ow [(sV aS 0 1 1)] ([(mkS [97])] : List Str), blk aH [(nV 0), (nV 0), (.string ⟨((mkS [])).b.toArray⟩), (.slice none 0 0)] 24, blk aF [(nV 0), (nV 0), (.string ⟨((mkS [])).b.toArray⟩), (.slice none 0 0)] 24, blk aI [(nV aA.1.op), (nV aA.1.n_), (.string ⟨(aA.1.name).b.toArray⟩), aC] 24, ow [aC] aA.1.kids, blk aJ [(nV aB.op), (nV aB.n_), (.string ⟨(aB.name).b.toArray⟩), (.slice aP aB.kids.length aK)] 24, ow [(.slice aP aB.kids.length aK)] aB.kids]) [0] [1, 2, 3, 4, 5, 6, 7] (by decide) rfl rfl
     refine tf rfl rfl (fun a hf => e_call hf rfl call55 rfl (spec_l2Leaf_ok _ bH (⟨aM.b, aX.2.p⟩ : l30Rd) aE aG (GT.mono hle aO) ([(mkS [97])] : List Str) (sV aS 0 1 1) (fz_ow (hsub 0 _ rfl)) hm1  _ ai)) ?_
     rintro bl w ⟨af, rfl, hB⟩
     replace hm := bJ _ _ hB; clear hB
     refine tAk hm [3, 4, 5, 6, 7, 8] rfl fun hS => ?_
     obtain ⟨bK, aT⟩ := getI_some.1 aj
     obtain ⟨aa, ab, bm, he⟩ := idx_form' (hm.ow_rep 8 rfl) aT
     obtain ⟨rfl, _, rfl⟩ := sl3 he
     obtain ⟨bo, bp, bq⟩ := rk_Expr_ (hm.ow_rep 8 rfl) aT
     refine tP rfl (fun w => yI st_22 bK (idx_lt aT) rfl) (tO ?_)
     replace hm : Mem w0 ag _ [blk aE [aG, (nV aD.2.p)] 124, ow [(nV aD.1.op), (nV aD.1.n_), (.string ⟨(aD.1.name).b.toArray⟩), af] (aD.1 : Expr_), ow [(sV aS 0 1 1)] ([(mkS [97])] : List Str), blk aH [(nV 0), (nV 0), (.string ⟨((mkS [])).b.toArray⟩), (.slice none 0 0)] 24, blk aF [(nV 0), (nV 0), (.string ⟨((mkS [])).b.toArray⟩), (.slice none 0 0)] 24, blk aI [(nV aA.1.op), (nV aA.1.n_), (.string ⟨(aA.1.name).b.toArray⟩), aC] 24, ow [aC] aA.1.kids, blk aJ [(nV aB.op), (nV aB.n_), (.string ⟨(aB.name).b.toArray⟩), (sV aa ab aB.kids.length aK)] 24, ow [(sV aa ab aB.kids.length aK)] aB.kids] := mkx_Expr_ aD.1 hm 1 rfl
     replace hm := (hm.both 8 1 (by decide) rfl rfl).pk (L' := [blk aE [aG, (nV aD.2.p)] 124, ow [(sV aS 0 1 1)] ([(mkS [97])] : List Str), blk aH [(nV 0), (nV 0), (.string ⟨((mkS [])).b.toArray⟩), (.slice none 0 0)] 24, blk aF [(nV 0), (nV 0), (.string ⟨((mkS [])).b.toArray⟩), (.slice none 0 0)] 24, blk aI [(nV aA.1.op), (nV aA.1.n_), (.string ⟨(aA.1.name).b.toArray⟩), aC] 24, ow [aC] aA.1.kids, blk aJ [(nV aB.op), (nV aB.n_), (.string ⟨(aB.name).b.toArray⟩), (sV aa ab aB.kids.length aK)] 24, both (ow [(sV aa ab aB.kids.length aK)] aB.kids) (ow [(nV aD.1.op), (nV aD.1.n_), (.string ⟨(aD.1.name).b.toArray⟩), af] (aD.1 : Expr_))]) [0, 2, 3, 4, 5, 6, 7, 8] rfl rfl
     refine tf0 rfl rfl (fun a hf => e_putElem (x1 := (aD.1 : Expr_)) (vs := [(nV aD.1.op), (nV aD.1.n_), (.string ⟨(aD.1.name).b.toArray⟩), af]) 7 hf hm rfl aT rfl sizeOf24 rfl rfl rfl rfl) ?_
     rintro _ w hm
     have br := List.getElem?_set_self (a := (aD.1 : Expr_)) (idx_lt aT)
     exact tAn rfl (tE (gz hm [2, 3, 4, 5, 6, 7] rfl))
    repeat clear hm
    intro aV w hm
    exact gz hm [0, 1, 2, 3, 4, 5] rfl
   exact gcf rfl (gSk (gz hm [0, 1, 3, 4, 5, 6] rfl))
  repeat clear hm
  intro aQ w hm
  refine gS (gW (.q 0 (.q 1 (.e 2 (.e 3 .fin .nil) .nil))) [0, 1, 2] [] hm [1, 2, 3, 4, 5] [blk aF [(nV 0), (nV 0), (.string ⟨((mkS [])).b.toArray⟩), (.slice none 0 0)] 24, blk aI [(nV aA.1.op), (nV aA.1.n_), (.string ⟨(aA.1.name).b.toArray⟩), aC] 24, ow [aC] aA.1.kids, blk aJ [(nV aB.op), (nV aB.n_), (.string ⟨(aB.name).b.toArray⟩), aL] 24, ow [aL] aQ] rfl mxo (by kernel_rfl) (fun _ _ _ h => h.2) fun w hm hS => tQ rfl hS (fun w hm => yn (hm.blk_at 1 rfl) isAgg24 sizeOf24 rfl) (tQ rfl hS (fun w hm => yn (hm.blk_at 3 rfl) isAgg24 sizeOf24 rfl) (tO (tf0 rfl rfl (fun a hf => e_storeN 0 hf hm rfl sizeOf24 rfl rfl rfl (one_cons rfl (one_cons rfl (one_cons rfl (one_cons (rep_one (hm.ow_rep 3 rfl)) one_nil)))) rfl rfl) ?_))))
  rintro _ w hm
  refine tAk hm [1, 2, 3, 4, 5] rfl fun hS => tO (tf0 rfl rfl (fun a hf => e_storeN 1 hf hm rfl sizeOf24 rfl rfl rfl (one_cons rfl (one_cons rfl (one_cons rfl (one_cons (rep_one (hm.ow_rep 5 rfl)) one_nil)))) rfl rfl) ?_)
  rintro _ w hm
  refine tAn rfl (tE (gRt ?_))
  replace hm := hm.thaw ac
  exact grcc 0 1 results18 hm rfl isAgg24 sizeOf24 isAgg24 sizeOf24 ⟨aC, aL, rfl, hm.pk [3, 5] rfl rfl⟩
theorem slices_EqualFunc_S_impl_Expr_S_impl_Expr_impl_Expr_impl_Expr_ok (w0 : World) (s1 : List Expr_) (v1 : Value) (h1 : GT.rep (hp w0) [v1] s1) (s2 : List Expr_) (v2 : Value) (h2 : GT.rep (hp w0) [v2] s2) (eq : Expr_ → Expr_ → Option Bool) (fv1 : Value) (hfn1 : ∀ (w : World) (y0 : Expr_) (z1 : Value) (_ : GT.rep (hp w) [z1] y0.kids) (y1 : Expr_) (z2 : Value) (_ : GT.rep (hp w) [z2] y1.kids) (r : Bool), Below w0.heap.size w0 w → eq y0 y1 = some r → FnOk Tryz.prog fv1 [(.agg #[(nV y0.op), (nV y0.n_), (.string ⟨(y0.name).b.toArray⟩), z1]), (.agg #[(nV y1.op), (nV y1.n_), (.string ⟨(y1.name).b.toArray⟩), z2])] w (fun v w' => v = (.bool (r)) ∧ Below w.heap.size w w')) :
    ConM Tryz.prog 56 [v1, v2, fv1] w0 (slices_EqualFunc_S_impl_Expr_S_impl_Expr_impl_Expr_impl_Expr s1 s2 eq) fun r v w' => v = (.bool (r)) ∧ Below w0.heap.size w0 w' := by
  unfold slices_EqualFunc_S_impl_Expr_S_impl_Expr_impl_Expr_impl_Expr
  refine gcon func56 rfl fun r => ?_
  have hm := Mem.start w0
  refine gS (gR (gA rfl (gE (gS (gS (gR (gM rfl ?_)))))))
  obtain ⟨aG, aH, rfl, aY⟩ := ro_slice h1
  refine gY (yV st_22 rfl) (gM rfl ?_)
  obtain ⟨aI, aJ, rfl, aZ⟩ := ro_slice h2
  refine gY (yV st_22 rfl) (gB rfl (gE (gsd 14 rfl (fun aK => ?_) fun aK => ?_)))
  ·
   exact gct rfl (gS (gR (gA rfl (gE (gRt (gr1 results56 rfl ⟨rfl, hm.below⟩))))))
  refine gcf rfl (gSk (gS (gS (gR (gM rfl (gY (yV st_22 rfl) (gM rfl (gE (gBk (gNf hm (fun aA aD => [(1, (.slice aI s2.length aJ)), (2, fv1), (15, (.slice aG s1.length aH)), (16, (nV ((s1.length : Int)))), (17, (nV aA))]) (fun aA aD => []) [] rfl ?_ ?_))))))))))
  ·
   repeat clear hm
   intro a8 aL aA aD w hm aa ab ac aM
   refine gS (gR (gB rfl (gE (gS (go _ 18 rfl (decide_eq_true (by omega)) (gct rfl (gSk (gS (gBk (gS (gR (gM rfl (gg fun aN aO aB => ?_)))))))))))))
   obtain ⟨ae, af, ag, he⟩ := idx_form' h1 aB
   obtain ⟨rfl, _, rfl⟩ := sl3 he
   obtain ⟨aP, aQ, aE⟩ := rk_Expr_ h1 aB
   refine gI st_22 aO (idx_lt aB) rfl (gY (yn (aQ.mono hm.lez) isAgg24 sizeOf24 rfl) (gAl hm zeroValue24 rfl fun ah w hm => gA rfl (gSN hm 0 sizeOf24 (one_cons rfl (one_cons rfl (one_cons rfl (one_cons (rep_one aE) one_nil)))) rfl fun w hm => gE (gS (gR (gM rfl (gM rfl (gg fun aR aS aC => ?_))))))))
   obtain ⟨ai, aj, ak, he⟩ := idx_form' h2 aC
   obtain ⟨rfl, _, rfl⟩ := sl3 he
   obtain ⟨aT, aU, aF⟩ := rk_Expr_ h2 aC
   refine gI st_22 aS (idx_lt aC) rfl (gY (yn (aU.mono hm.lez) isAgg24 sizeOf24 rfl) (gAl hm zeroValue24 rfl fun al w hm => gSN hm 0 sizeOf24 (one_cons rfl (one_cons rfl (one_cons rfl (one_cons (rep_one aF) one_nil)))) rfl fun w hm => gE (gS (gR (gM rfl (gY (yn (hm.blk_at 1 rfl) isAgg24 sizeOf24 rfl) (gY (yn (hm.blk_at 0 rfl) isAgg24 sizeOf24 rfl) (gb fun am aV => gf rfl (fun a hf => e_callv hf rfl rfl rfl (hfn1 _ aN aP (hm.now aE) aR aT (hm.now aF) _ hm.below aV)) ?_))))))))
   rintro an w ⟨rfl, hB⟩
   replace hm := hm.below' hB; clear hB
   refine gN rfl (gE (gsn 30 rfl (fun aX => ?_) fun aX => ?_))
   ·
    exact gct rfl (gS (gR (gA rfl (gE (gRt (gLr aM aL (gr1 results56 rfl ⟨rfl, hm.below⟩)))))))
   exact gcf rfl (gSk (gR (gP (by omega) (by omega) rfl (gM rfl (gE (gze hm [] rfl))))))
  repeat clear hm
  intro ao aq w hm ar au
  exact gS (gR (gB rfl (gE (gS (go _ 18 rfl (decide_eq_false (by omega)) (gcf rfl (gXt (gHh (gS (gR (gA rfl (gE (gRt (gr1 results56 rfl ⟨rfl, hm.below⟩))))))))))))))
theorem impl_SameExpr_all  : ∀ (a_ : Expr_) (b_ : Expr_) (r : Bool), impl_SameExpr a_ b_ = some r → ∀ (w0 : World) (v1 : Value) (h1 : GT.rep (hp w0) [v1] a_.kids) (v2 : Value) (h2 : GT.rep (hp w0) [v2] b_.kids), Con Tryz.prog 19 [(.agg #[(nV a_.op), (nV a_.n_), (.string ⟨(a_.name).b.toArray⟩), v1]), (.agg #[(nV b_.op), (nV b_.n_), (.string ⟨(b_.name).b.toArray⟩), v2])] w0 (fun v w' => v = (.bool (r)) ∧ Below w0.heap.size w0 w') := by
  refine impl_SameExpr.partial_correctness  (motive := fun a_ b_ r => ∀ (w0 : World) (v1 : Value) (h1 : GT.rep (hp w0) [v1] a_.kids) (v2 : Value) (h2 : GT.rep (hp w0) [v2] b_.kids), Con Tryz.prog 19 [(.agg #[(nV a_.op), (nV a_.n_), (.string ⟨(a_.name).b.toArray⟩), v1]), (.agg #[(nV b_.op), (nV b_.n_), (.string ⟨(b_.name).b.toArray⟩), v2])] w0 (fun v w' => v = (.bool (r)) ∧ Below w0.heap.size w0 w')) ?_
  intro rec_ ih_ a_ b_ r hq w0 v1 h1 v2 h2
  have impl_SameExpr_rec : ∀ (w0 : World) (a_ : Expr_) (v1 : Value) (h1 : GT.rep (hp w0) [v1] a_.kids) (b_ : Expr_) (v2 : Value) (h2 : GT.rep (hp w0) [v2] b_.kids) (r : Bool) (hq : rec_ a_ b_ = some r), Con Tryz.prog 19 [(.agg #[(nV a_.op), (nV a_.n_), (.string ⟨(a_.name).b.toArray⟩), v1]), (.agg #[(nV b_.op), (nV b_.n_), (.string ⟨(b_.name).b.toArray⟩), v2])] w0 (fun v w' => v = (.bool (r)) ∧ Below w0.heap.size w0 w') := fun w0 a_ v1 h1 b_ v2 h2 r hq => ih_ a_ b_ r hq w0 v1 h1 v2 h2
  refine gconr (ρ := Bool) (R := fun r v w' => v = (.bool (r)) ∧ Below w0.heap.size w0 w') func19 rfl hq ?_
  have hm := Mem.start w0
  refine gS (gR (gBx hm rfl fun aI w hm => gBx hm rfl fun aJ w hm => gA rfl (gE (gS (gJ hm (fun aA => [(4, (.bool (aA)))]) (fun aA => []) (fun aA => ?_) ?_)))))
  ·
   refine gR (gF fo_24_0 rfl (gL hm 1 isAgg3 rfl (gF fo_24_0 rfl (gL hm 0 isAgg3 rfl (gB rfl (gM rfl (gsd 10 rfl (fun aB => ?_) fun aB => ?_)))))))
   ·
    refine gF fo_24_1 rfl (gL hm 1 isAgg3 rfl (gF fo_24_1 rfl (gL hm 0 isAgg3 rfl (gB rfl (gKt rfl (gM rfl (gsd 17 rfl (fun aC => ?_) fun aC => ?_)))))))
    ·
     refine gF fo_24_2 rfl (gL hm 1 isAgg9 rfl (gF fo_24_2 rfl (gL hm 0 isAgg9 rfl (gY (yG rfl (y_eqls (p := a_.name) (q := b_.name) rfl rfl rfl)) (gKt rfl (gM rfl (gsd 24 rfl (fun aD => ?_) fun aD => ?_)))))))
     ·
      exact gF fo_24_3 rfl (gL hm 1 isAgg22 rfl (gF fo_24_3 rfl (gL hm 0 isAgg22 rfl (gC hm rfl call56 (slices_EqualFunc_S_impl_Expr_S_impl_Expr_impl_Expr_impl_Expr_ok _ a_.kids v1 (hm.now h1) b_.kids v2 (hm.now h2) (fun y0 y1 => rec_ y0 y1) (.func (.func 19) #[] #[]) (fun w y0 aE aF y1 aG aH r hB hq => ⟨19, [], rfl, call19, impl_SameExpr_rec w y0 aE aF y1 aG aH  r hq⟩)) fun aK aL w hm => gKt rfl (gA rfl (gE (gz hm [] rfl)))))))
     exact gO rfl (gO rfl (gO rfl (gO rfl (gO rfl (gKf rfl (gA rfl (gE (gz hm [] rfl))))))))
    exact gO rfl (gO rfl (gO rfl (gO rfl (gO rfl (gKf rfl (gM rfl (gO rfl (gO rfl (gO rfl (gO rfl (gO rfl (gKf rfl (gA rfl (gE (gz hm [] rfl)))))))))))))))
   exact gO rfl (gO rfl (gO rfl (gO rfl (gO rfl (gKf rfl (gM rfl (gO rfl (gO rfl (gO rfl (gO rfl (gO rfl (gKf rfl (gM rfl (gO rfl (gO rfl (gO rfl (gO rfl (gO rfl (gKf rfl (gA rfl (gE (gz hm [] rfl))))))))))))))))))))))
  repeat clear hm
  intro aA w hm
  exact gRt (gr1 results19 rfl ⟨rfl, hm.below⟩)
theorem impl_SameExpr_ok (w0 : World) (a_ : Expr_) (v1 : Value) (h1 : GT.rep (hp w0) [v1] a_.kids) (b_ : Expr_) (v2 : Value) (h2 : GT.rep (hp w0) [v2] b_.kids) (r : Bool) (hq : impl_SameExpr a_ b_ = some r) : Con Tryz.prog 19 [(.agg #[(nV a_.op), (nV a_.n_), (.string ⟨(a_.name).b.toArray⟩), v1]), (.agg #[(nV b_.op), (nV b_.n_), (.string ⟨(b_.name).b.toArray⟩), v2])] w0 (fun v w' => v = (.bool (r)) ∧ Below w0.heap.size w0 w') := impl_SameExpr_all a_ b_ r hq w0 v1 h1 v2 h2
theorem spec_SameExpr_all  : ∀ (a_ : Expr_) (b_ : Expr_) (r : Bool), spec_SameExpr a_ b_ = some r → ∀ (w0 : World) (v1 : Value) (h1 : GT.rep (hp w0) [v1] a_.kids) (v2 : Value) (h2 : GT.rep (hp w0) [v2] b_.kids), Con Tryz.prog 20 [(.agg #[(nV a_.op), (nV a_.n_), (.string ⟨(a_.name).b.toArray⟩), v1]), (.agg #[(nV b_.op), (nV b_.n_), (.string ⟨(b_.name).b.toArray⟩), v2])] w0 (fun v w' => v = (.bool (r)) ∧ Below w0.heap.size w0 w') := by
  refine spec_SameExpr.partial_correctness  (motive := fun a_ b_ r => ∀ (w0 : World) (v1 : Value) (h1 : GT.rep (hp w0) [v1] a_.kids) (v2 : Value) (h2 : GT.rep (hp w0) [v2] b_.kids), Con Tryz.prog 20 [(.agg #[(nV a_.op), (nV a_.n_), (.string ⟨(a_.name).b.toArray⟩), v1]), (.agg #[(nV b_.op), (nV b_.n_), (.string ⟨(b_.name).b.toArray⟩), v2])] w0 (fun v w' => v = (.bool (r)) ∧ Below w0.heap.size w0 w')) ?_
  intro rec_ ih_ a_ b_ r hq w0 v1 h1 v2 h2
  have spec_SameExpr_rec : ∀ (w0 : World) (a_ : Expr_) (v1 : Value) (h1 : GT.rep (hp w0) [v1] a_.kids) (b_ : Expr_) (v2 : Value) (h2 : GT.rep (hp w0) [v2] b_.kids) (r : Bool) (hq : rec_ a_ b_ = some r), Con Tryz.prog 20 [(.agg #[(nV a_.op), (nV a_.n_), (.string ⟨(a_.name).b.toArray⟩), v1]), (.agg #[(nV b_.op), (nV b_.n_), (.string ⟨(b_.name).b.toArray⟩), v2])] w0 (fun v w' => v = (.bool (r)) ∧ Below w0.heap.size w0 w') := fun w0 a_ v1 h1 b_ v2 h2 r hq => ih_ a_ b_ r hq w0 v1 h1 v2 h2
  refine gconr (ρ := Bool) (R := fun r v w' => v = (.bool (r)) ∧ Below w0.heap.size w0 w') func20 rfl hq ?_
  have hm := Mem.start w0
  refine gS (gR (gBx hm rfl fun aA w hm => gBx hm rfl fun aB w hm => gA rfl (gE (gS (gS (gJ hm (fun aC => [(2, (pV aA)), (3, (pV aB)), (33, (.bool (aC)))]) (fun aC => [blk aA [(nV a_.op), (nV a_.n_), (.string ⟨(a_.name).b.toArray⟩), v1] 24, blk aB [(nV b_.op), (nV b_.n_), (.string ⟨(b_.name).b.toArray⟩), v2] 24]) (fun aC => ?_) ?_))))))
  ·
   refine gR (gF fo_24_0 rfl (gL hm 1 isAgg3 rfl (gF fo_24_0 rfl (gL hm 0 isAgg3 rfl (gB rfl (gM rfl (gsd 11 rfl (fun aH => ?_) fun aH => ?_)))))))
   ·
    exact gO rfl (gO rfl (gO rfl (gO rfl (gO rfl (gKt rfl (gM rfl (gO rfl (gO rfl (gO rfl (gO rfl (gO rfl (gKt rfl (gM rfl (gO rfl (gO rfl (gO rfl (gO rfl (gO rfl (gO rfl (gO rfl (gKt rfl (gE (gz hm [1, 0] rfl)))))))))))))))))))))))
   refine gF fo_24_1 rfl (gL hm 1 isAgg3 rfl (gF fo_24_1 rfl (gL hm 0 isAgg3 rfl (gB rfl (gKf rfl (gM rfl (gsd 18 rfl (fun aI => ?_) fun aI => ?_)))))))
   ·
    exact gO rfl (gO rfl (gO rfl (gO rfl (gO rfl (gKt rfl (gM rfl (gO rfl (gO rfl (gO rfl (gO rfl (gO rfl (gO rfl (gO rfl (gKt rfl (gE (gz hm [1, 0] rfl))))))))))))))))
   refine gF fo_24_2 rfl (gL hm 1 isAgg9 rfl (gF fo_24_2 rfl (gL hm 0 isAgg9 rfl (gY (yG rfl (y_neqs (p := a_.name) (q := b_.name) rfl rfl rfl)) (gKf rfl (gM rfl (gsd 25 rfl (fun aJ => ?_) fun aJ => ?_)))))))
   ·
    exact gO rfl (gO rfl (gO rfl (gO rfl (gO rfl (gO rfl (gO rfl (gKt rfl (gE (gz hm [1, 0] rfl)))))))))
   refine gF fo_24_3 rfl (gL hm 1 isAgg22 rfl ?_)
   obtain ⟨ab, ac, rfl, ae⟩ := ro_slice h1
   refine gY (yV st_22 rfl) (gF fo_24_3 rfl (gL hm 0 isAgg22 rfl ?_))
   obtain ⟨af, ag, rfl, ah⟩ := ro_slice h2
   exact gY (yV st_22 rfl) (gB rfl (gKf rfl (gE (gz hm [1, 0] rfl))))
  repeat clear hm
  intro aC w hm
  refine gs 33 rfl (fun aK => ?_) fun aK => ?_
  ·
   exact gct rfl (gS (gR (gA rfl (gE (gRt (gr1 results20 rfl ⟨rfl, hm.below⟩))))))
  refine gcf rfl (gSk (gS (gS (gR (gA rfl (gE (gBk (gNf hm (fun aD aG => [(2, (pV aA)), (3, (pV aB)), (5, (nV aD))]) (fun aD aG => [blk aA [(nV a_.op), (nV a_.n_), (.string ⟨(a_.name).b.toArray⟩), v1] 24, blk aB [(nV b_.op), (nV b_.n_), (.string ⟨(b_.name).b.toArray⟩), v2] 24]) [0, 1] rfl ?_ ?_))))))))
  ·
   repeat clear hm
   intro ai aL aD aG w hm aj ak al aM
   refine gS (gS (gR (gM rfl (gF fo_24_3 rfl (gL hm 0 isAgg22 rfl ?_)))))
   obtain ⟨aN, aO, rfl, am⟩ := ro_slice h1
   refine gY (yV st_22 rfl) (gB rfl (gE (go _ 38 rfl (decide_eq_true (by omega)) (gct rfl (gSk (gS (gBk (gS (gW (.p 0 (.p 2 (.p 5 (.p 7 (.q 1 (.p 3 (.q 4 (.e 6 (.p 8 (.e 9 (.e 10 (.p 11 .fin) .nil) .nil)) .nil)))))))) [6, 9] [0, 2, 3, 5, 7, 8, 11] hm [0, 1] [blk aA [(nV a_.op), (nV a_.n_), (.string ⟨(a_.name).b.toArray⟩), (.slice aN a_.kids.length aO)] 24, blk aB [(nV b_.op), (nV b_.n_), (.string ⟨(b_.name).b.toArray⟩), v2] 24] rfl mxo (by kernel_rfl) (fun _ _ _ h => h.2) fun w hm hS => tP rfl (fun w => yF fo_24_3 rfl) (tP rfl (fun w => yM rfl) (tP rfl (fun w => yF fo_24_3 rfl) (tP rfl (fun w => yM rfl) (tQ rfl hS (fun w hm => yL hm 0 isAgg22 rfl) (gg fun aP aQ aE => ?_))))))))))))))
   obtain ⟨an, ao, aq, he⟩ := idx_form' h1 aE
   obtain ⟨rfl, _, rfl⟩ := sl3 he
   obtain ⟨aR, aS, aT⟩ := rk_Expr_ h1 aE
   refine tP rfl (fun w => yI st_22 aQ (idx_lt aE) rfl) (tQ rfl hS (fun w hm => yn (aS.mono hm.lez) isAgg24 sizeOf24 rfl) (tO (tY rfl (yL hm 1 isAgg22 rfl) (tAs hS (gg fun aU aV aF => ?_)))))
   obtain ⟨ar, au, av, he⟩ := idx_form' h2 aF
   subst he
   obtain ⟨aX, aY, aZ⟩ := rk_Expr_ h2 aF
   refine tP rfl (fun w => yI st_22 aV (idx_lt aF) rfl) (tO (tY rfl (yn (aY.mono hm.lez) isAgg24 sizeOf24 rfl) (tAs hS (tO (gb fun aw a8 => tf rfl rfl (fun a hf => e_call hf rfl call20 rfl (spec_SameExpr_rec _ aP aR (hm.now aT) aU aX (hm.now aZ) _ a8)) ?_)))))
   rintro ax w ⟨rfl, hB⟩
   replace hm := hm.below' hB; clear hB
   refine tAn rfl (tP rfl (fun w => yN rfl) (tE (gsn 52 rfl (fun aa => ?_) fun aa => ?_)))
   ·
    exact gct rfl (gS (gR (gA rfl (gE (gRt (gLr aM aL (gr1 results20 rfl ⟨rfl, hm.below⟩)))))))
   exact gcf rfl (gSk (gR (gM rfl (gP (by omega) (by omega) rfl (gA rfl (gE (gze hm [0, 1] rfl)))))))
  repeat clear hm
  intro ay az w hm bA bB
  refine gS (gS (gR (gM rfl (gF fo_24_3 rfl (gL hm 0 isAgg22 rfl ?_)))))
  obtain ⟨bC, bD, rfl, bE⟩ := ro_slice h1
  exact gY (yV st_22 rfl) (gB rfl (gE (go _ 38 rfl (decide_eq_false (by omega)) (gcf rfl (gXt (gHh (gS (gR (gA rfl (gE (gRt (gr1 results20 rfl ⟨rfl, hm.below⟩))))))))))))
theorem spec_SameExpr_ok (w0 : World) (a_ : Expr_) (v1 : Value) (h1 : GT.rep (hp w0) [v1] a_.kids) (b_ : Expr_) (v2 : Value) (h2 : GT.rep (hp w0) [v2] b_.kids) (r : Bool) (hq : spec_SameExpr a_ b_ = some r) : Con Tryz.prog 20 [(.agg #[(nV a_.op), (nV a_.n_), (.string ⟨(a_.name).b.toArray⟩), v1]), (.agg #[(nV b_.op), (nV b_.n_), (.string ⟨(b_.name).b.toArray⟩), v2])] w0 (fun v w' => v = (.bool (r)) ∧ Below w0.heap.size w0 w') := spec_SameExpr_all a_ b_ r hq w0 v1 h1 v2 h2
theorem impl_within_ok (w0 : World) (n_ : Int) (low : Int) (high : Int) :
    ConM Tryz.prog 89 [(nV n_), (nV low), (nV high)] w0 (impl_within n_ low high) fun r v w' => v = (.bool (r)) ∧ Below w0.heap.size w0 w' := by
  unfold impl_within
  refine gcon func89 rfl fun r => ?_
  have hm := Mem.start w0
  refine gS (gR (gA rfl (gE (gS (gJ hm (fun aA => [(6, (.bool (aA)))]) (fun aA => []) (fun aA => ?_) ?_)))))
  ·
   refine gR (gM rfl (gM rfl (gB rfl (gM rfl (gsd 10 rfl (fun aB => ?_) fun aB => ?_)))))
   ·
    exact gM rfl (gM rfl (gB rfl (gKt rfl (gA rfl (gE (gz hm [] rfl))))))
   exact gO rfl (gO rfl (gO rfl (gKf rfl (gA rfl (gE (gz hm [] rfl))))))
  repeat clear hm
  intro aA w hm
  exact gRt (gr1 results89 rfl ⟨rfl, hm.below⟩)
theorem impl_isByte_ok (w0 : World) (n_ : Int) :
    ConM Tryz.prog 109 [(nV n_)] w0 (impl_isByte n_) fun r v w' => v = (.bool (r)) ∧ Below w0.heap.size w0 w' := by
  unfold impl_isByte
  refine gcon func109 rfl fun r => ?_
  have hm := Mem.start w0
  exact gS (gR (gA rfl (gE (gS (gR (gM rfl (gC hm rfl call89 (impl_within_ok _ n_ 0 255) fun aA aB w hm => gA rfl (gE (gRt (gr1 results109 rfl ⟨rfl, hm.below⟩))))))))))
theorem strings_IndexFunc_ok (w0 : World) (s_ : Str) (f : Int → Option Bool) (fv1 : Value) (hfn1 : ∀ (w : World) (y0 : Int) (r : Bool), Below w0.heap.size w0 w → f y0 = some r → FnOk Tryz.prog fv1 [(.int .i32 (y0))] w (fun v w' => v = (.bool (r)) ∧ Below w.heap.size w w')) :
    ConM Tryz.prog 141 [(.string ⟨(s_).b.toArray⟩), fv1] w0 (strings_IndexFunc s_ f) fun r v w' => v = (nV r) ∧ Below w0.heap.size w0 w' := idxFunc_con laysGw15 w0 s_ f fv1 hfn1
theorem impl_IsName_1_ok (w0 : World) (r_ : Int) :
    ConM Tryz.prog 142 [(.int .i32 (r_))] w0 (impl_IsName_1 r_) fun r v w' => v = (.bool (r)) ∧ Below w0.heap.size w0 w' := by
  unfold impl_IsName_1
  refine gcon func142 rfl fun r => ?_
  have hm := Mem.start w0
  refine gS (gR (gA rfl (gE (gS (gJ hm (fun aA => [(2, (.bool (aA)))]) (fun aA => []) (fun aA => ?_) ?_)))))
  ·
   refine gR (gM rfl (gB rfl (gM rfl (gsd 5 rfl (fun aB => ?_) fun aB => ?_))))
   ·
    exact gO rfl (gO rfl (gKt rfl (gA rfl (gE (gz hm [] rfl)))))
   exact gM rfl (gB rfl (gKf rfl (gA rfl (gE (gz hm [] rfl)))))
  repeat clear hm
  intro aA w hm
  exact gRt (gr1 results142 rfl ⟨rfl, hm.below⟩)
theorem slices_Index_S_string_string_ok (w0 : World) (s_ : List Str) (v1 : Value) (h1 : GT.rep (hp w0) [v1] s_) (v_ : Str) :
    ConM Tryz.prog 163 [v1, (.string ⟨(v_).b.toArray⟩)] w0 (slices_Index_S_string_string s_ v_) fun r v w' => v = (nV r) ∧ Below w0.heap.size w0 w' := by
  unfold slices_Index_S_string_string
  refine gcon func163 rfl fun r => ?_
  have hm := Mem.start w0
  refine gS (gR (gA rfl (gE (gS (gS (gR (gM rfl ?_)))))))
  obtain ⟨aE, aF, rfl, aK⟩ := ro_slice h1
  refine gY (yV st_74 rfl) (gM rfl (gE (gBk (gNf hm (fun aA aC => [(0, (.slice aE s_.length aF)), (1, (.string ⟨(v_).b.toArray⟩)), (7, (nV ((s_.length : Int)))), (8, (nV aA))]) (fun aA aC => []) [] rfl ?_ ?_))))
  ·
   repeat clear hm
   intro aL aG aA aC w hm aM aN aO aH
   refine gS (gR (gB rfl (gE (gS (go _ 9 rfl (decide_eq_true (by omega)) (gct rfl (gSk (gS (gBk (gS (gR (gM rfl (gA rfl (gE (gS (gR (gM rfl (gM rfl (gM rfl (gg fun aD aI aB => ?_))))))))))))))))))))
   obtain ⟨aP, aQ, aR, he⟩ := idx_form h1 aB
   obtain ⟨rfl, _, rfl⟩ := sl3 he
   refine gI st_74 aI (idx_lt aB) rfl (gY (yl isAgg9 ((flat_cells (cs := [(.string ⟨(aD).b.toArray⟩)]) (hm.now h1) aB rfl).cell (j := 0) rfl) rfl) (gY (yG rfl (y_eqls (p := v_) (q := aD) rfl rfl rfl)) (gE (gsd 16 rfl (fun aJ => ?_) fun aJ => ?_))))
   ·
    exact gct rfl (gS (gR (gM rfl (gA rfl (gE (gRt (gLr aH aG (gr1 results163 rfl ⟨rfl, hm.below⟩))))))))
   exact gcf rfl (gSk (gR (gP (by omega) (by omega) rfl (gM rfl (gE (gze hm [] rfl))))))
  repeat clear hm
  intro aS aT w hm aU aV
  exact gS (gR (gB rfl (gE (gS (go _ 9 rfl (decide_eq_false (by omega)) (gcf rfl (gXt (gHh (gS (gR (gA rfl (gE (gRt (gr1 results163 rfl ⟨rfl, hm.below⟩))))))))))))))
theorem slices_Contains_S_string_string_ok (w0 : World) (s_ : List Str) (v1 : Value) (h1 : GT.rep (hp w0) [v1] s_) (v_ : Str) :
    ConM Tryz.prog 120 [v1, (.string ⟨(v_).b.toArray⟩)] w0 (slices_Contains_S_string_string s_ v_) fun r v w' => v = (.bool (r)) ∧ Below w0.heap.size w0 w' := by
  unfold slices_Contains_S_string_string
  refine gcon func120 rfl fun r => ?_
  have hm := Mem.start w0
  exact gS (gR (gA rfl (gE (gS (gR (gM rfl (gM rfl (gC hm rfl call163 (slices_Index_S_string_string_ok _ s_ v1 (hm.now h1) v_) fun aA aB w hm => gB rfl (gA rfl (gE (gRt (gr1 results120 rfl ⟨rfl, hm.below⟩))))))))))))
theorem impl_IsName_ok (w0 : World) (s_ : Str) (hG1 : GT.rep (hp w0) [.slice (some ⟨1, 0, none⟩) 9 9] glob_impl_keys) :
    ConM Tryz.prog 90 [(.string ⟨(s_).b.toArray⟩)] w0 (impl_IsName s_) fun r v w' => v = (.bool (r)) ∧ Below w0.heap.size w0 w' := by
  unfold impl_IsName
  refine gcon func90 rfl fun r => ?_
  have hm := Mem.start w0
  refine gS (gR (gA rfl (gE (gS (gJ hm (fun aA => [(2, (.bool (aA)))]) (fun aA => []) (fun aA => ?_) ?_)))))
  ·
   refine gR (gM rfl (gY (yG rfl (y_len_str (p := s_) underlying9 rfl rfl)) ?_))
   have aD := (s_).h
   refine gC hm rfl call89 (impl_within_ok _ ((s_).b.length : Int) 1 4) fun aE aF w hm => gM rfl (gs 6 rfl (fun aB => ?_) fun aB => ?_)
   ·
    refine gM rfl (gC hm rfl call141 (strings_IndexFunc_ok _ s_ (fun y0 => impl_IsName_1 y0) (.func (.func 142) #[] #[]) (fun w y0 r hB hq => ⟨142, [], rfl, call142, impl_IsName_1_ok w y0  r hq⟩)) fun aG aH w hm => gB rfl (gKt rfl (gM rfl (gsd 11 rfl (fun aC => ?_) fun aC => ?_))))
    ·
     exact gY (yG rfl (y_slcArr (n := 9) underlying129 rfl rfl sizeOf9)) (gM rfl (gC hm rfl call120 (slices_Contains_S_string_string_ok _ glob_impl_keys (sV 1 0 9 9) (hm.now hG1) s_) fun aI aJ w hm => gN rfl (gKt rfl (gA rfl (gE (gz hm [] rfl))))))
    exact gO rfl (gO rfl (gO rfl (gO rfl (gKf rfl (gA rfl (gE (gz hm [] rfl)))))))
   exact gO rfl (gO rfl (gO rfl (gKf rfl (gM rfl (gO rfl (gO rfl (gO rfl (gO rfl (gKf rfl (gA rfl (gE (gz hm [] rfl))))))))))))
  repeat clear hm
  intro aA w hm
  exact gRt (gr1 results90 rfl ⟨rfl, hm.below⟩)
theorem impl_levelOf_ok (w0 : World) (op : Int) (hG0 : GT.rep (hp w0) [.slice (some ⟨0, 0, none⟩) 1 1] [glob_impl_opSign]) :
    ConM Tryz.prog 110 [(nV op)] w0 (impl_levelOf op) fun r v w' => v = (nV r) ∧ Below w0.heap.size w0 w' := by
  unfold impl_levelOf
  refine gcon func110 rfl fun r => ?_
  have hm := Mem.start w0
  refine gS (gR (gA rfl (gE (gS (gBk (gS (gR ?_)))))))
  obtain ⟨aI, aB, aC⟩ := glob_map hG0 rfl
  refine gY (yl isAgg119 ((CellsAt.mono hm.lez (aB)).cell (j := 0) rfl) rfl) (gM rfl (gY (yG rfl (y_lookA (key := op) (m := (glob_impl_opSign : MapS St_sign_level)) (z := (⟨(mkS []), 0⟩ : St_sign_level)) (v2 := (.agg #[(.string ⟨(((MapS.get glob_impl_opSign op).getD (⟨(mkS []), 0⟩ : St_sign_level)).sign).b.toArray⟩), (nV (((MapS.get glob_impl_opSign op).getD (⟨(mkS []), 0⟩ : St_sign_level)).level))])) underlying3 underlying119 zeroValue120 (hm.now aC) rfl rfl rfl rfl rfl)) (gY (yG rfl (y_field1 underlying120 rfl rfl isAgg3 rfl rfl rfl)) (gB rfl (gA rfl (gE (gsd 3 rfl (fun aD => ?_) fun aD => ?_)))))))
  ·
   refine gct rfl (gS (gR ?_))
   obtain ⟨aJ, aE, aF⟩ := glob_map hG0 rfl
   exact gY (yl isAgg119 ((CellsAt.mono hm.lez (aE)).cell (j := 0) rfl) rfl) (gM rfl (gY (yG rfl (y_lookA (key := op) (m := (glob_impl_opSign : MapS St_sign_level)) (z := (⟨(mkS []), 0⟩ : St_sign_level)) (v2 := (.agg #[(.string ⟨(((MapS.get glob_impl_opSign op).getD (⟨(mkS []), 0⟩ : St_sign_level)).sign).b.toArray⟩), (nV (((MapS.get glob_impl_opSign op).getD (⟨(mkS []), 0⟩ : St_sign_level)).level))])) underlying3 underlying119 zeroValue120 (hm.now aF) rfl rfl rfl rfl rfl)) (gY (yG rfl (y_field1 underlying120 rfl rfl isAgg3 rfl rfl rfl)) (gA rfl (gE (gRt (gr1 results110 rfl ⟨rfl, hm.below⟩)))))))
  refine gcf rfl (gS (gJ hm (fun aA => [(13, (.bool (aA)))]) (fun aA => []) (fun aA => ?_) ?_))
  ·
   refine gR (gM rfl (gB rfl (gM rfl (gsd 16 rfl (fun aG => ?_) fun aG => ?_))))
   ·
    exact gO rfl (gO rfl (gKt rfl (gA rfl (gE (gz hm [] rfl)))))
   exact gM rfl (gB rfl (gKf rfl (gA rfl (gE (gz hm [] rfl)))))
  repeat clear hm
  intro aA w hm
  refine gs 13 rfl (fun aH => ?_) fun aH => ?_
  ·
   exact gct rfl (gS (gR (gA rfl (gE (gRt (gr1 results110 rfl ⟨rfl, hm.below⟩))))))
  exact gcf rfl (gSk (gS (gR (gA rfl (gE (gRt (gr1 results110 rfl ⟨rfl, hm.below⟩)))))))
theorem impl_exprSize_all  : ∀ (e : Expr_) (most : Int) (r : Int × Int × Bool), impl_exprSize e most = some r → ∀ (w0 : World) (v1 : Value) (h1 : GT.rep (hp w0) [v1] e.kids) (hG0 : GT.rep (hp w0) [.slice (some ⟨0, 0, none⟩) 1 1] [glob_impl_opSign]) (hG1 : GT.rep (hp w0) [.slice (some ⟨1, 0, none⟩) 9 9] glob_impl_keys), Con Tryz.prog 57 [(.agg #[(nV e.op), (nV e.n_), (.string ⟨(e.name).b.toArray⟩), v1]), (nV most)] w0 (fun v w' => v = (.tuple #[(nV r.1), (nV r.2.1), (.bool (r.2.2))]) ∧ Below w0.heap.size w0 w') := by
  refine impl_exprSize.partial_correctness  (motive := fun e most r => ∀ (w0 : World) (v1 : Value) (h1 : GT.rep (hp w0) [v1] e.kids) (hG0 : GT.rep (hp w0) [.slice (some ⟨0, 0, none⟩) 1 1] [glob_impl_opSign]) (hG1 : GT.rep (hp w0) [.slice (some ⟨1, 0, none⟩) 9 9] glob_impl_keys), Con Tryz.prog 57 [(.agg #[(nV e.op), (nV e.n_), (.string ⟨(e.name).b.toArray⟩), v1]), (nV most)] w0 (fun v w' => v = (.tuple #[(nV r.1), (nV r.2.1), (.bool (r.2.2))]) ∧ Below w0.heap.size w0 w')) ?_
  intro rec_ ih_ e most r hq w0 v1 h1 hG0 hG1
  have impl_exprSize_rec : ∀ (w0 : World) (e : Expr_) (v1 : Value) (h1 : GT.rep (hp w0) [v1] e.kids) (most : Int) (hG0 : GT.rep (hp w0) [.slice (some ⟨0, 0, none⟩) 1 1] [glob_impl_opSign]) (hG1 : GT.rep (hp w0) [.slice (some ⟨1, 0, none⟩) 9 9] glob_impl_keys) (r : Int × Int × Bool) (hq : rec_ e most = some r), Con Tryz.prog 57 [(.agg #[(nV e.op), (nV e.n_), (.string ⟨(e.name).b.toArray⟩), v1]), (nV most)] w0 (fun v w' => v = (.tuple #[(nV r.1), (nV r.2.1), (.bool (r.2.2))]) ∧ Below w0.heap.size w0 w') := fun w0 e v1 h1 most hG0 hG1 r hq => ih_ e most r hq w0 v1 h1 hG0 hG1
  refine gconr (ρ := Int × Int × Bool) (R := fun r v w' => v = (.tuple #[(nV r.1), (nV r.2.1), (.bool (r.2.2))]) ∧ Below w0.heap.size w0 w') func57 rfl hq ?_
  have hm := Mem.start w0
  refine gS (gR (gBx hm rfl fun aA w hm => gA rfl (gA rfl (gA rfl (gE (gS (gR (gA rfl (gA rfl (gE (gS (gJge (fun aB a w => 0 ≤ aB.1 ∧ aB.1 ≤ 2 ∧ 0 ≤ aB.2 ∧ aB.2 ≤ 3 ∧ St 127 [(1, (nV most)), (2, (pV aA)), (7, (nV aB.1)), (8, (nV aB.2))] w0 (hp w0) [blk aA [(nV e.op), (nV e.n_), (.string ⟨(e.name).b.toArray⟩), v1] 24] a w) (fun bC aH => ?_) ?_))))))))))))
  ·
   refine gBk (gS (gR (gF fo_24_0 rfl (gL hm 0 isAgg3 rfl (gB rfl (gA rfl (gE (gJge (fun aC a w => 0 ≤ aC.1 ∧ aC.1 ≤ 2 ∧ 0 ≤ aC.2 ∧ aC.2 ≤ 3 ∧ St 127 [(1, (nV most)), (2, (pV aA)), (7, (nV aC.1)), (8, (nV aC.2))] w0 (hp w0) [blk aA [(nV e.op), (nV e.n_), (.string ⟨(e.name).b.toArray⟩), v1] 24] a w) (fun bD aI => ?_) ?_))))))))
   ·
    refine gsd 16 rfl (fun aU => ?_) fun aU => ?_
    ·
     refine gct rfl (gS (gJ hm (fun aJ => [(1, (nV most)), (2, (pV aA)), (7, (nV 0)), (8, (nV 0)), (28, (.bool (aJ)))]) (fun aJ => [blk aA [(nV e.op), (nV e.n_), (.string ⟨(e.name).b.toArray⟩), v1] 24]) (fun aJ => ?_) ?_))
     ·
      refine gR (gF fo_24_1 rfl (gL hm 0 isAgg3 rfl (gC hm rfl call109 (impl_isByte_ok _ e.n_) fun bE bF w hm => gN rfl (gM rfl (gsn 24 rfl (fun aV => ?_) fun aV => ?_)))))
      ·
       exact gO rfl (gO rfl (gO rfl (gKt rfl (gE (gz hm [0] rfl)))))
      exact gF fo_24_2 rfl (gL hm 0 isAgg9 rfl (gY (yG rfl (y_neqs (p := e.name) (q := (mkS [])) rfl rfl rfl)) (gKf rfl (gE (gz hm [0] rfl)))))
     repeat clear hm
     intro aJ w hm
     refine gs 28 rfl (fun aX => ?_) fun aX => ?_
     ·
      exact gct rfl (gS (gR (gA rfl (gA rfl (gA rfl (gE (gRt (gEr aI (gEr aH (gr3 results57 rfl ⟨rfl, hm.below⟩))))))))))
     exact gcf rfl (gSk (gZe fun a hf => ⟨(by first | omega | (dsimp only; omega)), (by first | omega | (dsimp only; omega)), (by first | omega | (dsimp only; omega)), (by first | omega | (dsimp only; omega)), hf.sb rfl, hm.pk [0] rfl rfl⟩))
    refine gcf rfl (gS (gR (gF fo_24_0 rfl (gL hm 0 isAgg3 rfl (gB rfl (gA rfl (gE (gJge (fun aD a w => 0 ≤ aD.1 ∧ aD.1 ≤ 2 ∧ 0 ≤ aD.2 ∧ aD.2 ≤ 3 ∧ St 127 [(1, (nV most)), (2, (pV aA)), (7, (nV aD.1)), (8, (nV aD.2))] w0 (hp w0) [blk aA [(nV e.op), (nV e.n_), (.string ⟨(e.name).b.toArray⟩), v1] 24] a w) (fun bG aO => ?_) ?_))))))))
    ·
     refine gsd 29 rfl (fun aY => ?_) fun aY => ?_
     ·
      refine gct rfl (gS (gJ hm (fun aK => [(1, (nV most)), (2, (pV aA)), (7, (nV 0)), (8, (nV 0)), (41, (.bool (aK)))]) (fun aK => [blk aA [(nV e.op), (nV e.n_), (.string ⟨(e.name).b.toArray⟩), v1] 24]) (fun aK => ?_) ?_))
      ·
       refine gR (gF fo_24_2 rfl (gL hm 0 isAgg9 rfl (gC hm rfl call90 (impl_IsName_ok _ e.name (hm.now hG1)) fun bH bJ w hm => gN rfl (gM rfl (gsn 37 rfl (fun aZ => ?_) fun aZ => ?_)))))
       ·
        exact gO rfl (gO rfl (gO rfl (gKt rfl (gE (gz hm [0] rfl)))))
       exact gF fo_24_1 rfl (gL hm 0 isAgg3 rfl (gB rfl (gKf rfl (gE (gz hm [0] rfl)))))
      repeat clear hm
      intro aK w hm
      refine gs 41 rfl (fun a8 => ?_) fun a8 => ?_
      ·
       exact gct rfl (gS (gR (gA rfl (gA rfl (gA rfl (gE (gRt (gEr aO (gEr aI (gEr aH (gr3 results57 rfl ⟨rfl, hm.below⟩)))))))))))
      exact gcf rfl (gSk (gZe fun a hf => ⟨(by first | omega | (dsimp only; omega)), (by first | omega | (dsimp only; omega)), (by first | omega | (dsimp only; omega)), (by first | omega | (dsimp only; omega)), hf.sb rfl, hm.pk [0] rfl rfl⟩))
     refine gcf rfl (gS (gR (gF fo_24_0 rfl (gL hm 0 isAgg3 rfl (gB rfl (gA rfl (gE (gJge (fun aE a w => 0 ≤ aE.1 ∧ aE.1 ≤ 2 ∧ 0 ≤ aE.2 ∧ aE.2 ≤ 3 ∧ St 127 [(1, (nV most)), (2, (pV aA)), (7, (nV aE.1)), (8, (nV aE.2))] w0 (hp w0) [blk aA [(nV e.op), (nV e.n_), (.string ⟨(e.name).b.toArray⟩), v1] 24] a w) (fun bK aQ => ?_) ?_))))))))
     ·
      refine gsd 42 rfl (fun aa => ?_) fun aa => ?_
      ·
       refine gct rfl (gS (gR (gA rfl (gE (gS (gJ hm (fun aL => [(1, (nV most)), (2, (pV aA)), (7, (nV 0)), (8, (nV 3)), (54, (.bool (aL)))]) (fun aL => [blk aA [(nV e.op), (nV e.n_), (.string ⟨(e.name).b.toArray⟩), v1] 24]) (fun aL => ?_) ?_))))))
       ·
        refine gR (gF fo_24_2 rfl (gL hm 0 isAgg9 rfl (gC hm rfl call90 (impl_IsName_ok _ e.name (hm.now hG1)) fun bL bM w hm => gN rfl (gM rfl (gsn 50 rfl (fun ab => ?_) fun ab => ?_)))))
        ·
         exact gO rfl (gO rfl (gO rfl (gKt rfl (gE (gz hm [0] rfl)))))
        exact gF fo_24_1 rfl (gL hm 0 isAgg3 rfl (gB rfl (gKf rfl (gE (gz hm [0] rfl)))))
       repeat clear hm
       intro aL w hm
       refine gs 54 rfl (fun ac => ?_) fun ac => ?_
       ·
        exact gct rfl (gS (gR (gA rfl (gA rfl (gA rfl (gE (gRt (gEr aQ (gEr aO (gEr aI (gEr aH (gr3 results57 rfl ⟨rfl, hm.below⟩))))))))))))
       exact gcf rfl (gSk (gZe fun a hf => ⟨(by first | omega | (dsimp only; omega)), (by first | omega | (dsimp only; omega)), (by first | omega | (dsimp only; omega)), (by first | omega | (dsimp only; omega)), hf.sb rfl, hm.pk [0] rfl rfl⟩))
      refine gcf rfl (gS (gR ?_))
      obtain ⟨bN, ae, af⟩ := glob_map hG0 rfl
      refine gY (yl isAgg119 ((CellsAt.mono hm.lez (ae)).cell (j := 0) rfl) rfl) (gF fo_24_0 rfl (gL hm 0 isAgg3 rfl (gY (yG rfl (y_lookA (key := e.op) (m := (glob_impl_opSign : MapS St_sign_level)) (z := (⟨(mkS []), 0⟩ : St_sign_level)) (v2 := (.agg #[(.string ⟨(((MapS.get glob_impl_opSign e.op).getD (⟨(mkS []), 0⟩ : St_sign_level)).sign).b.toArray⟩), (nV (((MapS.get glob_impl_opSign e.op).getD (⟨(mkS []), 0⟩ : St_sign_level)).level))])) underlying3 underlying119 zeroValue120 (hm.now af) rfl rfl rfl rfl rfl)) (gY (yG rfl (y_field1 underlying120 rfl rfl isAgg3 rfl rfl rfl)) (gB rfl (gA rfl (gE (gJge (fun aF a w => 0 ≤ aF.1 ∧ aF.1 ≤ 2 ∧ 0 ≤ aF.2 ∧ aF.2 ≤ 2 ∧ St 127 [(1, (nV most)), (2, (pV aA)), (7, (nV aF.1)), (8, (nV aF.2))] w0 (hp w0) [blk aA [(nV e.op), (nV e.n_), (.string ⟨(e.name).b.toArray⟩), v1] 24] a w) (fun bO ag => ?_) ?_))))))))
      ·
       refine gsd 55 rfl (fun ah => ?_) fun ah => ?_
       ·
        exact gct rfl (gR (gA rfl (gA rfl (gE (gZe fun a hf => ⟨(by first | omega | (dsimp only; omega)), (by first | omega | (dsimp only; omega)), (by first | omega | (dsimp only; omega)), (by first | omega | (dsimp only; omega)), hf.sb rfl, hm.pk [0] rfl rfl⟩)))))
       refine gcf rfl (gS (gJ hm (fun aM => [(1, (nV most)), (2, (pV aA)), (62, (.bool (aM)))]) (fun aM => [blk aA [(nV e.op), (nV e.n_), (.string ⟨(e.name).b.toArray⟩), v1] 24]) (fun aM => ?_) ?_))
       ·
        refine gR (gF fo_24_0 rfl (gL hm 0 isAgg3 rfl (gB rfl (gM rfl (gsd 66 rfl (fun ai => ?_) fun ai => ?_)))))
        ·
         exact gO rfl (gO rfl (gO rfl (gKt rfl (gA rfl (gE (gz hm [0] rfl))))))
        exact gF fo_24_0 rfl (gL hm 0 isAgg3 rfl (gB rfl (gKf rfl (gA rfl (gE (gz hm [0] rfl))))))
       repeat clear hm
       intro aM w hm
       refine gs 62 rfl (fun aj => ?_) fun aj => ?_
       ·
        exact gct rfl (gR (gA rfl (gA rfl (gE (gZe fun a hf => ⟨(by first | omega | (dsimp only; omega)), (by first | omega | (dsimp only; omega)), (by first | omega | (dsimp only; omega)), (by first | omega | (dsimp only; omega)), hf.sb rfl, hm.pk [0] rfl rfl⟩)))))
       exact gcf rfl (gS (gR (gA rfl (gA rfl (gA rfl (gE (gRt (gEr ag (gEr aQ (gEr aO (gEr aI (gEr aH (gr3 results57 rfl ⟨rfl, hm.below⟩)))))))))))))
      repeat clear hm
      rintro aF a w ⟨bP, bQ, bR, bS, hf, hm⟩
      exact gv hf (gZe fun a hf => ⟨(by first | omega | (dsimp only; omega)), (by first | omega | (dsimp only; omega)), (by first | omega | (dsimp only; omega)), (by first | omega | (dsimp only; omega)), hf.sb rfl, hm.pk [0] rfl rfl⟩)
     repeat clear hm
     rintro aE a w ⟨bT, bU, bV, bW, hf, hm⟩
     exact gv hf (gZe fun a hf => ⟨(by first | omega | (dsimp only; omega)), (by first | omega | (dsimp only; omega)), (by first | omega | (dsimp only; omega)), (by first | omega | (dsimp only; omega)), hf.sb rfl, hm.pk [0] rfl rfl⟩)
    repeat clear hm
    rintro aD a w ⟨bX, bY, bZ, b8, hf, hm⟩
    exact gv hf (gZe fun a hf => ⟨(by first | omega | (dsimp only; omega)), (by first | omega | (dsimp only; omega)), (by first | omega | (dsimp only; omega)), (by first | omega | (dsimp only; omega)), hf.sb rfl, hm.pk [0] rfl rfl⟩)
   repeat clear hm
   rintro aC a w ⟨b9, bc, bd, be, hf, hm⟩
   exact gv hf (gZe fun a hf => ⟨(by first | omega | (dsimp only; omega)), (by first | omega | (dsimp only; omega)), (by first | omega | (dsimp only; omega)), (by first | omega | (dsimp only; omega)), hf.sb rfl, hm.pk [0] rfl rfl⟩)
  repeat clear hm
  rintro aB a w ⟨bf, bg, bh, bi, hf, hm⟩
  refine gv hf (gS (gS (gJ hm (fun aN => [(1, (nV most)), (2, (pV aA)), (97, (.bool (aN)))]) (fun aN => [blk aA [(nV e.op), (nV e.n_), (.string ⟨(e.name).b.toArray⟩), v1] 24]) (fun aN => ?_) ?_)))
  ·
   refine gR (gF fo_24_0 rfl (gL hm 0 isAgg3 rfl (gC hm rfl call110 (impl_levelOf_ok _ e.op (hm.now hG0)) fun bj bk w hm => gB rfl (gM rfl (gsd 75 rfl (fun ak => ?_) fun ak => ?_)))))
   ·
    refine gF fo_24_1 rfl (gL hm 0 isAgg3 rfl (gB rfl (gM rfl (gsd 79 rfl (fun al => ?_) fun al => ?_))))
    ·
     exact gO rfl (gO rfl (gO rfl (gKt rfl (gKt rfl (gM rfl (gO rfl (gO rfl (gO rfl (gO rfl (gO rfl (gO rfl (gO rfl (gKt rfl (gM rfl (gO rfl (gO rfl (gKt rfl (gE (gz hm [0] rfl)))))))))))))))))))
    refine gF fo_24_2 rfl (gL hm 0 isAgg9 rfl (gY (yG rfl (y_neqs (p := e.name) (q := (mkS [])) rfl rfl rfl)) (gKf rfl (gKt rfl (gM rfl (gsd 85 rfl (fun am => ?_) fun am => ?_))))))
    ·
     exact gO rfl (gO rfl (gO rfl (gO rfl (gO rfl (gO rfl (gO rfl (gKt rfl (gM rfl (gO rfl (gO rfl (gKt rfl (gE (gz hm [0] rfl)))))))))))))
    refine gF fo_24_3 rfl (gL hm 0 isAgg22 rfl ?_)
    obtain ⟨bl, bm, rfl, bo⟩ := ro_slice h1
    refine gY (yV st_22 rfl) (gM rfl (gM rfl (gC hm rfl call89 (impl_within_ok _ (e.kids.length : Int) aB.1 aB.2) fun bp bq w hm => gN rfl (gKf rfl (gM rfl (gsn 94 rfl (fun an => ?_) fun an => ?_))))))
    ·
     exact gO rfl (gO rfl (gKt rfl (gE (gz hm [0] rfl))))
    exact gM rfl (gB rfl (gKf rfl (gE (gz hm [0] rfl))))
   refine gO rfl (gO rfl (gO rfl (gO rfl (gO rfl (gO rfl (gO rfl (gO rfl (gKf rfl (gM rfl (gF fo_24_3 rfl (gL hm 0 isAgg22 rfl ?_)))))))))))
   obtain ⟨br, bs, rfl, bt⟩ := ro_slice h1
   refine gY (yV st_22 rfl) (gM rfl (gM rfl (gC hm rfl call89 (impl_within_ok _ (e.kids.length : Int) aB.1 aB.2) fun bu bv w hm => gN rfl (gKf rfl (gM rfl (gsn 94 rfl (fun ao => ?_) fun ao => ?_))))))
   ·
    exact gO rfl (gO rfl (gKt rfl (gE (gz hm [0] rfl))))
   exact gM rfl (gB rfl (gKf rfl (gE (gz hm [0] rfl))))
  repeat clear hm
  intro aN w hm
  refine gs 97 rfl (fun aq => ?_) fun aq => ?_
  ·
   exact gct rfl (gS (gR (gA rfl (gA rfl (gA rfl (gE (gRt (gr3 results57 rfl ⟨rfl, hm.below⟩))))))))
  refine gcf rfl (gSk (gS (gR (gA rfl (gA rfl (gE (gS (gS (gR (gF fo_24_3 rfl (gL hm 0 isAgg22 rfl ?_)))))))))))
  obtain ⟨ar, au, rfl, bw⟩ := ro_slice h1
  refine gY (yV st_22 rfl) (gM rfl (gE (gBk (gNg (fun aR aG a w => 0 ≤ aG.2 ∧ St 127 [(1, (nV most)), (9, (nV aG.1)), (10, (nV aG.2)), (99, (.slice ar e.kids.length au)), (100, (nV ((e.kids.length : Int)))), (101, (nV aR))] w0 (hp w0) [] a w) (fun a hf => ⟨(by first | omega | (dsimp only; omega)), hf.sb rfl, hm.pk [] rfl rfl⟩) ?_ ?_))))
  ·
   repeat clear hm
   rintro bz av aR aG a w ⟨cA, hf, hm⟩ cB cC cD aw
   refine gv hf (gS (gR (gB rfl (gE (gS (go _ 102 rfl (decide_eq_true (by omega)) (gct rfl (gSk (gS (gBk (gS (gR (gg fun ax ay aP => ?_)))))))))))))
   obtain ⟨cE, cF, cG, he⟩ := idx_form' h1 aP
   obtain ⟨rfl, _, rfl⟩ := sl3 he
   obtain ⟨az, bA, aS⟩ := rk_Expr_ h1 aP
   refine gI st_22 ay (idx_lt aP) rfl (gY (yn (bA.mono hm.lez) isAgg24 sizeOf24 rfl) (gAl hm zeroValue24 rfl fun cH w hm => gSN hm 0 sizeOf24 (one_cons rfl (one_cons rfl (one_cons rfl (one_cons (rep_one aS) one_nil)))) rfl fun w hm => gE (gS (gR (gY (yn (hm.blk_at 0 rfl) isAgg24 sizeOf24 rfl) (gM rfl (gB rfl (gC hm rfl call57 (impl_exprSize_rec _ ax az (hm.now aS) (w64 (most - 1)) (hm.now hG0) (hm.now hG1)) fun aT cI w hm => gM rfl (gX rfl (gX rfl (gX rfl (gA rfl (gA rfl (gA rfl (gE (gS (gS (gR (gM rfl (gN rfl (gE (gsn 114 rfl (fun bB => ?_) fun bB => ?_))))))))))))))))))))))
   ·
    exact gct rfl (gS (gR (gA rfl (gA rfl (gA rfl (gE (gRt (gLr aw av (gr3 results57 rfl ⟨rfl, hm.below⟩)))))))))
   refine gcf rfl (gSk (gS (gR (gM rfl (gM rfl (gB rfl (gA rfl (gE (gR (gM rfl (gM rfl (gB rfl (gY (yG rfl (y_max rfl rfl rfl)) ?_)))))))))))))
   have cJ : maxI aG.2 (w64 (aT.2.1 + 1)) = max aG.2 (w64 (aT.2.1 + 1)) := maxI_eq _ _
   exact gA rfl (gE (gR (gP (by omega) (by omega) rfl (gM rfl (gE (gZe fun a hf => ⟨(by first | omega | (dsimp only; omega)), hf.sb rfl, hm.pk [] rfl rfl⟩))))))
  repeat clear hm
  rintro cK cL a w ⟨cN, hf, hm⟩ cO cP
  exact gv hf (gS (gR (gB rfl (gE (gS (go _ 102 rfl (decide_eq_false (by omega)) (gcf rfl (gXt (gHh (gS (gR (gM rfl (gM rfl (gM rfl (gB rfl (gA rfl (gA rfl (gA rfl (gE (gRt (gr3 results57 rfl ⟨rfl, hm.below⟩)))))))))))))))))))))
theorem impl_exprSize_ok (w0 : World) (e : Expr_) (v1 : Value) (h1 : GT.rep (hp w0) [v1] e.kids) (most : Int) (hG0 : GT.rep (hp w0) [.slice (some ⟨0, 0, none⟩) 1 1] [glob_impl_opSign]) (hG1 : GT.rep (hp w0) [.slice (some ⟨1, 0, none⟩) 9 9] glob_impl_keys) (r : Int × Int × Bool) (hq : impl_exprSize e most = some r) : Con Tryz.prog 57 [(.agg #[(nV e.op), (nV e.n_), (.string ⟨(e.name).b.toArray⟩), v1]), (nV most)] w0 (fun v w' => v = (.tuple #[(nV r.1), (nV r.2.1), (.bool (r.2.2))]) ∧ Below w0.heap.size w0 w') := impl_exprSize_all e most r hq w0 v1 h1 hG0 hG1
theorem impl_ExprValid_ok (w0 : World) (e : Expr_) (v1 : Value) (h1 : GT.rep (hp w0) [v1] e.kids) (hG0 : GT.rep (hp w0) [.slice (some ⟨0, 0, none⟩) 1 1] [glob_impl_opSign]) (hG1 : GT.rep (hp w0) [.slice (some ⟨1, 0, none⟩) 9 9] glob_impl_keys) :
    ConM Tryz.prog 21 [(.agg #[(nV e.op), (nV e.n_), (.string ⟨(e.name).b.toArray⟩), v1])] w0 (impl_ExprValid e) fun r v w' => v = (.bool (r)) ∧ Below w0.heap.size w0 w' := by
  unfold impl_ExprValid
  refine gcon func21 rfl fun r => ?_
  have hm := Mem.start w0
  exact gS (gR (gBx hm rfl fun aA w hm => gA rfl (gE (gS (gR (gY (yn (hm.blk_at 0 rfl) isAgg24 sizeOf24 rfl) (gC hm rfl call57 (impl_exprSize_ok _ e v1 (hm.now h1) 6 (hm.now hG0) (hm.now hG1)) fun aB aC w hm => gM rfl (gX rfl (gX rfl (gX rfl (gA rfl (gA rfl (gA rfl (gE (gS (gR (gM rfl (gA rfl (gE (gRt (gr1 results21 rfl ⟨rfl, hm.below⟩)))))))))))))))))))))
theorem spec_l2Kids_ok (w0 : World) (op : Int) :
    ConM Tryz.prog 111 [(nV op)] w0 (spec_l2Kids op) fun r v w' => v = (.tuple #[(nV r.1), (nV r.2)]) ∧ Below w0.heap.size w0 w' := by
  unfold spec_l2Kids
  refine gcon func111 rfl fun r => ?_
  have hm := Mem.start w0
  refine gS (gR (gA rfl (gA rfl (gE (gS (gS (gR (gM rfl (gE (gBk (gS (gS (gR (gB rfl (gA rfl (gE (gJ hm (fun aA => [(4, (nV op)), (5, (.bool (aA)))]) (fun aA => []) (fun aA => ?_) ?_)))))))))))))))))
  ·
   refine gsd 5 rfl (fun aC => ?_) fun aC => ?_
   ·
    exact gct rfl (gSk (gz hm [] rfl))
   exact gcf rfl (gR (gB rfl (gA rfl (gE (gz hm [] rfl)))))
  repeat clear hm
  intro aA w hm
  refine gs 5 rfl (fun aD => ?_) fun aD => ?_
  ·
   exact gct rfl (gS (gR (gA rfl (gA rfl (gE (gRt (gr2 results111 rfl ⟨rfl, hm.below⟩)))))))
  refine gcf rfl (gS (gS (gR (gB rfl (gA rfl (gE (gJ hm (fun aB => [(4, (nV op)), (8, (.bool (aB)))]) (fun aB => []) (fun aB => ?_) ?_)))))))
  ·
   refine gsd 8 rfl (fun aE => ?_) fun aE => ?_
   ·
    exact gct rfl (gSk (gz hm [] rfl))
   exact gcf rfl (gR (gB rfl (gA rfl (gE (gz hm [] rfl)))))
  repeat clear hm
  intro aB w hm
  refine gs 8 rfl (fun aF => ?_) fun aF => ?_
  ·
   exact gct rfl (gS (gR (gA rfl (gA rfl (gE (gRt (gr2 results111 rfl ⟨rfl, hm.below⟩)))))))
  refine gcf rfl (gS (gR (gB rfl (gA rfl (gE (gsd 11 rfl (fun aG => ?_) fun aG => ?_))))))
  ·
   exact gct rfl (gS (gR (gA rfl (gA rfl (gE (gRt (gr2 results111 rfl ⟨rfl, hm.below⟩)))))))
  exact gcf rfl (gSk (gS (gR (gA rfl (gA rfl (gE (gRt (gr2 results111 rfl ⟨rfl, hm.below⟩))))))))
theorem spec_l1In_ok (w0 : World) (n_ : Int) (low : Int) (high : Int) :
    ConM Tryz.prog 112 [(nV n_), (nV low), (nV high)] w0 (spec_l1In n_ low high) fun r v w' => v = (.bool (r)) ∧ Below w0.heap.size w0 w' := by
  unfold spec_l1In
  refine gcon func112 rfl fun r => ?_
  have hm := Mem.start w0
  refine gS (gR (gA rfl (gE (gS (gJ hm (fun aA => [(6, (.bool (aA)))]) (fun aA => []) (fun aA => ?_) ?_)))))
  ·
   refine gR (gM rfl (gM rfl (gB rfl (gM rfl (gsd 10 rfl (fun aB => ?_) fun aB => ?_)))))
   ·
    exact gM rfl (gM rfl (gB rfl (gKt rfl (gA rfl (gE (gz hm [] rfl))))))
   exact gO rfl (gO rfl (gO rfl (gKf rfl (gA rfl (gE (gz hm [] rfl))))))
  repeat clear hm
  intro aA w hm
  exact gRt (gr1 results112 rfl ⟨rfl, hm.below⟩)
theorem spec_l30Find_ok (w0 : World) (s_ : Str) (c_ : UInt8) :
    ConM Tryz.prog 153 [(.string ⟨(s_).b.toArray⟩), (.int .u8 ((c_).toNat : Int))] w0 (spec_l30Find s_ c_) fun r v w' => v = (nV r) ∧ Below w0.heap.size w0 w' := by
  unfold spec_l30Find
  refine gcon func153 rfl fun r => ?_
  have hm := Mem.start w0
  refine gS (gR (gA rfl (gE (gS (gS (gR (gA rfl (gE (gBk (gNf hm (fun aA aB => [(0, (.string ⟨(s_).b.toArray⟩)), (1, (.int .u8 ((c_).toNat : Int))), (5, (nV aA))]) (fun aA aB => []) [] rfl ?_ ?_))))))))))
  ·
   repeat clear hm
   intro aI aC aA aB w hm aJ aK aL aD
   refine gS (gS (gR (gM rfl (gM rfl (gY (yG rfl (y_len_str (p := s_) underlying9 rfl rfl)) ?_)))))
   have aM := (s_).h
   refine gB rfl (gE (go _ 9 rfl (decide_eq_true (by omega)) (gct rfl (gSk (gS (gBk (gS (gR (gM rfl (gM rfl (gg fun aE aF aG => gY (yG rfl (y_idx_str (p := s_) underlying9 rfl rfl rfl aF aG)) (gM rfl (gY (yG rfl (y_eql8 (b := aE) (c := c_) rfl rfl rfl)) (gE (gsd 16 rfl (fun aH => ?_) fun aH => ?_)))))))))))))))
   ·
    exact gct rfl (gS (gR (gM rfl (gA rfl (gE (gRt (gLr aD aC (gr1 results153 rfl ⟨rfl, hm.below⟩))))))))
   exact gcf rfl (gSk (gR (gM rfl (gP (by omega) (by omega) rfl (gA rfl (gE (gze hm [] rfl)))))))
  repeat clear hm
  intro aN aO w hm aP aQ
  refine gS (gS (gR (gM rfl (gM rfl (gY (yG rfl (y_len_str (p := s_) underlying9 rfl rfl)) ?_)))))
  have aR := (s_).h
  exact gB rfl (gE (go _ 9 rfl (decide_eq_false (by omega)) (gcf rfl (gXt (gHh (gS (gR (gA rfl (gE (gRt (gr1 results153 rfl ⟨rfl, hm.below⟩)))))))))))
theorem spec_l1Class_ok (w0 : World) (b_ : UInt8) :
    ConM Tryz.prog 99 [(.int .u8 ((b_).toNat : Int))] w0 (spec_l1Class b_) fun r v w' => v = (nV r) ∧ Below w0.heap.size w0 w' := by
  unfold spec_l1Class
  refine gcon func99 rfl fun r => ?_
  have hm := Mem.start w0
  refine gS (gR (gA rfl (gE (gS (gBk (gS (gJ hm (fun aA => [(0, (.int .u8 ((b_).toNat : Int))), (3, (.bool (aA)))]) (fun aA => []) (fun aA => ?_) ?_)))))))
  ·
   refine gR (gM rfl (gY (yG rfl (y_geq8 (b := b_) (c := (97 : UInt8)) rfl rfl rfl)) (gM rfl (gsd 6 rfl (fun aD => ?_) fun aD => ?_))))
   ·
    exact gM rfl (gY (yG rfl (y_leq8 (b := b_) (c := (122 : UInt8)) rfl rfl rfl)) (gKt rfl (gA rfl (gE (gz hm [] rfl)))))
   exact gO rfl (gO rfl (gKf rfl (gA rfl (gE (gz hm [] rfl)))))
  repeat clear hm
  intro aA w hm
  refine gs 3 rfl (fun aE => ?_) fun aE => ?_
  ·
   exact gct rfl (gS (gR (gA rfl (gE (gRt (gr1 results99 rfl ⟨rfl, hm.below⟩))))))
  refine gcf rfl (gS (gJ hm (fun aB => [(0, (.int .u8 ((b_).toNat : Int))), (10, (.bool (aB)))]) (fun aB => []) (fun aB => ?_) ?_))
  ·
   refine gR (gM rfl (gY (yG rfl (y_geq8 (b := b_) (c := (48 : UInt8)) rfl rfl rfl)) (gM rfl (gsd 13 rfl (fun aF => ?_) fun aF => ?_))))
   ·
    exact gM rfl (gY (yG rfl (y_leq8 (b := b_) (c := (57 : UInt8)) rfl rfl rfl)) (gKt rfl (gA rfl (gE (gz hm [] rfl)))))
   exact gO rfl (gO rfl (gKf rfl (gA rfl (gE (gz hm [] rfl)))))
  repeat clear hm
  intro aB w hm
  refine gs 10 rfl (fun aG => ?_) fun aG => ?_
  ·
   exact gct rfl (gS (gR (gA rfl (gE (gRt (gr1 results99 rfl ⟨rfl, hm.below⟩))))))
  refine gcf rfl (gS (gR (gM rfl (gC hm rfl call153 (spec_l30Find_ok _ (mkS [40, 41, 123, 125, 59, 44, 43, 45, 42, 47, 37, 60, 61, 38, 33, 64]) b_) fun aK aL w hm => gB rfl (gA rfl (gE (gsd 17 rfl (fun aH => ?_) fun aH => ?_)))))))
  ·
   exact gct rfl (gS (gR (gA rfl (gE (gRt (gr1 results99 rfl ⟨rfl, hm.below⟩))))))
  refine gcf rfl (gS (gJ hm (fun aC => [(21, (.bool (aC)))]) (fun aC => []) (fun aC => ?_) ?_))
  ·
   refine gR (gM rfl (gY (yG rfl (y_eql8 (b := b_) (c := (32 : UInt8)) rfl rfl rfl)) (gM rfl (gsd 24 rfl (fun aI => ?_) fun aI => ?_))))
   ·
    exact gO rfl (gO rfl (gKt rfl (gA rfl (gE (gz hm [] rfl)))))
   exact gM rfl (gY (yG rfl (y_eql8 (b := b_) (c := (10 : UInt8)) rfl rfl rfl)) (gKf rfl (gA rfl (gE (gz hm [] rfl)))))
  repeat clear hm
  intro aC w hm
  refine gs 21 rfl (fun aJ => ?_) fun aJ => ?_
  ·
   exact gct rfl (gS (gR (gA rfl (gE (gRt (gr1 results99 rfl ⟨rfl, hm.below⟩))))))
  exact gcf rfl (gSk (gS (gR (gA rfl (gE (gRt (gr1 results99 rfl ⟨rfl, hm.below⟩)))))))
theorem spec_l1All_ok (w0 : World) (s_ : Str) (class_ : Int) :
    ConM Tryz.prog 160 [(.string ⟨(s_).b.toArray⟩), (nV class_)] w0 (spec_l1All s_ class_) fun r v w' => v = (.bool (r)) ∧ Below w0.heap.size w0 w' := by
  unfold spec_l1All
  refine gcon func160 rfl fun r => ?_
  have hm := Mem.start w0
  refine gS (gR (gA rfl (gE (gS (gS (gR (gA rfl (gE (gBk (gNf hm (fun aA aB => [(0, (.string ⟨(s_).b.toArray⟩)), (1, (nV class_)), (5, (nV aA))]) (fun aA aB => []) [] rfl ?_ ?_))))))))))
  ·
   repeat clear hm
   intro aI aC aA aB w hm aJ aK aL aD
   refine gS (gS (gR (gM rfl (gM rfl (gY (yG rfl (y_len_str (p := s_) underlying9 rfl rfl)) ?_)))))
   have aM := (s_).h
   refine gB rfl (gE (go _ 9 rfl (decide_eq_true (by omega)) (gct rfl (gSk (gS (gBk (gS (gR (gM rfl (gM rfl (gg fun aE aF aG => gY (yG rfl (y_idx_str (p := s_) underlying9 rfl rfl rfl aF aG)) (gC hm rfl call99 (spec_l1Class_ok _ aE) fun aN aO w hm => gM rfl (gB rfl (gE (gsd 17 rfl (fun aH => ?_) fun aH => ?_)))))))))))))))
   ·
    exact gct rfl (gS (gR (gA rfl (gE (gRt (gLr aD aC (gr1 results160 rfl ⟨rfl, hm.below⟩)))))))
   exact gcf rfl (gSk (gR (gM rfl (gP (by omega) (by omega) rfl (gA rfl (gE (gze hm [] rfl)))))))
  repeat clear hm
  intro aP aQ w hm aR aS
  refine gS (gS (gR (gM rfl (gM rfl (gY (yG rfl (y_len_str (p := s_) underlying9 rfl rfl)) ?_)))))
  have aT := (s_).h
  exact gB rfl (gE (go _ 9 rfl (decide_eq_false (by omega)) (gcf rfl (gXt (gHh (gS (gR (gM rfl (gY (yG rfl (y_len_str (p := s_) underlying9 rfl rfl)) (gB rfl (gA rfl (gE (gRt (gr1 results160 rfl ⟨rfl, hm.below⟩))))))))))))))
theorem spec_KeyWords_ok (w0 : World) :
    ConM Tryz.prog 162 [] w0 (spec_KeyWords ) fun r v w' => ∃ (x1 : Value), v = x1 ∧ Mem w0 (hp w0) w' [ow [x1] r] := by
  unfold spec_KeyWords
  refine gcon func162 rfl fun r => ?_
  have hm := Mem.start w0
  refine gS (gR (gA rfl (gE (gS (gR (gf rfl (fun a hf => e_build (vs := #[(0, (.string ⟨((mkS [102, 110])).b.toArray⟩)), (1, (.string ⟨((mkS [108, 101, 116])).b.toArray⟩)), (2, (.string ⟨((mkS [115, 97, 121])).b.toArray⟩)), (3, (.string ⟨((mkS [112, 117, 116])).b.toArray⟩)), (4, (.string ⟨((mkS [105, 102])).b.toArray⟩)), (5, (.string ⟨((mkS [101, 108, 115, 101])).b.toArray⟩)), (6, (.string ⟨((mkS [108, 111, 111, 112])).b.toArray⟩)), (7, (.string ⟨((mkS [98, 97, 99, 107])).b.toArray⟩)), (8, (.string ⟨((mkS [100, 111])).b.toArray⟩))]) (cs := [(.string ⟨((mkS [102, 110])).b.toArray⟩), (.string ⟨((mkS [108, 101, 116])).b.toArray⟩), (.string ⟨((mkS [115, 97, 121])).b.toArray⟩), (.string ⟨((mkS [112, 117, 116])).b.toArray⟩), (.string ⟨((mkS [105, 102])).b.toArray⟩), (.string ⟨((mkS [101, 108, 115, 101])).b.toArray⟩), (.string ⟨((mkS [108, 111, 111, 112])).b.toArray⟩), (.string ⟨((mkS [98, 97, 99, 107])).b.toArray⟩), (.string ⟨((mkS [100, 111])).b.toArray⟩)]) et_74 hf hm rfl rfl (by kernel_rfl) rfl rfl) ?_))))))
  rintro _ w ⟨aA, rfl, hm⟩
  replace hm := hm.lit (xs := ([(mkS [102, 110]), (mkS [108, 101, 116]), (mkS [115, 97, 121]), (mkS [112, 117, 116]), (mkS [105, 102]), (mkS [101, 108, 115, 101]), (mkS [108, 111, 111, 112]), (mkS [98, 97, 99, 107]), (mkS [100, 111])] : List Str)) 0 rfl rfl rfl rfl
  exact gA rfl (gE (gRt (gr1 results162 rfl ⟨(sV aA 0 9 9), rfl, hm.pk [0] rfl rfl⟩)))
theorem spec_l1Key_ok (w0 : World) (s_ : Str) :
    ConM Tryz.prog 155 [(.string ⟨(s_).b.toArray⟩)] w0 (spec_l1Key s_) fun r v w' => v = (.bool (r)) ∧ Below w0.heap.size w0 w' := by
  unfold spec_l1Key
  refine gcon func155 rfl fun r => ?_
  have hm := Mem.start w0
  refine gS (gR (gA rfl (gE (gS (gR (gCg rfl call162 (spec_KeyWords_ok _ ) ?_))))))
  rintro aA aL aM w ⟨_, rfl, hB⟩
  replace hm := hm.give hB; clear hB
  refine gA rfl (gE (gS (gS (gR (gA rfl (gE ?_))))))
  obtain ⟨aD, aE, rfl, aN⟩ := ro_slice (hm.ow_rep 0 rfl)
  refine gBk (gNf hm (fun aB aF => [(0, (.string ⟨(s_).b.toArray⟩)), (3, (.slice aD aA.length aE)), (4, (nV aB))]) (fun aB aF => [ow [(.slice aD aA.length aE)] aA]) [0] rfl ?_ ?_)
  ·
   repeat clear hm
   intro aO aH aB aF w hm aP aQ aR aI
   refine gS (gS (gR (gM rfl (gM rfl (gY (yV st_74 rfl) (gB rfl (gE (go _ 9 rfl (decide_eq_true (by omega)) (gct rfl (gSk (gS (gBk (gS (gR (gM rfl (gM rfl (gg fun aG aJ aC => ?_)))))))))))))))))
   obtain ⟨aS, aT, aU, he⟩ := idx_form (hm.ow_rep 0 rfl) aC
   obtain ⟨rfl, _, rfl⟩ := sl3 he
   refine gI st_74 aJ (idx_lt aC) rfl (gY (yl isAgg9 ((flat_cells (cs := [(.string ⟨(aG).b.toArray⟩)]) (hm.ow_rep 0 rfl) aC rfl).cell (j := 0) rfl) rfl) (gM rfl (gY (yG rfl (y_eqls (p := aG) (q := s_) rfl rfl rfl)) (gE (gsd 17 rfl (fun aK => ?_) fun aK => ?_)))))
   ·
    exact gct rfl (gS (gR (gA rfl (gE (gRt (gLr aI aH (gr1 results155 rfl ⟨rfl, hm.below⟩)))))))
   exact gcf rfl (gSk (gR (gM rfl (gP (by omega) (by omega) rfl (gA rfl (gE (gze hm [0] rfl)))))))
  repeat clear hm
  intro aV aX w hm aY aZ
  exact gS (gS (gR (gM rfl (gM rfl (gY (yV st_74 rfl) (gB rfl (gE (go _ 9 rfl (decide_eq_false (by omega)) (gcf rfl (gXt (gHh (gS (gR (gA rfl (gE (gRt (gr1 results155 rfl ⟨rfl, hm.below⟩)))))))))))))))))
theorem spec_IsName_ok (w0 : World) (s_ : Str) :
    ConM Tryz.prog 113 [(.string ⟨(s_).b.toArray⟩)] w0 (spec_IsName s_) fun r v w' => v = (.bool (r)) ∧ Below w0.heap.size w0 w' := by
  unfold spec_IsName
  refine gcon func113 rfl fun r => ?_
  have hm := Mem.start w0
  refine gS (gR (gA rfl (gE (gS (gJ hm (fun aA => [(2, (.bool (aA)))]) (fun aA => []) (fun aA => ?_) ?_)))))
  ·
   refine gR (gM rfl (gC hm rfl call160 (spec_l1All_ok _ s_ 1) fun aD aE w hm => gM rfl (gs 5 rfl (fun aB => ?_) fun aB => ?_)))
   ·
    refine gM rfl (gY (yG rfl (y_len_str (p := s_) underlying9 rfl rfl)) ?_)
    have aF := (s_).h
    refine gB rfl (gKt rfl (gM rfl (gsd 10 rfl (fun aC => ?_) fun aC => ?_)))
    ·
     exact gM rfl (gC hm rfl call155 (spec_l1Key_ok _ s_) fun aG aH w hm => gN rfl (gKt rfl (gA rfl (gE (gz hm [] rfl)))))
    exact gO rfl (gO rfl (gO rfl (gKf rfl (gA rfl (gE (gz hm [] rfl))))))
   exact gO rfl (gO rfl (gO rfl (gKf rfl (gM rfl (gO rfl (gO rfl (gO rfl (gKf rfl (gA rfl (gE (gz hm [] rfl)))))))))))
  repeat clear hm
  intro aA w hm
  exact gRt (gr1 results113 rfl ⟨rfl, hm.below⟩)
theorem spec_l2Form_all  : ∀ (e : Expr_) (deep : Int) (r : Bool), spec_l2Form e deep = some r → ∀ (w0 : World) (v1 : Value) (h1 : GT.rep (hp w0) [v1] e.kids), Con Tryz.prog 58 [(.agg #[(nV e.op), (nV e.n_), (.string ⟨(e.name).b.toArray⟩), v1]), (nV deep)] w0 (fun v w' => v = (.bool (r)) ∧ Below w0.heap.size w0 w') := by
  refine spec_l2Form.partial_correctness  (motive := fun e deep r => ∀ (w0 : World) (v1 : Value) (h1 : GT.rep (hp w0) [v1] e.kids), Con Tryz.prog 58 [(.agg #[(nV e.op), (nV e.n_), (.string ⟨(e.name).b.toArray⟩), v1]), (nV deep)] w0 (fun v w' => v = (.bool (r)) ∧ Below w0.heap.size w0 w')) ?_
  intro rec_ ih_ e deep r hq w0 v1 h1
  have spec_l2Form_rec : ∀ (w0 : World) (e : Expr_) (v1 : Value) (h1 : GT.rep (hp w0) [v1] e.kids) (deep : Int) (r : Bool) (hq : rec_ e deep = some r), Con Tryz.prog 58 [(.agg #[(nV e.op), (nV e.n_), (.string ⟨(e.name).b.toArray⟩), v1]), (nV deep)] w0 (fun v w' => v = (.bool (r)) ∧ Below w0.heap.size w0 w') := fun w0 e v1 h1 deep r hq => ih_ e deep r hq w0 v1 h1
  refine gconr (ρ := Bool) (R := fun r v w' => v = (.bool (r)) ∧ Below w0.heap.size w0 w') func58 rfl hq ?_
  have hm := Mem.start w0
  refine gS (gR (gBx hm rfl fun aA w hm => gA rfl (gE (gS (gR (gF fo_24_0 rfl (gL hm 0 isAgg3 rfl (gC hm rfl call111 (spec_l2Kids_ok _ e.op) fun aG ac w hm => gM rfl (gX rfl (gX rfl (gA rfl (gA rfl (gE (gS (gS (gJ hm (fun aB => [(1, (nV deep)), (2, (pV aA)), (31, (.bool (aB)))]) (fun aB => [blk aA [(nV e.op), (nV e.n_), (.string ⟨(e.name).b.toArray⟩), v1] 24]) (fun aB => ?_) ?_))))))))))))))))
  ·
   refine gR (gM rfl (gB rfl (gM rfl (gsd 17 rfl (fun aI => ?_) fun aI => ?_))))
   ·
    exact gO rfl (gO rfl (gO rfl (gO rfl (gKt rfl (gM rfl (gO rfl (gO rfl (gO rfl (gO rfl (gO rfl (gO rfl (gO rfl (gKt rfl (gE (gz hm [0] rfl)))))))))))))))
   refine gF fo_24_0 rfl (gL hm 0 isAgg3 rfl (gC hm rfl call112 (spec_l1In_ok _ e.op 1 13) fun ae af w hm => gN rfl (gKf rfl (gM rfl (gsn 23 rfl (fun aJ => ?_) fun aJ => ?_)))))
   ·
    exact gO rfl (gO rfl (gO rfl (gO rfl (gO rfl (gO rfl (gO rfl (gKt rfl (gE (gz hm [0] rfl)))))))))
   refine gF fo_24_3 rfl (gL hm 0 isAgg22 rfl ?_)
   obtain ⟨ag, ah, rfl, ai⟩ := ro_slice h1
   exact gY (yV st_22 rfl) (gM rfl (gM rfl (gC hm rfl call112 (spec_l1In_ok _ (e.kids.length : Int) aG.1 aG.2) fun aj ak w hm => gN rfl (gKf rfl (gE (gz hm [0] rfl))))))
  repeat clear hm
  intro aB w hm
  refine gs 31 rfl (fun aK => ?_) fun aK => ?_
  ·
   exact gct rfl (gS (gR (gA rfl (gE (gRt (gr1 results58 rfl ⟨rfl, hm.below⟩))))))
  refine gcf rfl (gSk (gS (gJ hm (fun aC => [(1, (nV deep)), (2, (pV aA)), (7, (.bool (aC)))]) (fun aC => [blk aA [(nV e.op), (nV e.n_), (.string ⟨(e.name).b.toArray⟩), v1] 24]) (fun aC => ?_) ?_)))
  ·
   refine gR (gF fo_24_0 rfl (gL hm 0 isAgg3 rfl (gB rfl (gM rfl (gsd 35 rfl (fun aL => ?_) fun aL => ?_)))))
   ·
    exact gO rfl (gO rfl (gO rfl (gKt rfl (gA rfl (gE (gz hm [0] rfl))))))
   exact gF fo_24_0 rfl (gL hm 0 isAgg3 rfl (gB rfl (gKf rfl (gA rfl (gE (gz hm [0] rfl))))))
  repeat clear hm
  intro aC w hm
  refine gS (gS (gJ hm (fun aD => [(1, (nV deep)), (2, (pV aA)), (69, (.bool (aD)))]) (fun aD => [blk aA [(nV e.op), (nV e.n_), (.string ⟨(e.name).b.toArray⟩), v1] 24]) (fun aD => ?_) ?_))
  ·
   refine gR (gM rfl (gF fo_24_2 rfl (gL hm 0 isAgg9 rfl (gC hm rfl call113 (spec_IsName_ok _ e.name) fun al am w hm => gY (yG rfl (y_neqb underlying4 rfl rfl rfl)) (gM rfl (gsd 45 rfl (fun aM => ?_) fun aM => ?_))))))
   ·
    exact gO rfl (gO rfl (gO rfl (gO rfl (gO rfl (gO rfl (gO rfl (gKt rfl (gM rfl (gO rfl (gO rfl (gO rfl (gO rfl (gKt rfl (gM rfl (gO rfl (gO rfl (gO rfl (gO rfl (gO rfl (gO rfl (gO rfl (gO rfl (gKt rfl (gE (gz hm [0] rfl)))))))))))))))))))))))))
   refine gM rfl (gN rfl (gM rfl (gsn 48 rfl (fun aN => ?_) fun aN => ?_)))
   ·
    refine gF fo_24_2 rfl (gL hm 0 isAgg9 rfl (gY (yG rfl (y_neqs (p := e.name) (q := (mkS [])) rfl rfl rfl)) (gKt rfl (gKf rfl (gM rfl (gsd 54 rfl (fun aO => ?_) fun aO => ?_))))))
    ·
     exact gO rfl (gO rfl (gO rfl (gO rfl (gKt rfl (gM rfl (gO rfl (gO rfl (gO rfl (gO rfl (gO rfl (gO rfl (gO rfl (gO rfl (gKt rfl (gE (gz hm [0] rfl))))))))))))))))
    refine gF fo_24_1 rfl (gL hm 0 isAgg3 rfl (gC hm rfl call112 (spec_l1In_ok _ e.n_ 0 255) fun an ao w hm => gN rfl (gKf rfl (gM rfl (gsn 60 rfl (fun aP => ?_) fun aP => ?_)))))
    ·
     exact gO rfl (gO rfl (gO rfl (gO rfl (gO rfl (gO rfl (gO rfl (gO rfl (gKt rfl (gE (gz hm [0] rfl))))))))))
    refine gF fo_24_0 rfl (gL hm 0 isAgg3 rfl (gB rfl (gM rfl (gsd 64 rfl (fun aQ => ?_) fun aQ => ?_))))
    ·
     exact gF fo_24_1 rfl (gL hm 0 isAgg3 rfl (gB rfl (gKt rfl (gKf rfl (gE (gz hm [0] rfl))))))
    exact gO rfl (gO rfl (gO rfl (gKf rfl (gKf rfl (gE (gz hm [0] rfl))))))
   refine gO rfl (gO rfl (gO rfl (gKf rfl (gKf rfl (gM rfl (gF fo_24_1 rfl (gL hm 0 isAgg3 rfl (gC hm rfl call112 (spec_l1In_ok _ e.n_ 0 255) fun aq ar w hm => gN rfl (gKf rfl (gM rfl (gsn 60 rfl (fun aR => ?_) fun aR => ?_)))))))))))
   ·
    exact gO rfl (gO rfl (gO rfl (gO rfl (gO rfl (gO rfl (gO rfl (gO rfl (gKt rfl (gE (gz hm [0] rfl))))))))))
   refine gF fo_24_0 rfl (gL hm 0 isAgg3 rfl (gB rfl (gM rfl (gsd 64 rfl (fun aS => ?_) fun aS => ?_))))
   ·
    exact gF fo_24_1 rfl (gL hm 0 isAgg3 rfl (gB rfl (gKt rfl (gKf rfl (gE (gz hm [0] rfl))))))
   exact gO rfl (gO rfl (gO rfl (gKf rfl (gKf rfl (gE (gz hm [0] rfl))))))
  repeat clear hm
  intro aD w hm
  refine gs 69 rfl (fun aT => ?_) fun aT => ?_
  ·
   exact gct rfl (gS (gR (gA rfl (gE (gRt (gr1 results58 rfl ⟨rfl, hm.below⟩))))))
  refine gcf rfl (gSk (gS (gS (gR (gA rfl (gE (gBk (gNf hm (fun aE aH => [(1, (nV deep)), (2, (pV aA)), (8, (nV aE))]) (fun aE aH => [blk aA [(nV e.op), (nV e.n_), (.string ⟨(e.name).b.toArray⟩), v1] 24]) [0] rfl ?_ ?_))))))))
  ·
   repeat clear hm
   intro au aU aE aH w hm av aw ax aV
   refine gS (gS (gR (gM rfl (gF fo_24_3 rfl (gL hm 0 isAgg22 rfl ?_)))))
   obtain ⟨ay, az, rfl, bA⟩ := ro_slice h1
   refine gY (yV st_22 rfl) (gB rfl (gE (go _ 74 rfl (decide_eq_true (by omega)) (gct rfl (gSk (gS (gBk (gS (gR (gF fo_24_3 rfl (gL hm 0 isAgg22 rfl (gM rfl (gg fun aX aY aF => ?_)))))))))))))
   obtain ⟨bB, bC, bD, he⟩ := idx_form' h1 aF
   obtain ⟨rfl, _, rfl⟩ := sl3 he
   obtain ⟨aZ, a8, aa⟩ := rk_Expr_ h1 aF
   refine gI st_22 aY (idx_lt aF) rfl (gY (yn (a8.mono hm.lez) isAgg24 sizeOf24 rfl) (gM rfl (gB rfl (gC hm rfl call58 (spec_l2Form_rec _ aX aZ (hm.now aa) (w64 (deep - 1))) fun bE bF w hm => gN rfl (gE (gsn 85 rfl (fun ab => ?_) fun ab => ?_))))))
   ·
    exact gct rfl (gS (gR (gA rfl (gE (gRt (gLr aV aU (gr1 results58 rfl ⟨rfl, hm.below⟩)))))))
   exact gcf rfl (gSk (gR (gM rfl (gP (by omega) (by omega) rfl (gA rfl (gE (gze hm [0] rfl)))))))
  repeat clear hm
  intro bG bH w hm bJ bK
  refine gS (gS (gR (gM rfl (gF fo_24_3 rfl (gL hm 0 isAgg22 rfl ?_)))))
  obtain ⟨bL, bM, rfl, bN⟩ := ro_slice h1
  exact gY (yV st_22 rfl) (gB rfl (gE (go _ 74 rfl (decide_eq_false (by omega)) (gcf rfl (gXt (gHh (gS (gR (gA rfl (gE (gRt (gr1 results58 rfl ⟨rfl, hm.below⟩))))))))))))
theorem spec_l2Form_ok (w0 : World) (e : Expr_) (v1 : Value) (h1 : GT.rep (hp w0) [v1] e.kids) (deep : Int) (r : Bool) (hq : spec_l2Form e deep = some r) : Con Tryz.prog 58 [(.agg #[(nV e.op), (nV e.n_), (.string ⟨(e.name).b.toArray⟩), v1]), (nV deep)] w0 (fun v w' => v = (.bool (r)) ∧ Below w0.heap.size w0 w') := spec_l2Form_all e deep r hq w0 v1 h1
theorem spec_l2Parts_all  : ∀ (e : Expr_) (r : Int), spec_l2Parts e = some r → ∀ (w0 : World) (v1 : Value) (h1 : GT.rep (hp w0) [v1] e.kids), Con Tryz.prog 59 [(.agg #[(nV e.op), (nV e.n_), (.string ⟨(e.name).b.toArray⟩), v1])] w0 (fun v w' => v = (nV r) ∧ Below w0.heap.size w0 w') := by
  refine spec_l2Parts.partial_correctness  (motive := fun e r => ∀ (w0 : World) (v1 : Value) (h1 : GT.rep (hp w0) [v1] e.kids), Con Tryz.prog 59 [(.agg #[(nV e.op), (nV e.n_), (.string ⟨(e.name).b.toArray⟩), v1])] w0 (fun v w' => v = (nV r) ∧ Below w0.heap.size w0 w')) ?_
  intro rec_ ih_ e r hq w0 v1 h1
  have spec_l2Parts_rec : ∀ (w0 : World) (e : Expr_) (v1 : Value) (h1 : GT.rep (hp w0) [v1] e.kids) (r : Int) (hq : rec_ e = some r), Con Tryz.prog 59 [(.agg #[(nV e.op), (nV e.n_), (.string ⟨(e.name).b.toArray⟩), v1])] w0 (fun v w' => v = (nV r) ∧ Below w0.heap.size w0 w') := fun w0 e v1 h1 r hq => ih_ e r hq w0 v1 h1
  refine gconr (ρ := Int) (R := fun r v w' => v = (nV r) ∧ Below w0.heap.size w0 w') func59 rfl hq ?_
  have hm := Mem.start w0
  refine gS (gR (gBx hm rfl fun aD w hm => gA rfl (gE (gS (gR (gA rfl (gE (gS (gS (gR (gA rfl (gE (gBk (gNf hm (fun aA aB => [(1, (pV aD)), (3, (nV aB)), (4, (nV aA))]) (fun aA aB => [blk aD [(nV e.op), (nV e.n_), (.string ⟨(e.name).b.toArray⟩), v1] 24]) [0] rfl ?_ ?_))))))))))))))
  ·
   repeat clear hm
   intro _ _ aA aB w hm aJ aK aL _
   refine gS (gS (gR (gM rfl (gF fo_24_3 rfl (gL hm 0 isAgg22 rfl ?_)))))
   obtain ⟨aM, aN, rfl, aO⟩ := ro_slice h1
   refine gY (yV st_22 rfl) (gB rfl (gE (go _ 9 rfl (decide_eq_true (by omega)) (gct rfl (gSk (gS (gBk (gR (gM rfl (gF fo_24_3 rfl (gL hm 0 isAgg22 rfl (gM rfl (gg fun aE aF aC => ?_)))))))))))))
   obtain ⟨aP, aQ, aR, he⟩ := idx_form' h1 aC
   obtain ⟨rfl, _, rfl⟩ := sl3 he
   obtain ⟨aG, aH, aI⟩ := rk_Expr_ h1 aC
   exact gI st_22 aF (idx_lt aC) rfl (gY (yn (aH.mono hm.lez) isAgg24 sizeOf24 rfl) (gC hm rfl call59 (spec_l2Parts_rec _ aE aG (hm.now aI)) fun aS aT w hm => gB rfl (gA rfl (gE (gR (gM rfl (gP (by omega) (by omega) rfl (gA rfl (gE (gze hm [0] rfl))))))))))
  repeat clear hm
  intro aU aV w hm aX aY
  refine gS (gS (gR (gM rfl (gF fo_24_3 rfl (gL hm 0 isAgg22 rfl ?_)))))
  obtain ⟨aZ, a8, rfl, aa⟩ := ro_slice h1
  exact gY (yV st_22 rfl) (gB rfl (gE (go _ 9 rfl (decide_eq_false (by omega)) (gcf rfl (gXt (gHh (gS (gR (gM rfl (gA rfl (gE (gRt (gr1 results59 rfl ⟨rfl, hm.below⟩)))))))))))))
theorem spec_l2Parts_ok (w0 : World) (e : Expr_) (v1 : Value) (h1 : GT.rep (hp w0) [v1] e.kids) (r : Int) (hq : spec_l2Parts e = some r) : Con Tryz.prog 59 [(.agg #[(nV e.op), (nV e.n_), (.string ⟨(e.name).b.toArray⟩), v1])] w0 (fun v w' => v = (nV r) ∧ Below w0.heap.size w0 w') := spec_l2Parts_all e r hq w0 v1 h1
theorem spec_ExprValid_ok (w0 : World) (e : Expr_) (v1 : Value) (h1 : GT.rep (hp w0) [v1] e.kids) :
    ConM Tryz.prog 22 [(.agg #[(nV e.op), (nV e.n_), (.string ⟨(e.name).b.toArray⟩), v1])] w0 (spec_ExprValid e) fun r v w' => v = (.bool (r)) ∧ Below w0.heap.size w0 w' := by
  unfold spec_ExprValid
  refine gcon func22 rfl fun r => ?_
  have hm := Mem.start w0
  refine gS (gR (gBx hm rfl fun aC w hm => gA rfl (gE (gS (gJ hm (fun aA => [(2, (.bool (aA)))]) (fun aA => []) (fun aA => ?_) ?_)))))
  ·
   refine gR (gY (yn (hm.blk_at 0 rfl) isAgg24 sizeOf24 rfl) (gC hm rfl call58 (spec_l2Form_ok _ e v1 (hm.now h1) 6) fun aD aE w hm => gM rfl (gs 5 rfl (fun aB => ?_) fun aB => ?_)))
   ·
    exact gY (yn (hm.blk_at 0 rfl) isAgg24 sizeOf24 rfl) (gC hm rfl call59 (spec_l2Parts_ok _ e v1 (hm.now h1)) fun aF aG w hm => gB rfl (gKt rfl (gA rfl (gE (gz hm [] rfl)))))
   exact gO rfl (gO rfl (gO rfl (gKf rfl (gA rfl (gE (gz hm [] rfl))))))
  repeat clear hm
  intro aA w hm
  exact gRt (gr1 results22 rfl ⟨rfl, hm.below⟩)
theorem impl_signWord_ok (w0 : World) (s_ : Str) :
    ConM Tryz.prog 80 [(.string ⟨(s_).b.toArray⟩)] w0 (impl_signWord s_) fun r v w' => v = (.agg #[(nV r.kind), (.string ⟨(r.text).b.toArray⟩)]) ∧ Below w0.heap.size w0 w' := by
  unfold impl_signWord
  refine gcon func80 rfl fun r => ?_
  have hm := Mem.start w0
  exact gS (gR (gAl hm zeroValue56 rfl fun aA w hm => gE (gS (gR (gM rfl (gY (yG rfl (y_build (vs := [(0, (nV 3)), (1, (.string ⟨(s_).b.toArray⟩))]) (cs := #[(nV 3), (.string ⟨(s_).b.toArray⟩)]) rfl rfl (by kernel_rfl))) (gSN hm 0 sizeOf56 (one_cons rfl (one_cons rfl one_nil)) rfl fun w hm => gE (gRt (grc 0 results80 hm rfl isAgg56 sizeOf56 ⟨rfl, hm.below⟩)))))))))
theorem strconv_Itoa_ok (w0 : World) (i_ : Int) (hG4 : GT.rep (hp w0) [.pointer (some ⟨4, 0, none⟩)] glob_strconv_uint64pow10) :
    ConM Tryz.prog 114 [(nV i_)] w0 (strconv_Itoa i_) fun r v w' => v = (.string ⟨(r).b.toArray⟩) ∧ Below w0.heap.size w0 w' := itoa_con laysM171 (by kernel_rfl) w0 i_ hG4
theorem impl_nameWord_ok (w0 : World) (s_ : Str) :
    ConM Tryz.prog 79 [(.string ⟨(s_).b.toArray⟩)] w0 (impl_nameWord s_) fun r v w' => v = (.agg #[(nV r.kind), (.string ⟨(r.text).b.toArray⟩)]) ∧ Below w0.heap.size w0 w' := by
  unfold impl_nameWord
  refine gcon func79 rfl fun r => ?_
  have hm := Mem.start w0
  exact gS (gR (gAl hm zeroValue56 rfl fun aA w hm => gE (gS (gR (gM rfl (gY (yG rfl (y_build (vs := [(0, (nV 1)), (1, (.string ⟨(s_).b.toArray⟩))]) (cs := #[(nV 1), (.string ⟨(s_).b.toArray⟩)]) rfl rfl (by kernel_rfl))) (gSN hm 0 sizeOf56 (one_cons rfl (one_cons rfl one_nil)) rfl fun w hm => gE (gRt (grc 0 results79 hm rfl isAgg56 sizeOf56 ⟨rfl, hm.below⟩)))))))))
theorem impl_exprWords_all  : ∀ (list : List Word_) (e : Expr_) (around : Bool) (r : (List Word_)), impl_exprWords list e around = some r → ∀ (w0 : World) (hz : Heap) (v1 : Value) (v2 : Value) (h2 : GT.rep hz [v2] e.kids) (hm0 : Mem w0 hz w0 [ow [v1] list]) (hG0 : GT.rep hz [.slice (some ⟨0, 0, none⟩) 1 1] [glob_impl_opSign]) (hG4 : GT.rep hz [.pointer (some ⟨4, 0, none⟩)] glob_strconv_uint64pow10), Con Tryz.prog 60 [v1, (.agg #[(nV e.op), (nV e.n_), (.string ⟨(e.name).b.toArray⟩), v2]), (.bool (around))] w0 (fun v w' => ∃ (x1 : Value), v = x1 ∧ Mem w0 hz w' [ow [x1] r]) := by
  refine impl_exprWords.partial_correctness  (motive := fun list e around r => ∀ (w0 : World) (hz : Heap) (v1 : Value) (v2 : Value) (h2 : GT.rep hz [v2] e.kids) (hm0 : Mem w0 hz w0 [ow [v1] list]) (hG0 : GT.rep hz [.slice (some ⟨0, 0, none⟩) 1 1] [glob_impl_opSign]) (hG4 : GT.rep hz [.pointer (some ⟨4, 0, none⟩)] glob_strconv_uint64pow10), Con Tryz.prog 60 [v1, (.agg #[(nV e.op), (nV e.n_), (.string ⟨(e.name).b.toArray⟩), v2]), (.bool (around))] w0 (fun v w' => ∃ (x1 : Value), v = x1 ∧ Mem w0 hz w' [ow [x1] r])) ?_
  intro rec_ ih_ list e around r hq w0 hz v1 v2 h2 hm0 hG0 hG4
  have impl_exprWords_rec : ∀ (w0 : World) (hz : Heap) (list : List Word_) (v1 : Value) (e : Expr_) (v2 : Value) (h2 : GT.rep hz [v2] e.kids) (around : Bool) (hm0 : Mem w0 hz w0 [ow [v1] list]) (hG0 : GT.rep hz [.slice (some ⟨0, 0, none⟩) 1 1] [glob_impl_opSign]) (hG4 : GT.rep hz [.pointer (some ⟨4, 0, none⟩)] glob_strconv_uint64pow10) (r : (List Word_)) (hq : rec_ list e around = some r), Con Tryz.prog 60 [v1, (.agg #[(nV e.op), (nV e.n_), (.string ⟨(e.name).b.toArray⟩), v2]), (.bool (around))] w0 (fun v w' => ∃ (x1 : Value), v = x1 ∧ Mem w0 hz w' [ow [x1] r]) := fun w0 hz list v1 e v2 h2 around hm0 hG0 hG4 r hq => ih_ list e around r hq w0 hz v1 v2 h2 hm0 hG0 hG4
  refine gconr (ρ := (List Word_)) (R := fun r v w' => ∃ (x1 : Value), v = x1 ∧ Mem w0 hz w' [ow [x1] r]) func60 rfl hq ?_
  have hm := hm0
  refine gS (gR (gBx hm rfl fun aA w hm => gA rfl (gE (gS (gS (gR (gM rfl (gE (gs 11 rfl (fun ay => ?_) fun ay => ?_)))))))))
  ·
   refine gct rfl (gS (gR (gM rfl (gC hm rfl call80 (impl_signWord_ok _ (mkS [40])) fun aD ci w hm => gf rfl (fun a hf => e_build (vs := #[(0, (.agg #[(nV aD.kind), (.string ⟨(aD.text).b.toArray⟩)]))]) (cs := [(nV aD.kind), (.string ⟨(aD.text).b.toArray⟩)]) et_41 hf hm rfl rfl (by kernel_rfl) rfl rfl) ?_))))
   rintro _ w ⟨az, rfl, hm⟩
   replace hm := hm.lit (xs := ([aD] : List Word_)) 0 rfl rfl rfl rfl
   refine gb fun ac bA => ?_
   obtain ⟨bB, bC⟩ := appM_some.1 bA
   refine gf rfl (fun a hf => e_append 2 et_41 hf hm rfl (hm.ow_rep 0 rfl) rfl rfl rfl bB) ?_
   rintro ae w hm
   rw [bC] at hm
   refine gA rfl (gE (gS (gR (gM rfl (gY (yn (hm.blk_at 1 rfl) isAgg24 sizeOf24 rfl) ?_)))))
   obtain ⟨bD, hle, hm1, hsub, bE⟩ := hm.take2 (L1 := [ow [ae] ac]) (L2 := [ow [(sV az 0 1 1)] ([aD] : List Word_), blk aA [(nV e.op), (nV e.n_), (.string ⟨(e.name).b.toArray⟩), v2] 24]) [2] [0, 1] (by decide) rfl rfl
   refine gCg rfl call60 (impl_exprWords_rec _ bD ac ae e v2 (GT.mono hle h2) false hm1 (GT.mono hle hG0) (GT.mono hle hG4)) ?_
   rintro cj ck cl w ⟨_, rfl, hB⟩
   replace hm := bE _ _ hB; clear hB
   refine gA rfl (gE (gS (gR (gM rfl (gC hm rfl call80 (impl_signWord_ok _ (mkS [41])) fun aF cm w hm => gf rfl (fun a hf => e_build (vs := #[(0, (.agg #[(nV aF.kind), (.string ⟨(aF.text).b.toArray⟩)]))]) (cs := [(nV aF.kind), (.string ⟨(aF.text).b.toArray⟩)]) et_41 hf hm rfl rfl (by kernel_rfl) rfl rfl) ?_)))))
   rintro _ w ⟨cn, rfl, hm⟩
   replace hm := hm.lit (xs := ([aF] : List Word_)) 0 rfl rfl rfl rfl
   refine gb fun co bF => ?_
   obtain ⟨bG, bH⟩ := appM_some.1 bF
   refine gf rfl (fun a hf => e_append 1 et_41 hf hm rfl (hm.ow_rep 0 rfl) rfl rfl rfl bG) ?_
   rintro bJ w hm
   rw [bH] at hm
   exact gA rfl (gE (gRt (gr1 results60 rfl ⟨bJ, rfl, hm.pk [1] rfl rfl⟩)))
  refine gcf rfl (gSk (gS (gR (gF fo_24_0 rfl (gL hm 0 isAgg3 rfl (gC hm rfl call110 (impl_levelOf_ok _ e.op (hm.now hG0)) fun af cq w hm => gA rfl (gE (gS (gBk (gS (gR (gF fo_24_0 rfl (gL hm 0 isAgg3 rfl (gB rfl (gA rfl (gE (gsd 26 rfl (fun bK => ?_) fun bK => ?_)))))))))))))))))
  ·
   refine gct rfl (gS (gR (gM rfl (gF fo_24_1 rfl (gL hm 0 isAgg3 rfl (gC hm rfl call114 (strconv_Itoa_ok _ e.n_ (hm.now hG4)) fun aG cr w hm => gY (yG rfl (y_build (vs := [(0, (nV 2)), (1, (.string ⟨(aG).b.toArray⟩))]) (cs := #[(nV 2), (.string ⟨(aG).b.toArray⟩)]) rfl rfl (by kernel_rfl))) (gf rfl (fun a hf => e_build (vs := #[(0, (.agg #[(nV 2), (.string ⟨(aG).b.toArray⟩)]))]) (cs := [(nV 2), (.string ⟨(aG).b.toArray⟩)]) et_41 hf hm rfl rfl (by kernel_rfl) rfl rfl) ?_)))))))
   rintro _ w ⟨ct, rfl, hm⟩
   replace hm := hm.lit (xs := ([(⟨2, aG⟩ : Word_)] : List Word_)) 0 rfl rfl rfl rfl
   refine gb fun cu bL => ?_
   obtain ⟨bM, bN⟩ := appM_some.1 bL
   refine gf rfl (fun a hf => e_append 2 et_41 hf hm rfl (hm.ow_rep 0 rfl) rfl rfl rfl bM) ?_
   rintro bO w hm
   rw [bN] at hm
   exact gA rfl (gE (gRt (gr1 results60 rfl ⟨bO, rfl, hm.pk [2] rfl rfl⟩)))
  refine gcf rfl (gS (gR (gF fo_24_0 rfl (gL hm 0 isAgg3 rfl (gB rfl (gA rfl (gE (gsd 37 rfl (fun bP => ?_) fun bP => ?_))))))))
  ·
   refine gct rfl (gS (gR (gM rfl (gF fo_24_2 rfl (gL hm 0 isAgg9 rfl (gC hm rfl call79 (impl_nameWord_ok _ e.name) fun aH cv w hm => gf rfl (fun a hf => e_build (vs := #[(0, (.agg #[(nV aH.kind), (.string ⟨(aH.text).b.toArray⟩)]))]) (cs := [(nV aH.kind), (.string ⟨(aH.text).b.toArray⟩)]) et_41 hf hm rfl rfl (by kernel_rfl) rfl rfl) ?_))))))
   rintro _ w ⟨cw, rfl, hm⟩
   replace hm := hm.lit (xs := ([aH] : List Word_)) 0 rfl rfl rfl rfl
   refine gb fun cx bQ => ?_
   obtain ⟨bR, bS⟩ := appM_some.1 bQ
   refine gf rfl (fun a hf => e_append 2 et_41 hf hm rfl (hm.ow_rep 0 rfl) rfl rfl rfl bR) ?_
   rintro bT w hm
   rw [bS] at hm
   exact gA rfl (gE (gRt (gr1 results60 rfl ⟨bT, rfl, hm.pk [2] rfl rfl⟩)))
  refine gcf rfl (gS (gR (gF fo_24_0 rfl (gL hm 0 isAgg3 rfl (gB rfl (gA rfl (gE (gsd 47 rfl (fun bU => ?_) fun bU => ?_))))))))
  ·
   refine gct rfl (gS (gR (gM rfl (gF fo_24_2 rfl (gL hm 0 isAgg9 rfl (gC hm rfl call79 (impl_nameWord_ok _ e.name) fun aI cy w hm => gC hm rfl call80 (impl_signWord_ok _ (mkS [40])) fun aJ cz w hm => gf rfl (fun a hf => e_build (vs := #[(0, (.agg #[(nV aI.kind), (.string ⟨(aI.text).b.toArray⟩)])), (1, (.agg #[(nV aJ.kind), (.string ⟨(aJ.text).b.toArray⟩)]))]) (cs := [(nV aI.kind), (.string ⟨(aI.text).b.toArray⟩), (nV aJ.kind), (.string ⟨(aJ.text).b.toArray⟩)]) et_41 hf hm rfl rfl (by kernel_rfl) rfl rfl) ?_))))))
   rintro _ w ⟨dA, rfl, hm⟩
   replace hm := hm.lit (xs := ([aI, aJ] : List Word_)) 0 rfl rfl rfl rfl
   refine gb fun bV bW => ?_
   obtain ⟨bX, bY⟩ := appM_some.1 bW
   refine gf rfl (fun a hf => e_append 2 et_41 hf hm rfl (hm.ow_rep 0 rfl) rfl rfl rfl bX) ?_
   rintro dB w hm
   rw [bY] at hm
   refine gA rfl (gE (gS (gS (gR (gF fo_24_3 rfl (gL hm 1 isAgg22 rfl ?_))))))
   obtain ⟨bZ, ag, rfl, dC⟩ := ro_slice h2
   refine gY (yV st_22 rfl) (gM rfl (gE ?_))
   obtain ⟨b8, b9, rfl, dD⟩ := ro_slice (hm.ow_rep 2 rfl)
   refine gBk (gNg (fun aS ah a w => ∃ (aP : Value), St 140 [(0, aP), (59, (.slice bZ e.kids.length ag)), (60, (nV ((e.kids.length : Int)))), (61, (nV aS))] w0 hz [ow [aP] ah] a w) (fun a hf => ⟨(.slice b8 bV.length b9), hf.sb rfl, hm.pk [2] rfl rfl⟩) ?_ ?_)
   ·
    repeat clear hm
    rintro _ _ aS ah a w ⟨aP, hf, hm⟩ dE dF dG _
    refine gv hf (gS (gR (gB rfl (gE (gS (go _ 62 rfl (decide_eq_true (by omega)) (gct rfl (gSk (gS (gBk (gS (gR (gM rfl (gg fun aB bc aT => ?_))))))))))))))
    obtain ⟨bd, be, dH, he⟩ := idx_form' h2 aT
    obtain ⟨rfl, _, rfl⟩ := sl3 he
    obtain ⟨aU, bf, ai⟩ := rk_Expr_ h2 aT
    refine gI st_22 bc (idx_lt aT) rfl (gY (yn (bf.mono hm.lez) isAgg24 sizeOf24 rfl) (gAl hm zeroValue24 rfl fun aV w hm => gA rfl (gSN hm 0 sizeOf24 (one_cons rfl (one_cons rfl (one_cons rfl (one_cons (rep_one ai) one_nil)))) rfl fun w hm => gE (gS (gS (gR (gM rfl (gB rfl (gE (gJg (fun aK a w => ∃ (aL : Value), St 140 [(0, aL), (9, (pV aV)), (59, (sV bd be e.kids.length ag)), (60, (nV ((e.kids.length : Int)))), (61, (nV aS))] w0 hz [ow [aL] aK, blk aV [(nV aB.op), (nV aB.n_), (.string ⟨(aB.name).b.toArray⟩), aU] 24] a w) (fun aK => ?_) ?_))))))))))
    ·
     refine gsd 67 rfl (fun bg => ?_) fun bg => ?_
     ·
      refine gct rfl (gR (gM rfl (gC hm rfl call80 (impl_signWord_ok _ (mkS [44])) fun aM dI w hm => gf rfl (fun a hf => e_build (vs := #[(0, (.agg #[(nV aM.kind), (.string ⟨(aM.text).b.toArray⟩)]))]) (cs := [(nV aM.kind), (.string ⟨(aM.text).b.toArray⟩)]) et_41 hf hm rfl rfl (by kernel_rfl) rfl rfl) ?_)))
      rintro _ w ⟨dJ, rfl, hm⟩
      replace hm := hm.lit (xs := ([aM] : List Word_)) 0 rfl rfl rfl rfl
      refine gb fun dK bh => ?_
      obtain ⟨bi, bj⟩ := appM_some.1 bh
      refine gf rfl (fun a hf => e_append 2 et_41 hf hm rfl (hm.ow_rep 0 rfl) rfl rfl rfl bi) ?_
      rintro bk w hm
      rw [bj] at hm
      exact gA rfl (gE (gZ fun a hf => ⟨bk, hf.sb rfl, hm.pk [2, 1] rfl rfl⟩))
     exact gcf rfl (gSk (gZ fun a hf => ⟨aP, hf.sb rfl, hm.pk [1, 0] rfl rfl⟩))
    repeat clear hm
    rintro aK a w ⟨aL, hf, hm⟩
    refine gv hf (gR (gM rfl (gY (yn (hm.blk_at 1 rfl) isAgg24 sizeOf24 rfl) ?_)))
    obtain ⟨bl, hle, hm1, hsub, bm⟩ := hm.take2 (L1 := [ow [aL] aK]) (L2 := [blk aV [(nV aB.op), (nV aB.n_), (.string ⟨(aB.name).b.toArray⟩), aU] 24]) [0] [1] (by decide) rfl rfl
    refine gCg rfl call60 (impl_exprWords_rec _ bl aK aL aB aU (GT.mono hle ai) false hm1 (GT.mono hle hG0) (GT.mono hle hG4)) ?_
    rintro dL dM bo w ⟨_, rfl, hB⟩
    replace hm := bm _ _ hB; clear hB
    exact gA rfl (gE (gR (gP (by omega) (by omega) rfl (gM rfl (gE (gZe fun a hf => ⟨bo, hf.sb rfl, hm.pk [0] rfl rfl⟩))))))
   repeat clear hm
   rintro dN dO a w ⟨dP, hf, hm⟩ dQ dR
   refine gv hf (gS (gR (gB rfl (gE (gS (go _ 62 rfl (decide_eq_false (by omega)) (gcf rfl (gXt (gHh (gS (gR (gM rfl (gC hm rfl call80 (impl_signWord_ok _ (mkS [41])) fun aN dS w hm => gf rfl (fun a hf => e_build (vs := #[(0, (.agg #[(nV aN.kind), (.string ⟨(aN.text).b.toArray⟩)]))]) (cs := [(nV aN.kind), (.string ⟨(aN.text).b.toArray⟩)]) et_41 hf hm rfl rfl (by kernel_rfl) rfl rfl) ?_)))))))))))))
   rintro _ w ⟨dT, rfl, hm⟩
   replace hm := hm.lit (xs := ([aN] : List Word_)) 0 rfl rfl rfl rfl
   refine gb fun dU bp => ?_
   obtain ⟨bq, br⟩ := appM_some.1 bp
   refine gf rfl (fun a hf => e_append 1 et_41 hf hm rfl (hm.ow_rep 0 rfl) rfl rfl rfl bq) ?_
   rintro bs w hm
   rw [br] at hm
   exact gA rfl (gE (gRt (gr1 results60 rfl ⟨bs, rfl, hm.pk [1] rfl rfl⟩)))
  refine gcf rfl (gS (gR (gM rfl (gB rfl (gA rfl (gE (gsd 80 rfl (fun bt => ?_) fun bt => ?_)))))))
  ·
   refine gct rfl (gS (gR (gA rfl (gE (gS (gS (gR (gF fo_24_0 rfl (gL hm 0 isAgg3 rfl (gB rfl (gE (gJ hm (fun aO => [(0, v1), (4, (pV aA)), (10, (.string ⟨(aO).b.toArray⟩))]) (fun aO => [ow [v1] list, blk aA [(nV e.op), (nV e.n_), (.string ⟨(e.name).b.toArray⟩), v2] 24]) (fun aO => ?_) ?_))))))))))))
   ·
    refine gsd 85 rfl (fun bu => ?_) fun bu => ?_
    ·
     exact gct rfl (gR (gA rfl (gE (gz hm [1, 0] rfl))))
    exact gcf rfl (gSk (gz hm [1, 0] rfl))
   repeat clear hm
   intro aO w hm
   refine gS (gW (.p 0 (.p 1 (.p 5 (.p 9 (.q 6 (.p 7 (.q 8 (.q 10 (.p 11 (.p 12 (.q 13 (.e 2 (.e 3 (.e 4 (.e 14 (.p 15 (.e 16 (.p 17 .fin) .nil)) .nil) .nil) .nil) .nil)))))))))))) [2, 3, 4, 6, 8, 10, 13, 14] [0, 1, 5, 7, 9, 11, 12, 15, 17] hm [1] [blk aA [(nV e.op), (nV e.n_), (.string ⟨(e.name).b.toArray⟩), v2] 24] rfl mxo (by kernel_rfl) (fun _ _ _ h => h.2) fun w hm hS => tP rfl (fun w => yM rfl) (tP rfl (fun w => yM rfl) (tP rfl (fun w => yF fo_24_3 rfl) (tP rfl (fun w => yF fo_24_3 rfl) (tQ rfl hS (fun w hm => yL hm 0 isAgg22 rfl) (gg fun aj ak aQ => ?_))))))
   obtain ⟨bv, bw, bz, he⟩ := idx_form' h2 aQ
   subst he
   obtain ⟨cA, al, cB⟩ := rk_Expr_ h2 aQ
   refine tP rfl (fun w => yI st_22 ak (idx_lt aQ) rfl) (tQ rfl hS (fun w hm => yn (al.mono hm.lez) isAgg24 sizeOf24 rfl) (tQ rfl hS (fun w hm => yL hm 0 isAgg22 rfl) (tP rfl (fun w => yI st_22 ak (idx_lt aQ) rfl) (tP rfl (fun w => yF fo_24_0 rfl) (tQ rfl hS (fun w hm => yl isAgg3 ((al.mono hm.lez).cell (j := 0) rfl) rfl) (tO (gb fun aE cC => tf rfl rfl (fun a hf => e_call hf rfl call80 rfl (impl_signWord_ok _ aO _ cC)) ?_)))))))
   rintro dV w ⟨rfl, hB⟩
   replace hm := hm.below' hB; clear hB
   refine tAk hm [1] rfl fun hS => tO (tf rfl rfl (fun a hf => e_build (vs := #[(0, (.agg #[(nV aE.kind), (.string ⟨(aE.text).b.toArray⟩)]))]) (cs := [(nV aE.kind), (.string ⟨(aE.text).b.toArray⟩)]) et_41 hf hm rfl rfl (by kernel_rfl) rfl rfl) ?_)
   rintro _ w ⟨cD, rfl, hm⟩
   replace hm := hm.lit (xs := ([aE] : List Word_)) 0 rfl rfl rfl rfl
   refine tAk hm [2] rfl fun hS => tO (gb fun am cE => ?_)
   obtain ⟨cF, cG⟩ := appM_some.1 cE
   refine tf rfl rfl (fun a hf => e_append 1 et_41 hf hm rfl (hm.ow_rep 0 rfl) rfl rfl rfl cF) ?_
   rintro an w hm
   rw [cG] at hm
   refine tAk hm [2] rfl fun hS => tO (gb fun cH cI => tf rfl rfl (fun a hf => e_call hf rfl call110 rfl (impl_levelOf_ok _ aj.op (hm.now hG0) _ cI)) ?_)
   rintro dW w ⟨rfl, hB⟩
   replace hm := hm.below' hB; clear hB
   refine tAk hm [2] rfl fun hS => tP rfl (fun w => yB rfl) (tO (gb fun dX cJ => ?_))
   obtain ⟨cK, hle, hm1, hsub, cL⟩ := hm.take2 (L1 := [ow [an] am]) (L2 := [ow [(sV cD 0 1 1)] ([aE] : List Word_), blk aA [(nV e.op), (nV e.n_), (.string ⟨(e.name).b.toArray⟩), (sV bv bw e.kids.length bz)] 24]) [1] [0, 2] (by decide) rfl rfl
   refine tf rfl rfl (fun a hf => e_call hf rfl call60 rfl (impl_exprWords_rec _ cK am an aj cA (GT.mono hle cB) (decide (cH < 5)) hm1 (GT.mono hle hG0) (GT.mono hle hG4) _ cJ)) ?_
   rintro cN w ⟨_, rfl, hB⟩
   replace hm := cL _ _ hB; clear hB
   exact tAn rfl (tP rfl (fun w => yA rfl) (tE (gRt (gr1 results60 rfl ⟨cN, rfl, hm.pk [0] rfl rfl⟩))))
  refine gcf rfl (gSk (gS (gW (.p 0 (.p 1 (.p 5 (.p 11 (.q 2 (.p 3 (.q 4 (.e 6 (.p 7 (.p 8 (.e 9 (.e 10 (.p 12 (.e 13 (.p 14 .fin) .nil)) .nil) .nil))) .nil)))))))) [6, 9, 10] [0, 1, 3, 5, 7, 8, 11, 12, 14] hm [0, 1] [blk aA [(nV e.op), (nV e.n_), (.string ⟨(e.name).b.toArray⟩), v2] 24, ow [v1] list] rfl mxo (by kernel_rfl) (fun _ _ _ h => h.2) fun w hm hS => tP rfl (fun w => yM rfl) (tP rfl (fun w => yF fo_24_3 rfl) (tP rfl (fun w => yF fo_24_3 rfl) (tP rfl (fun w => yM rfl) (tQ rfl hS (fun w hm => yL hm 0 isAgg22 rfl) (gg fun ao aq aR => ?_))))))))
  obtain ⟨aX, aY, aZ, he⟩ := idx_form' h2 aR
  subst he
  obtain ⟨cO, ar, cP⟩ := rk_Expr_ h2 aR
  refine tP rfl (fun w => yI st_22 aq (idx_lt aR) rfl) (tQ rfl hS (fun w hm => yn (ar.mono hm.lez) isAgg24 sizeOf24 rfl) (tO (tY rfl (yL hm 0 isAgg22 rfl) (tAs hS (tP rfl (fun w => yI st_22 aq (idx_lt aR) rfl) (tP rfl (fun w => yF fo_24_0 rfl) (tO (tY rfl (yl isAgg3 ((ar.mono hm.lez).cell (j := 0) rfl) rfl) (tAs hS (tO (gb fun cQ cR => tf rfl rfl (fun a hf => e_call hf rfl call110 rfl (impl_levelOf_ok _ ao.op (hm.now hG0) _ cR)) ?_)))))))))))
  rintro dY w ⟨rfl, hB⟩
  replace hm := hm.below' hB; clear hB
  refine tAk hm [0, 1] rfl fun hS => tP rfl (fun w => yB rfl) (tO (gb fun dZ cS => ?_))
  obtain ⟨cT, hle, hm1, hsub, cU⟩ := hm.take2 (L1 := [ow [v1] list]) (L2 := [blk aA [(nV e.op), (nV e.n_), (.string ⟨(e.name).b.toArray⟩), (sV aX aY e.kids.length aZ)] 24]) [1] [0] (by decide) rfl rfl
  refine tf rfl rfl (fun a hf => e_call hf rfl call60 rfl (impl_exprWords_rec _ cT list v1 ao cO (GT.mono hle cP) (decide (cQ < af)) hm1 (GT.mono hle hG0) (GT.mono hle hG4) _ cS)) ?_
  rintro d1 w ⟨_, rfl, hB⟩
  replace hm := cU _ _ hB; clear hB
  refine tAn rfl (tP rfl (fun w => yA rfl) (tE (gS (gR (gM rfl ?_)))))
  obtain ⟨d2, cV, cW⟩ := glob_map hG0 rfl
  refine gY (yl isAgg119 ((CellsAt.mono hm.lez (cV)).cell (j := 0) rfl) rfl) (gF fo_24_0 rfl (gL hm 1 isAgg3 rfl (gY (yG rfl (y_lookA (key := e.op) (m := (glob_impl_opSign : MapS St_sign_level)) (z := (⟨(mkS []), 0⟩ : St_sign_level)) (v2 := (.agg #[(.string ⟨(((MapS.get glob_impl_opSign e.op).getD (⟨(mkS []), 0⟩ : St_sign_level)).sign).b.toArray⟩), (nV (((MapS.get glob_impl_opSign e.op).getD (⟨(mkS []), 0⟩ : St_sign_level)).level))])) underlying3 underlying119 zeroValue120 (hm.now cW) rfl rfl rfl rfl rfl)) (gY (yG rfl (y_field1 underlying120 rfl rfl isAgg9 rfl rfl rfl)) (gC hm rfl call80 (impl_signWord_ok _ (((MapS.get glob_impl_opSign e.op).getD (⟨(mkS []), 0⟩ : St_sign_level)).sign)) fun aC d3 w hm => gf rfl (fun a hf => e_build (vs := #[(0, (.agg #[(nV aC.kind), (.string ⟨(aC.text).b.toArray⟩)]))]) (cs := [(nV aC.kind), (.string ⟨(aC.text).b.toArray⟩)]) et_41 hf hm rfl rfl (by kernel_rfl) rfl rfl) ?_)))))
  rintro _ w ⟨au, rfl, hm⟩
  replace hm := hm.lit (xs := ([aC] : List Word_)) 0 rfl rfl rfl rfl
  refine gb fun a8 cX => ?_
  obtain ⟨cY, cZ⟩ := appM_some.1 cX
  refine gf rfl (fun a hf => e_append 1 et_41 hf hm rfl (hm.ow_rep 0 rfl) rfl rfl rfl cY) ?_
  rintro aa w hm
  rw [cZ] at hm
  refine gA rfl (gE (gS (gW (.p 0 (.p 1 (.p 5 (.p 11 (.q 2 (.p 3 (.q 4 (.e 6 (.p 7 (.p 8 (.e 9 (.e 10 (.p 12 (.e 13 (.p 14 .fin) .nil)) .nil) .nil))) .nil)))))))) [6, 9, 10] [0, 1, 3, 5, 7, 8, 11, 12, 14] hm [0, 1, 2] [ow [(sV au 0 1 1)] ([aC] : List Word_), ow [aa] a8, blk aA [(nV e.op), (nV e.n_), (.string ⟨(e.name).b.toArray⟩), (sV aX aY e.kids.length aZ)] 24] rfl mxo (by kernel_rfl) (fun _ _ _ h => h.2) fun w hm hS => tP rfl (fun w => yM rfl) (tP rfl (fun w => yF fo_24_3 rfl) (tP rfl (fun w => yF fo_24_3 rfl) (tP rfl (fun w => yM rfl) (tQ rfl hS (fun w hm => yL hm 2 isAgg22 rfl) (gg fun av aw ab => ?_))))))))
  obtain ⟨c8, ax, c9⟩ := rk_Expr_ h2 ab
  refine tP rfl (fun w => yI st_22 aw (idx_lt ab) rfl) (tQ rfl hS (fun w hm => yn (ax.mono hm.lez) isAgg24 sizeOf24 rfl) (tO (tY rfl (yL hm 2 isAgg22 rfl) (tAs hS (tP rfl (fun w => yI st_22 aw (idx_lt ab) rfl) (tP rfl (fun w => yF fo_24_0 rfl) (tO (tY rfl (yl isAgg3 ((ax.mono hm.lez).cell (j := 0) rfl) rfl) (tAs hS (tO (gb fun ca cb => tf rfl rfl (fun a hf => e_call hf rfl call110 rfl (impl_levelOf_ok _ av.op (hm.now hG0) _ cb)) ?_)))))))))))
  rintro d4 w ⟨rfl, hB⟩
  replace hm := hm.below' hB; clear hB
  refine tAk hm [0, 1, 2] rfl fun hS => tP rfl (fun w => yB rfl) (tO (gb fun d5 cc => ?_))
  obtain ⟨cd, hle, hm1, hsub, ce⟩ := hm.take2 (L1 := [ow [aa] a8]) (L2 := [ow [(sV au 0 1 1)] ([aC] : List Word_), blk aA [(nV e.op), (nV e.n_), (.string ⟨(e.name).b.toArray⟩), (sV aX aY e.kids.length aZ)] 24]) [1] [0, 2] (by decide) rfl rfl
  refine tf rfl rfl (fun a hf => e_call hf rfl call60 rfl (impl_exprWords_rec _ cd a8 aa av c8 (GT.mono hle c9) (decide (ca ≤ af)) hm1 (GT.mono hle hG0) (GT.mono hle hG4) _ cc)) ?_
  rintro cf w ⟨_, rfl, hB⟩
  replace hm := ce _ _ hB; clear hB
  exact tAn rfl (tP rfl (fun w => yA rfl) (tE (gRt (gr1 results60 rfl ⟨cf, rfl, hm.pk [0] rfl rfl⟩))))
theorem impl_exprWords_ok (w0 : World) (hz : Heap) (list : List Word_) (v1 : Value) (e : Expr_) (v2 : Value) (h2 : GT.rep hz [v2] e.kids) (around : Bool) (hm0 : Mem w0 hz w0 [ow [v1] list]) (hG0 : GT.rep hz [.slice (some ⟨0, 0, none⟩) 1 1] [glob_impl_opSign]) (hG4 : GT.rep hz [.pointer (some ⟨4, 0, none⟩)] glob_strconv_uint64pow10) (r : (List Word_)) (hq : impl_exprWords list e around = some r) : Con Tryz.prog 60 [v1, (.agg #[(nV e.op), (nV e.n_), (.string ⟨(e.name).b.toArray⟩), v2]), (.bool (around))] w0 (fun v w' => ∃ (x1 : Value), v = x1 ∧ Mem w0 hz w' [ow [x1] r]) := impl_exprWords_all list e around r hq w0 hz v1 v2 h2 hm0 hG0 hG4
theorem impl_isDigit_ok (w0 : World) (b_ : UInt8) :
    ConM Tryz.prog 68 [(.int .u8 ((b_).toNat : Int))] w0 (impl_isDigit b_) fun r v w' => v = (.bool (r)) ∧ Below w0.heap.size w0 w' := by
  unfold impl_isDigit
  refine gcon func68 rfl fun r => ?_
  have hm := Mem.start w0
  refine gS (gR (gA rfl (gE (gS (gJ hm (fun aA => [(2, (.bool (aA)))]) (fun aA => []) (fun aA => ?_) ?_)))))
  ·
   refine gR (gM rfl (gY (yG rfl (y_leq8 (b := (48 : UInt8)) (c := b_) rfl rfl rfl)) (gM rfl (gsd 5 rfl (fun aB => ?_) fun aB => ?_))))
   ·
    exact gM rfl (gY (yG rfl (y_leq8 (b := b_) (c := (57 : UInt8)) rfl rfl rfl)) (gKt rfl (gA rfl (gE (gz hm [] rfl)))))
   exact gO rfl (gO rfl (gKf rfl (gA rfl (gE (gz hm [] rfl)))))
  repeat clear hm
  intro aA w hm
  exact gRt (gr1 results68 rfl ⟨rfl, hm.below⟩)
theorem strconv_Atoi_ok (w0 : World) (s_ : Str) :
    ConM Tryz.prog 164 [(.string ⟨(s_).b.toArray⟩)] w0 (strconv_Atoi s_) fun r v w' => v = (.tuple #[(nV r.1), .nilIface]) ∧ Below w0.heap.size w0 w' := atoi_con lays172 w0 s_
theorem impl_decimal_ok (w0 : World) (s_ : Str) (most : Int) :
    ConM Tryz.prog 121 [(.string ⟨(s_).b.toArray⟩), (nV most)] w0 (impl_decimal s_ most) fun r v w' => v = (nV r) ∧ Below w0.heap.size w0 w' := by
  unfold impl_decimal
  refine gcon func121 rfl fun r => ?_
  have hm := Mem.start w0
  refine gS (gR (gA rfl (gE (gS (gS (gJ hm (fun aA => [(0, (.string ⟨(s_).b.toArray⟩)), (1, (nV most)), (24, (.bool (aA)))]) (fun aA => []) (fun aA => ?_) ?_))))))
  ·
   refine gR (gM rfl (gY (yG rfl (y_eqls (p := s_) (q := (mkS [])) rfl rfl rfl)) (gM rfl (gsd 10 rfl (fun aD => ?_) fun aD => ?_))))
   ·
    exact gO rfl (gO rfl (gO rfl (gKt rfl (gM rfl (gO rfl (gO rfl (gO rfl (gO rfl (gO rfl (gO rfl (gO rfl (gO rfl (gKt rfl (gE (gz hm [] rfl)))))))))))))))
   refine gM rfl (gY (yG rfl (y_len_str (p := s_) underlying9 rfl rfl)) ?_)
   have aR := (s_).h
   refine gB rfl (gKf rfl (gM rfl (gsd 15 rfl (fun aE => ?_) fun aE => ?_)))
   ·
    exact gO rfl (gO rfl (gO rfl (gO rfl (gO rfl (gO rfl (gO rfl (gO rfl (gKt rfl (gE (gz hm [] rfl))))))))))
   refine gM rfl (gY (yG rfl (y_len_str (p := s_) underlying9 rfl rfl)) (gB rfl (gM rfl (gsd 19 rfl (fun aF => ?_) fun aF => ?_))))
   ·
    exact gM rfl (gg fun aG aH aI => gY (yG rfl (y_idx_str (p := s_) underlying9 rfl rfl rfl aH aI)) (gY (yG rfl (y_eql8 (b := aG) (c := (48 : UInt8)) rfl rfl rfl)) (gKt rfl (gKf rfl (gE (gz hm [] rfl))))))
   exact gO rfl (gO rfl (gO rfl (gKf rfl (gKf rfl (gE (gz hm [] rfl))))))
  repeat clear hm
  intro aA w hm
  refine gs 24 rfl (fun aJ => ?_) fun aJ => ?_
  ·
   exact gct rfl (gS (gR (gA rfl (gE (gRt (gr1 results121 rfl ⟨rfl, hm.below⟩))))))
  refine gcf rfl (gSk (gS (gS (gR (gM rfl (gY (yG rfl (y_len_str (p := s_) underlying9 rfl rfl)) ?_))))))
  have aS := (s_).h
  refine gM rfl (gE (gBk (gNf hm (fun aB aC => [(0, (.string ⟨(s_).b.toArray⟩)), (1, (nV most)), (26, (nV (((s_).b.length : Int)))), (27, (nV aB))]) (fun aB aC => []) [] rfl ?_ ?_)))
  ·
   repeat clear hm
   intro aT aK aB aC w hm aU aV aX aL
   refine gS (gR (gB rfl (gE (gS (go _ 28 rfl (decide_eq_true (by omega)) (gct rfl (gSk (gS (gBk (gS (gR (gM rfl (gA rfl (gE (gS (gR (gM rfl (gM rfl (gg fun aM aN aO => gY (yG rfl (y_idx_str (p := s_) underlying9 rfl rfl rfl aN aO)) (gC hm rfl call68 (impl_isDigit_ok _ aM) fun aY aZ w hm => gN rfl (gE (gsn 34 rfl (fun aP => ?_) fun aP => ?_))))))))))))))))))))))
   ·
    exact gct rfl (gS (gR (gA rfl (gE (gRt (gLr aL aK (gr1 results121 rfl ⟨rfl, hm.below⟩)))))))
   exact gcf rfl (gSk (gR (gP (by omega) (by omega) rfl (gM rfl (gE (gze hm [] rfl))))))
  repeat clear hm
  intro a8 aa w hm ab ac
  refine gS (gR (gB rfl (gE (gS (go _ 28 rfl (decide_eq_false (by omega)) (gcf rfl (gXt (gHh (gS (gR (gM rfl (gC hm rfl call164 (strconv_Atoi_ok _ s_) fun ae af w hm => gM rfl (gX rfl (gX rfl (gA rfl (gA rfl (gE (gS (gS (gR (gM rfl (gM rfl (gB rfl (gE (gsd 43 rfl (fun aQ => ?_) fun aQ => ?_)))))))))))))))))))))))))
  ·
   exact gct rfl (gS (gR (gA rfl (gE (gRt (gr1 results121 rfl ⟨rfl, hm.below⟩))))))
  exact gcf rfl (gSk (gS (gR (gM rfl (gA rfl (gE (gRt (gr1 results121 rfl ⟨rfl, hm.below⟩))))))))
theorem strings_Contains_ok (w0 : World) (s_ : Str) (substr : Str) :
    ConM Tryz.prog 122 [(.string ⟨(s_).b.toArray⟩), (.string ⟨(substr).b.toArray⟩)] w0 (strings_Contains s_ substr) fun r v w' => v = (.bool (r)) ∧ Below w0.heap.size w0 w' := contains_con lays144 w0 s_ substr
theorem impl_WordValid_ok (w0 : World) (w_ : Word_) (hG1 : GT.rep (hp w0) [.slice (some ⟨1, 0, none⟩) 9 9] glob_impl_keys) :
    ConM Tryz.prog 70 [(.agg #[(nV w_.kind), (.string ⟨(w_.text).b.toArray⟩)])] w0 (impl_WordValid w_) fun r v w' => v = (.bool (r)) ∧ Below w0.heap.size w0 w' := by
  unfold impl_WordValid
  refine gcon func70 rfl fun r => ?_
  have hm := Mem.start w0
  refine gS (gR (gBx hm rfl fun aB w hm => gA rfl (gE (gS (gS (gR (gF fo_56_0 rfl (gL hm 0 isAgg3 rfl (gE (gBk (gS (gR (gB rfl (gA rfl (gE (gsd 5 rfl (fun aC => ?_) fun aC => ?_))))))))))))))))
  ·
   exact gct rfl (gS (gR (gF fo_56_1 rfl (gL hm 0 isAgg9 rfl (gC hm rfl call90 (impl_IsName_ok _ w_.text (hm.now hG1)) fun aI aJ w hm => gA rfl (gE (gRt (gr1 results70 rfl ⟨rfl, hm.below⟩))))))))
  refine gcf rfl (gS (gR (gB rfl (gA rfl (gE (gsd 10 rfl (fun aD => ?_) fun aD => ?_))))))
  ·
   exact gct rfl (gS (gR (gF fo_56_1 rfl (gL hm 0 isAgg9 rfl (gC hm rfl call121 (impl_decimal_ok _ w_.text 255) fun aK aL w hm => gB rfl (gA rfl (gE (gRt (gr1 results70 rfl ⟨rfl, hm.below⟩)))))))))
  refine gcf rfl (gS (gR (gB rfl (gA rfl (gE (gsd 16 rfl (fun aE => ?_) fun aE => ?_))))))
  ·
   refine gct rfl (gS (gJ hm (fun aA => [(2, (.bool (aA)))]) (fun aA => []) (fun aA => ?_) ?_))
   ·
    refine gR (gF fo_56_1 rfl (gL hm 0 isAgg9 rfl (gY (yG rfl (y_len_str (p := w_.text) underlying9 rfl rfl)) ?_)))
    have aM := (w_.text).h
    refine gB rfl (gM rfl (gsd 22 rfl (fun aF => ?_) fun aF => ?_))
    ·
     exact gF fo_56_1 rfl (gL hm 0 isAgg9 rfl (gC hm rfl call122 (strings_Contains_ok _ (mkS [40, 41, 123, 125, 59, 44, 43, 45, 42, 47, 37, 60, 61, 38, 33, 64]) w_.text) fun aN aO w hm => gKt rfl (gA rfl (gE (gz hm [] rfl)))))
    exact gO rfl (gO rfl (gO rfl (gKf rfl (gA rfl (gE (gz hm [] rfl))))))
   repeat clear hm
   intro aA w hm
   exact gRt (gr1 results70 rfl ⟨rfl, hm.below⟩)
  refine gcf rfl (gS (gR (gB rfl (gA rfl (gE (gsd 27 rfl (fun aG => ?_) fun aG => ?_))))))
  ·
   refine gct rfl (gS (gW (.p 0 (.p 1 (.e 2 (.e 3 (.p 4 .fin) .nil) .nil))) [] [0, 1, 4] hm [0] [blk aB [(nV w_.kind), (.string ⟨(w_.text).b.toArray⟩)] 56] rfl mxo (by kernel_rfl) (fun _ _ _ h => h.2) fun w hm hS => tP rfl (fun w => yG rfl (y_slcArr (n := 9) underlying129 rfl rfl sizeOf9)) (tP rfl (fun w => yF fo_56_1 rfl) (tO (tY rfl (yL hm 0 isAgg9 rfl) (tAn rfl (tO (gb fun aP aH => tf rfl rfl (fun a hf => e_call hf rfl call120 rfl (slices_Contains_S_string_string_ok _ glob_impl_keys (sV 1 0 9 9) (hm.now hG1) w_.text _ aH)) ?_))))))))
   rintro aQ w ⟨rfl, hB⟩
   replace hm := hm.below' hB; clear hB
   exact tAn rfl (tP rfl (fun w => yA rfl) (tE (gRt (gr1 results70 rfl ⟨rfl, hm.below⟩))))
  exact gcf rfl (gSk (gS (gR (gA rfl (gE (gRt (gr1 results70 rfl ⟨rfl, hm.below⟩)))))))
theorem strings_Join_ok (w0 : World) (elems : List Str) (v1 : Value) (h1 : GT.rep (hp w0) [v1] elems) (sep : Str) :
    ConM Tryz.prog 98 [v1, (.string ⟨(sep).b.toArray⟩)] w0 (strings_Join elems sep) fun r v w' => v = (.string ⟨(r).b.toArray⟩) ∧ Below w0.heap.size w0 w' := join_con lays156 bx w0 elems v1 h1 sep
theorem impl_JoinWords_ok (w0 : World) (list : List Word_) (v1 : Value) (h1 : GT.rep (hp w0) [v1] list) (hG1 : GT.rep (hp w0) [.slice (some ⟨1, 0, none⟩) 9 9] glob_impl_keys) :
    ConM Tryz.prog 42 [v1] w0 (impl_JoinWords list) fun r v w' => v = (.tuple #[(.string ⟨(r.1).b.toArray⟩), (.bool (r.2))]) ∧ Below w0.heap.size w0 w' := by
  unfold impl_JoinWords
  refine gcon func42 rfl fun r => ?_
  have hm := Mem.start w0
  refine gS (gR (gA rfl (gA rfl (gE (gS (gS (gR (gM rfl ?_))))))))
  obtain ⟨aK, aL, rfl, aY⟩ := ro_slice h1
  refine gY (yV st_41 rfl) (gB rfl (gE (gsd 10 rfl (fun aM => ?_) fun aM => ?_)))
  ·
   exact gct rfl (gS (gR (gA rfl (gA rfl (gE (gRt (gr2 results42 rfl ⟨rfl, hm.below⟩)))))))
  refine gcf rfl (gSk (gS (gR (gM rfl (gY (yV st_41 rfl) (gb fun aB aN => ?_))))))
  obtain ⟨⟨aO, aP⟩, aI⟩ := makeM_some.1 aN
  refine gf rfl (fun a hf => e_make (x0 := ((mkS []) : Str)) et_74 (fun _ => (Flat.own_iff.2 rfl)) hf hm rfl rfl rfl aO (Int.le_refl _) aP) ?_
  rintro aZ w hm
  rw [aI] at hm
  have h0_2l : (aB.length : Int) = (list.length : Int) := by rw [← aI]; simp only [List.length_replicate]; omega
  refine gA rfl (gE (gS (gS (gR (gM rfl (gY (yV st_41 rfl) (gM rfl (gE ?_))))))))
  obtain ⟨aD, aE, rfl, a8⟩ := ro_slice (hm.ow_rep 0 rfl)
  refine gBk (gNf hm (fun aF aG => [(4, (.slice aD aB.length aE)), (14, (.slice aK list.length aL)), (15, (nV ((list.length : Int)))), (16, (nV aF))]) (fun aF aG => [ow [(.slice aD aB.length aE)] aG]) [0] rfl ?_ ?_)
  ·
   repeat clear hm
   intro aa aQ aF aG w hm ab ac ae aR
   refine gS (gR (gB rfl (gE (gS (go _ 17 rfl (decide_eq_true (by omega)) (gct rfl (gSk (gS (gBk (gS (gR (gM rfl (gg fun aA aS aH => ?_)))))))))))))
   obtain ⟨af, ag, ah, he⟩ := idx_form h1 aH
   obtain ⟨rfl, _, rfl⟩ := sl3 he
   refine gI st_41 aS (idx_lt aH) rfl (gY (yn (flat_cells (cs := [(nV aA.kind), (.string ⟨(aA.text).b.toArray⟩)]) (hm.now h1) aH rfl) isAgg56 sizeOf56 rfl) (gAl hm zeroValue56 rfl fun ai w hm => gA rfl (gSN hm 0 sizeOf56 (one_cons rfl (one_cons rfl one_nil)) rfl fun w hm => gE (gS (gS (gR (gY (yn (hm.blk_at 0 rfl) isAgg56 sizeOf56 rfl) (gC hm rfl call70 (impl_WordValid_ok _ aA (hm.now hG1)) fun aj ak w hm => gN rfl (gE (gsn 23 rfl (fun aT => ?_) fun aT => ?_))))))))))
   ·
    exact gct rfl (gS (gR (gA rfl (gA rfl (gE (gRt (gLr aR aQ (gr2 results42 rfl ⟨rfl, hm.below⟩))))))))
   refine gcf rfl (gSk (gR (gM rfl (gM rfl (gF fo_56_1 rfl (gL hm 0 isAgg9 rfl (gg fun al aU aC => ?_)))))))
   obtain ⟨am, an, ao, he⟩ := idx_form (hm.ow_rep 1 rfl) aC
   obtain ⟨rfl, _, rfl⟩ := sl3 he
   have hL1_1 := rep_slice_len (hm.ow_rep 1 rfl)
   refine gI st_74 aU (idx_lt2 aC hL1_1) rfl (gf0 rfl (fun a hf => e_setElem (x1 := aA.text) (j := 0) (vs := [(.string ⟨(aA.text).b.toArray⟩)]) 1 hf hm rfl aC rfl sizeOf9 rfl rfl rfl (one_cons rfl one_nil) rfl rfl) ?_)
   rintro _ w hm
   have aq := List.getElem?_set_self (a := aA.text) (idx_lt aC)
   exact gE (gR (gP (by omega) (by omega) rfl (gM rfl (gE (gze hm [1] rfl)))))
  repeat clear hm
  intro ar aV w hm au av
  refine gS (gR (gB rfl (gE (gS (go _ 17 rfl (decide_eq_false (by omega)) (gcf rfl (gXt (gHh (gS (gR (gM rfl (gC hm rfl call98 (strings_Join_ok _ aV (.slice aD aB.length aE) (hm.ow_rep 0 rfl) (mkS [32])) fun aJ aw w hm => gA rfl (gE (gS (gS (gR (gM rfl (gY (yG rfl (y_len_str (p := aJ) underlying9 rfl rfl)) ?_))))))))))))))))))
  have ax := (aJ).h
  refine gB rfl (gE (gsd 34 rfl (fun aX => ?_) fun aX => ?_))
  ·
   exact gct rfl (gS (gR (gA rfl (gA rfl (gE (gRt (gr2 results42 rfl ⟨rfl, hm.below⟩)))))))
  exact gcf rfl (gSk (gS (gR (gM rfl (gA rfl (gA rfl (gE (gRt (gr2 results42 rfl ⟨rfl, hm.below⟩)))))))))
theorem impl_ExprText_ok (w0 : World) (e : Expr_) (v1 : Value) (h1 : GT.rep (hp w0) [v1] e.kids) (hG0 : GT.rep (hp w0) [.slice (some ⟨0, 0, none⟩) 1 1] [glob_impl_opSign]) (hG1 : GT.rep (hp w0) [.slice (some ⟨1, 0, none⟩) 9 9] glob_impl_keys) (hG4 : GT.rep (hp w0) [.pointer (some ⟨4, 0, none⟩)] glob_strconv_uint64pow10) :
    ConM Tryz.prog 23 [(.agg #[(nV e.op), (nV e.n_), (.string ⟨(e.name).b.toArray⟩), v1])] w0 (impl_ExprText e) fun r v w' => v = (.tuple #[(.string ⟨(r.1).b.toArray⟩), (.bool (r.2))]) ∧ Below w0.heap.size w0 w' := by
  unfold impl_ExprText
  refine gcon func23 rfl fun r => ?_
  have hm := Mem.start w0
  refine gS (gR (gBx hm rfl fun aA w hm => gA rfl (gA rfl (gE (gS (gS (gR (gY (yn (hm.blk_at 0 rfl) isAgg24 sizeOf24 rfl) (gC hm rfl call21 (impl_ExprValid_ok _ e v1 (hm.now h1) (hm.now hG0) (hm.now hG1)) fun aG aH w hm => gN rfl (gE (gsn 6 rfl (fun aB => ?_) fun aB => ?_)))))))))))
  ·
   exact gct rfl (gS (gR (gA rfl (gA rfl (gE (gRt (gr2 results23 rfl ⟨rfl, hm.below⟩)))))))
  refine gcf rfl (gSk (gS (gR (gY (yn (hm.blk_at 0 rfl) isAgg24 sizeOf24 rfl) ?_))))
  replace hm := hm.nilow (α := Word_)
  obtain ⟨aC, hle, hm1, hsub, aD⟩ := hm.take2 (L1 := [ow [(.slice none 0 0)] ([] : List Word_)]) (L2 := [blk aA [(nV e.op), (nV e.n_), (.string ⟨(e.name).b.toArray⟩), v1] 24]) [0] [1] (by decide) rfl rfl
  refine gCg rfl call60 (impl_exprWords_ok _ aC ([] : List Word_) (.slice none 0 0) e v1 (GT.mono hle h1) false hm1 (GT.mono hle hG0) (GT.mono hle hG4)) ?_
  rintro aE aI aF w ⟨_, rfl, hB⟩
  replace hm := aD _ _ hB; clear hB
  exact gC hm rfl call42 (impl_JoinWords_ok _ aE aF (hm.ow_rep 0 rfl) (hm.now hG1)) fun aJ aK w hm => gX rfl (gX rfl (gA rfl (gA rfl (gE (gRt (gr2 results23 rfl ⟨rfl, hm.below⟩))))))
theorem impl_CutWords_1_ok (w0 : World) (p0 : UInt8) :
    ConM Tryz.prog 66 [(.int .u8 ((p0).toNat : Int))] w0 (impl_CutWords_1 p0) fun r v w' => v = (.bool (r)) ∧ Below w0.heap.size w0 w' := by
  unfold impl_CutWords_1
  refine gcon func66 rfl fun r => ?_
  have hm := Mem.start w0
  exact gS (gR (gA rfl (gE (gS (gR (gA rfl (gE (gRt (gr1 results66 rfl ⟨rfl, hm.below⟩)))))))))
theorem impl_isLetter_ok (w0 : World) (b_ : UInt8) :
    ConM Tryz.prog 67 [(.int .u8 ((b_).toNat : Int))] w0 (impl_isLetter b_) fun r v w' => v = (.bool (r)) ∧ Below w0.heap.size w0 w' := by
  unfold impl_isLetter
  refine gcon func67 rfl fun r => ?_
  have hm := Mem.start w0
  refine gS (gR (gA rfl (gE (gS (gJ hm (fun aA => [(2, (.bool (aA)))]) (fun aA => []) (fun aA => ?_) ?_)))))
  ·
   refine gR (gM rfl (gY (yG rfl (y_leq8 (b := (97 : UInt8)) (c := b_) rfl rfl rfl)) (gM rfl (gsd 5 rfl (fun aB => ?_) fun aB => ?_))))
   ·
    exact gM rfl (gY (yG rfl (y_leq8 (b := b_) (c := (122 : UInt8)) rfl rfl rfl)) (gKt rfl (gA rfl (gE (gz hm [] rfl)))))
   exact gO rfl (gO rfl (gKf rfl (gA rfl (gE (gz hm [] rfl)))))
  repeat clear hm
  intro aA w hm
  exact gRt (gr1 results67 rfl ⟨rfl, hm.below⟩)
theorem impl_wordOf_ok (w0 : World) (s_ : Str) (hG1 : GT.rep (hp w0) [.slice (some ⟨1, 0, none⟩) 9 9] glob_impl_keys) :
    ConM Tryz.prog 69 [(.string ⟨(s_).b.toArray⟩)] w0 (impl_wordOf s_) fun r v w' => v = (.agg #[(nV r.kind), (.string ⟨(r.text).b.toArray⟩)]) ∧ Below w0.heap.size w0 w' := by
  unfold impl_wordOf
  refine gcon func69 rfl fun r => ?_
  have hm := Mem.start w0
  refine gS (gR (gAl hm zeroValue56 rfl fun aJ w hm => gE (gS (gBk (gS (gR (gM rfl (gg fun aA aB aC => gY (yG rfl (y_idx_str (p := s_) underlying9 rfl rfl rfl aB aC)) (gC hm rfl call68 (impl_isDigit_ok _ aA) fun aK aL w hm => gA rfl (gE (gs 3 rfl (fun aD => ?_) fun aD => ?_)))))))))))
  ·
   exact gct rfl (gS (gR (gM rfl (gY (yG rfl (y_build (vs := [(0, (nV 2)), (1, (.string ⟨(s_).b.toArray⟩))]) (cs := #[(nV 2), (.string ⟨(s_).b.toArray⟩)]) rfl rfl (by kernel_rfl))) (gSN hm 0 sizeOf56 (one_cons rfl (one_cons rfl one_nil)) rfl fun w hm => gE (gRt (grc 0 results69 hm rfl isAgg56 sizeOf56 ⟨rfl, hm.below⟩)))))))
  refine gcf rfl (gS (gR (gY (yG rfl (y_slcArr (n := 9) underlying129 rfl rfl sizeOf9)) (gM rfl (gC hm rfl call120 (slices_Contains_S_string_string_ok _ glob_impl_keys (sV 1 0 9 9) (hm.now hG1) s_) fun aM aN w hm => gA rfl (gE (gs 9 rfl (fun aE => ?_) fun aE => ?_)))))))
  ·
   exact gct rfl (gS (gR (gM rfl (gY (yG rfl (y_build (vs := [(0, (nV 4)), (1, (.string ⟨(s_).b.toArray⟩))]) (cs := #[(nV 4), (.string ⟨(s_).b.toArray⟩)]) rfl rfl (by kernel_rfl))) (gSN hm 0 sizeOf56 (one_cons rfl (one_cons rfl one_nil)) rfl fun w hm => gE (gRt (grc 0 results69 hm rfl isAgg56 sizeOf56 ⟨rfl, hm.below⟩)))))))
  refine gcf rfl (gS (gR (gM rfl (gg fun aF aG aH => gY (yG rfl (y_idx_str (p := s_) underlying9 rfl rfl rfl aG aH)) (gC hm rfl call67 (impl_isLetter_ok _ aF) fun aO aP w hm => gA rfl (gE (gs 15 rfl (fun aI => ?_) fun aI => ?_)))))))
  ·
   exact gct rfl (gS (gR (gM rfl (gY (yG rfl (y_build (vs := [(0, (nV 1)), (1, (.string ⟨(s_).b.toArray⟩))]) (cs := #[(nV 1), (.string ⟨(s_).b.toArray⟩)]) rfl rfl (by kernel_rfl))) (gSN hm 0 sizeOf56 (one_cons rfl (one_cons rfl one_nil)) rfl fun w hm => gE (gRt (grc 0 results69 hm rfl isAgg56 sizeOf56 ⟨rfl, hm.below⟩)))))))
  exact gcf rfl (gSk (gS (gR (gM rfl (gY (yG rfl (y_build (vs := [(0, (nV 3)), (1, (.string ⟨(s_).b.toArray⟩))]) (cs := #[(nV 3), (.string ⟨(s_).b.toArray⟩)]) rfl rfl (by kernel_rfl))) (gSN hm 0 sizeOf56 (one_cons rfl (one_cons rfl one_nil)) rfl fun w hm => gE (gRt (grc 0 results69 hm rfl isAgg56 sizeOf56 ⟨rfl, hm.below⟩))))))))
theorem impl_CutWords_ok (w0 : World) (s_ : Str) (hG1 : GT.rep (hp w0) [.slice (some ⟨1, 0, none⟩) 9 9] glob_impl_keys) :
    ConM Tryz.prog 29 [(.string ⟨(s_).b.toArray⟩)] w0 (impl_CutWords s_) fun r v w' => ∃ (x1 : Value), v = (.tuple #[x1, (.bool (r.2))]) ∧ Mem w0 (hp w0) w' [ow [x1] r.1] := by
  unfold impl_CutWords
  refine gcon func29 rfl fun r => ?_
  have hm := Mem.start w0
  refine gS (gR (gA rfl (gA rfl (gE (gS (gS (gR (gM rfl (gY (yG rfl (y_len_str (p := s_) underlying9 rfl rfl)) ?_)))))))))
  have bR := (s_).h
  refine gB rfl (gE (gsd 11 rfl (fun aY => ?_) fun aY => ?_))
  ·
   refine gct rfl (gS (gR (gA rfl (gA rfl (gE (gRt ?_))))))
   replace hm := hm.nilow (α := Word_)
   exact gr2 results29 rfl ⟨(.slice none 0 0), rfl, hm.pk [0] rfl rfl⟩
  refine gcf rfl (gSk (gS (gR (gA rfl (gE (gS (gS (gR (gA rfl (gE (gJge (fun aT a w => ∃ (aH : Value), St 72 [(4, aH)] w0 (hp w0) [ow [aH] aT] a w) (fun bS aZ => ?_) ?_)))))))))))
  ·
   refine gBk ?_
   replace hm := hm.nilow (α := Word_)
   refine gMg (fun aA a w => ∃ (aB : Value), St 72 [(0, (.string ⟨(s_).b.toArray⟩)), (4, aB), (5, (nV aA.2))] w0 (hp w0) [ow [aB] aA.1] a w) (fun a hf => ⟨(.slice none 0 0), hf.sb rfl, hm.pk [0] rfl rfl⟩) ?_
   repeat clear hm
   rintro bT aU aA a w ⟨aB, hf, hm⟩ bU aV
   refine gv hf (gS (gS (gR (gM rfl (gM rfl (gY (yG rfl (y_len_str (p := s_) underlying9 rfl rfl)) (gB rfl (gE (gsd 15 rfl (fun a8 => ?_) fun a8 => ?_)))))))))
   ·
    refine gct rfl (gSk (gJge (fun aP a w => ∃ (aI : Value), St 72 [(0, (.string ⟨(s_).b.toArray⟩)), (4, aI), (5, (nV aP.2))] w0 (hp w0) [ow [aI] aP.1] a w) (fun bV aa => ?_) ?_))
    ·
     refine gBk (gS (gS (gJ hm (fun aJ => [(0, (.string ⟨(s_).b.toArray⟩)), (4, aB), (5, (nV aA.2)), (25, (.bool (aJ)))]) (fun aJ => [ow [aB] aA.1]) (fun aJ => ?_) ?_)))
     ·
      refine gR (gM rfl (gM rfl (gg fun ab ac ae => gY (yG rfl (y_idx_str (p := s_) underlying9 rfl rfl rfl ac ae)) (gY (yG rfl (y_eql8 (b := ab) (c := (32 : UInt8)) rfl rfl rfl)) (gM rfl (gsd 20 rfl (fun af => ?_) fun af => ?_))))))
      ·
       exact gO rfl (gO rfl (gO rfl (gO rfl (gKt rfl (gE (gz hm [0] rfl))))))
      exact gM rfl (gM rfl (gg fun ag ah ai => gY (yG rfl (y_idx_str (p := s_) underlying9 rfl rfl rfl ah ai)) (gY (yG rfl (y_eql8 (b := ag) (c := (10 : UInt8)) rfl rfl rfl)) (gKf rfl (gE (gz hm [0] rfl))))))
     repeat clear hm
     intro aJ w hm
     refine gs 25 rfl (fun aj => ?_) fun aj => ?_
     ·
      exact gct rfl (gS (gR (gM rfl (gB rfl (gA rfl (gE (gXt (gHh (gZe fun a hf => ⟨aB, hf.sb rfl, hm.pk [0] rfl rfl⟩)))))))))
     refine gcf rfl (gSk (gS (gR (gA rfl (gE (gS (gJg (fun aQ a w => ∃ (aF : Value), (∀ (w : World) (y0 : UInt8) (r : Bool), Below w0.heap.size w0 w → aQ y0 = some r → FnOk Tryz.prog aF [(.int .u8 ((y0).toNat : Int))] w (fun v w' => v = (.bool (r)) ∧ Below w.heap.size w w')) ∧ St 72 [(0, (.string ⟨(s_).b.toArray⟩)), (4, aB), (5, (nV aA.2)), (6, aF)] w0 (hp w0) [ow [aB] aA.1] a w) (fun aQ => ?_) ?_)))))))
     ·
      refine gBk (gS (gR (gM rfl (gM rfl (gg fun ak al am => gY (yG rfl (y_idx_str (p := s_) underlying9 rfl rfl rfl al am)) (gC hm rfl call67 (impl_isLetter_ok _ ak) fun bW bX w hm => gA rfl (gE (gJg (fun aR a w => ∃ (aK : Value), (∀ (w : World) (y0 : UInt8) (r : Bool), Below w0.heap.size w0 w → aR y0 = some r → FnOk Tryz.prog aK [(.int .u8 ((y0).toNat : Int))] w (fun v w' => v = (.bool (r)) ∧ Below w.heap.size w w')) ∧ St 72 [(0, (.string ⟨(s_).b.toArray⟩)), (4, aB), (5, (nV aA.2)), (6, aK)] w0 (hp w0) [ow [aB] aA.1] a w) (fun aR => ?_) ?_))))))))
      ·
       refine gs 28 rfl (fun an => ?_) fun an => ?_
       ·
        exact gct rfl (gR (gA rfl (gE (gZ fun a hf => ⟨(.func (.func 67) #[] #[]), (fun w y0 r _ hq => ⟨67, [], rfl, call67, impl_isLetter_ok w y0 r hq⟩), hf.sb rfl, hm.pk [0] rfl rfl⟩))))
       refine gcf rfl (gS (gR (gM rfl (gM rfl (gg fun ao aq ar => gY (yG rfl (y_idx_str (p := s_) underlying9 rfl rfl rfl aq ar)) (gC hm rfl call68 (impl_isDigit_ok _ ao) fun bY bZ w hm => gA rfl (gE (gJg (fun aS a w => ∃ (aL : Value), (∀ (w : World) (y0 : UInt8) (r : Bool), Below w0.heap.size w0 w → aS y0 = some r → FnOk Tryz.prog aL [(.int .u8 ((y0).toNat : Int))] w (fun v w' => v = (.bool (r)) ∧ Below w.heap.size w w')) ∧ St 72 [(0, (.string ⟨(s_).b.toArray⟩)), (4, aB), (5, (nV aA.2)), (6, aL)] w0 (hp w0) [ow [aB] aA.1] a w) (fun aS => ?_) ?_))))))))
       ·
        refine gs 33 rfl (fun au => ?_) fun au => ?_
        ·
         exact gct rfl (gR (gA rfl (gE (gZ fun a hf => ⟨(.func (.func 68) #[] #[]), (fun w y0 r _ hq => ⟨68, [], rfl, call68, impl_isDigit_ok w y0 r hq⟩), hf.sb rfl, hm.pk [0] rfl rfl⟩))))
        exact gcf rfl (gSk (gZ fun a hf => ⟨(.func (.func 66) #[] #[]), (fun w y0 r _ hq => ⟨66, [], rfl, call66, impl_CutWords_1_ok w y0 r hq⟩), hf.sb rfl, hm.pk [0] rfl rfl⟩))
       repeat clear hm
       rintro aS a w ⟨aL, av, hf, hm⟩
       exact gv hf (gZ fun a hf => ⟨aL, av, hf.sb rfl, hm.pk [0] rfl rfl⟩)
      repeat clear hm
      rintro aR a w ⟨aK, aw, hf, hm⟩
      exact gv hf (gZ fun a hf => ⟨aK, aw, hf.sb rfl, hm.pk [0] rfl rfl⟩)
     repeat clear hm
     rintro aQ a w ⟨aF, ax, hf, hm⟩
     refine gv hf (gS (gR (gM rfl (gB rfl (gA rfl (gE (gS ?_)))))))
     obtain ⟨aC, aD, rfl, b8⟩ := ro_slice (hm.ow_rep 0 rfl)
     refine gJ hm (fun aG => [(0, (.string ⟨(s_).b.toArray⟩)), (4, (.slice aC aA.1.length aD)), (5, (nV aA.2)), (7, (nV aG))]) (fun aG => [ow [(.slice aC aA.1.length aD)] aA.1]) (fun aG => ?_) ?_
     ·
      refine gBk (gMf hm (fun aM => [(0, (.string ⟨(s_).b.toArray⟩)), (4, (.slice aC aA.1.length aD)), (5, (nV aA.2)), (6, aF), (7, (nV aM))]) (fun aM => [ow [(.slice aC aA.1.length aD)] aA.1]) [0] rfl ?_)
      repeat clear hm
      intro b9 ay aM w hm bc az
      refine gS (gS (gJ hm (fun aN => [(0, (.string ⟨(s_).b.toArray⟩)), (4, (.slice aC aA.1.length aD)), (5, (nV aA.2)), (6, aF), (7, (nV aM)), (50, (.bool (aN)))]) (fun aN => [ow [(.slice aC aA.1.length aD)] aA.1]) (fun aN => ?_) ?_))
      ·
       refine gR (gM rfl (gM rfl (gY (yG rfl (y_len_str (p := s_) underlying9 rfl rfl)) (gB rfl (gM rfl (gsd 44 rfl (fun bA => ?_) fun bA => ?_))))))
       ·
        refine gM rfl (gM rfl (gM rfl (gg fun bB bC bD => gY (yG rfl (y_idx_str (p := s_) underlying9 rfl rfl rfl bC bD)) (gb fun bd bE => gf rfl (fun a hf => e_callv hf rfl rfl rfl (ax _ bB _ hm.below bE)) ?_))))
        rintro be w ⟨rfl, hB⟩
        replace hm := hm.below' hB; clear hB
        exact gKt rfl (gE (gz hm [0] rfl))
       exact gO rfl (gO rfl (gO rfl (gO rfl (gO rfl (gKf rfl (gE (gz hm [0] rfl)))))))
      repeat clear hm
      intro aN w hm
      refine gs 50 rfl (fun bF => ?_) fun bF => ?_
      ·
       exact gct rfl (gSk (gBk (gR (gM rfl (gB rfl (gA rfl (gE (gze hm [0] rfl))))))))
      exact gcf rfl (gXt (gHh (gLp az ay (gz hm [0] rfl))))
     repeat clear hm
     intro aG w hm
     refine gS (gR (gM rfl (gM rfl (gM rfl (gb fun bG bH => ?_)))))
     obtain ⟨bJ, bK⟩ := subS_some.1 bH
     refine gY (yG rfl (y_subs (s := s_) underlying9 rfl rfl rfl rfl bJ _)) ?_
     rw [bK]
     refine gC hm rfl call69 (impl_wordOf_ok _ bG (hm.now hG1)) fun aE bf w hm => gAl hm zeroValue56 rfl fun aX w hm => gSN hm 0 sizeOf56 (one_cons rfl (one_cons rfl one_nil)) rfl fun w hm => gE (gS (gS (gJ hm (fun aO => [(0, (.string ⟨(s_).b.toArray⟩)), (4, (.slice aC aA.1.length aD)), (7, (nV aG)), (8, (pV aX)), (65, (.bool (aO)))]) (fun aO => [ow [(.slice aC aA.1.length aD)] aA.1, blk aX [(nV aE.kind), (.string ⟨(aE.text).b.toArray⟩)] 56]) (fun aO => ?_) ?_)))
     ·
      refine gR (gY (yn (hm.blk_at 0 rfl) isAgg56 sizeOf56 rfl) (gC hm rfl call70 (impl_WordValid_ok _ aE (hm.now hG1)) fun bg bh w hm => gN rfl (gM rfl (gsn 61 rfl (fun bL => ?_) fun bL => ?_))))
      ·
       exact gO rfl (gO rfl (gO rfl (gKt rfl (gE (gz hm [1, 0] rfl)))))
      exact gM rfl (gY (yV st_41 rfl) (gB rfl (gKf rfl (gE (gz hm [1, 0] rfl)))))
     repeat clear hm
     intro aO w hm
     refine gs 65 rfl (fun bM => ?_) fun bM => ?_
     ·
      refine gct rfl (gS (gR (gA rfl (gA rfl (gE (gRt (gEr aa (gLp aV aU (gl (gEr aZ ?_))))))))))
      replace hm := hm.nilow (α := Word_)
      exact gr2 results29 rfl ⟨(.slice none 0 0), rfl, hm.pk [0] rfl rfl⟩
     refine gcf rfl (gSk (gS (gR (gM rfl (gY (yn (hm.blk_at 1 rfl) isAgg56 sizeOf56 rfl) (gf rfl (fun a hf => e_build (vs := #[(0, (.agg #[(nV aE.kind), (.string ⟨(aE.text).b.toArray⟩)]))]) (cs := [(nV aE.kind), (.string ⟨(aE.text).b.toArray⟩)]) et_41 hf hm rfl rfl (by kernel_rfl) rfl rfl) ?_))))))
     rintro _ w ⟨bi, rfl, hm⟩
     replace hm := hm.lit (xs := ([aE] : List Word_)) 0 rfl rfl rfl rfl
     refine gb fun bj bN => ?_
     obtain ⟨bO, bP⟩ := appM_some.1 bN
     refine gf rfl (fun a hf => e_append 1 et_41 hf hm rfl (hm.ow_rep 0 rfl) rfl rfl rfl bO) ?_
     rintro bQ w hm
     rw [bP] at hm
     exact gA rfl (gE (gR (gM rfl (gA rfl (gE (gZe fun a hf => ⟨bQ, hf.sb rfl, hm.pk [1] rfl rfl⟩))))))
    repeat clear hm
    rintro aP a w ⟨aI, hf, hm⟩
    exact gv hf (gZe fun a hf => ⟨aI, hf.sb rfl, hm.pk [0] rfl rfl⟩)
   exact gcf rfl (gXt (gHh (gLp aV aU (gr (gZe fun a hf => ⟨aB, hf.sb rfl, hm.pk [0] rfl rfl⟩)))))
  repeat clear hm
  rintro aT a w ⟨aH, hf, hm⟩
  exact gv hf (gS (gR (gM rfl (gA rfl (gA rfl (gE (gRt (gr2 results29 rfl ⟨aH, rfl, hm.pk [0] rfl rfl⟩))))))))
theorem pimpl_wordReader__peek_ok (w0 : World) (r_ : wordReader) (bp0 : Nat) (v1p : Value) (h1p : GT.rep (hp w0) [v1p] r_.list) (hbbp0 : (hp w0) bp0 = some (.cells ([v1p, (.bool (r_.bad))] : List Value).toArray 63 (0, 0))) :
    ConM Tryz.prog 105 [(pV bp0)] w0 (pimpl_wordReader__peek r_) fun r v w' => v = (.agg #[(nV r.kind), (.string ⟨(r.text).b.toArray⟩)]) ∧ Below w0.heap.size w0 w' := by
  unfold pimpl_wordReader__peek
  refine gcon func105 rfl fun r => ?_
  have hm := Mem.start w0
  refine gS (gR (gAl hm zeroValue56 rfl fun aE w hm => gE (gS (gS (gR (gM rfl (gY (yG rfl (y_nilptr rfl rfl)) (gF fo_63_0 rfl (gY (yl isAgg41 (hm.hz_cell hbbp0 rfl) rfl) ?_)))))))))
  obtain ⟨aF, aG, rfl, aH⟩ := ro_slice h1p
  refine gY (yV st_41 rfl) (gB rfl (gE (gsd 8 rfl (fun aC => ?_) fun aC => ?_)))
  ·
   exact gct rfl (gS (gR (gY (yG rfl (y_build (vs := []) (cs := #[(nV 0), (.string ⟨((mkS [])).b.toArray⟩)]) rfl rfl (by kernel_rfl))) (gSN hm 0 sizeOf56 (one_cons rfl (one_cons rfl one_nil)) rfl fun w hm => gE (gRt (grc 0 results105 hm rfl isAgg56 sizeOf56 ⟨rfl, hm.below⟩))))))
  refine gcf rfl (gSk (gS (gR (gM rfl (gY (yG rfl (y_nilptr rfl rfl)) (gF fo_63_0 rfl (gY (yl isAgg41 (hm.hz_cell hbbp0 rfl) rfl) (gg fun aB aD aA => ?_))))))))
  obtain ⟨aI, aJ, aK, he⟩ := idx_form h1p aA
  obtain ⟨rfl, _, rfl⟩ := sl3 he
  exact gI st_41 aD (idx_lt aA) rfl (gY (yn (flat_cells (cs := [(nV aB.kind), (.string ⟨(aB.text).b.toArray⟩)]) (hm.now h1p) aA rfl) isAgg56 sizeOf56 rfl) (gSN hm 0 sizeOf56 (one_cons rfl (one_cons rfl one_nil)) rfl fun w hm => gE (gRt (grc 0 results105 hm rfl isAgg56 sizeOf56 ⟨rfl, hm.below⟩))))
theorem pimpl_wordReader__next_ok (w0 : World) (hz : Heap) (r_ : wordReader) (bp0 : Nat) (v1p : Value) (hm0 : Mem w0 hz w0 [blk bp0 [v1p, (.bool (r_.bad))] 63, ow [v1p] r_.list]) :
    ConM Tryz.prog 106 [(pV bp0)] w0 (pimpl_wordReader__next r_) fun r v w' => ∃ (x1 : Value), v = (.agg #[(nV r.1.kind), (.string ⟨(r.1.text).b.toArray⟩)]) ∧ Mem w0 hz w' [blk bp0 [x1, (.bool (r.2.bad))] 63, ow [x1] r.2.list] := by
  unfold pimpl_wordReader__next
  refine gcon func106 rfl fun r => ?_
  have hm := hm0
  refine gS (gR (gAl hm zeroValue56 rfl fun aD w hm => gE (gS (gR (gM rfl (gC hm rfl call105 (pimpl_wordReader__peek_ok _ r_ bp0 v1p (hm.ow_rep 2 rfl) (hm.blk_cells 1 rfl).1) fun aE aP w hm => gAl hm zeroValue56 rfl fun aF w hm => gSN hm 0 sizeOf56 (one_cons rfl (one_cons rfl one_nil)) rfl fun w hm => gE (gS (gS (gR (gM rfl (gY (yG rfl (y_nilptr rfl rfl)) (gF fo_63_0 rfl (gL hm 2 isAgg41 rfl ?_)))))))))))))
  obtain ⟨aG, aH, rfl, aQ⟩ := ro_slice (hm.ow_rep 3 rfl)
  refine gY (yV st_41 rfl) (gB rfl (gE (gJg (fun aA a w => ∃ (aB : Value), St 24 [(2, (pV aD)), (3, (pV aF))] w0 hz [blk aD [(nV 0), (.string ⟨((mkS [])).b.toArray⟩)] 56, blk aF [(nV aE.kind), (.string ⟨(aE.text).b.toArray⟩)] 56, blk bp0 [aB, (.bool (aA.2))] 63, ow [aB] aA.1] a w) (fun aA => ?_) ?_)))
  ·
   refine gsd 11 rfl (fun aL => ?_) fun aL => ?_
   ·
    exact gct rfl (gR (gM rfl (gY (yG rfl (y_nilptr rfl rfl)) (gF fo_63_1 rfl (gS1 hm 2 sizeOf4 rfl rfl fun w hm => gE (gZ fun a hf => ⟨(.slice aG r_.list.length aH), hf.sb rfl, hm.pk [1, 0, 2, 3] rfl rfl⟩))))))
   refine gcf rfl (gR (gM rfl (gM rfl (gY (yG rfl (y_nilptr rfl rfl)) (gF fo_63_0 rfl (gL hm 2 isAgg41 rfl (gb fun aM aN => ?_)))))))
   obtain ⟨aI, aJ⟩ := subM_some.1 aN
   have aO := (hm.ow_rep 3 rfl)
   obtain ⟨aK, aC⟩ : ∃ nv, nv = subV (GT.sz (Word_)) (.slice aG r_.list.length aH) (1 : Int).toNat ((r_.list.length : Int) : Int).toNat := ⟨_, rfl⟩
   refine gY (yG rfl (yl_eq aC (y_slcL (α := Word_) st_41 aO rfl rfl rfl aI _))) (gY (yG rfl (y_nilptr rfl rfl)) (gF fo_63_0 rfl (gS1 hm 2 sizeOf41 (rep_one (view_rep aC aJ aI (hm.ow_rep 3 rfl))) rfl fun w hm => gE ?_)))
   replace hm := hm.imp (c' := ow [aK] aM) 3 rfl (fun F h0 => by rw [aC, ← aJ]; exact own_subV h0 (by omega) (by omega))
   exact gZ fun a hf => ⟨aK, hf.sb rfl, hm.pk [1, 0, 2, 3] rfl rfl⟩
  repeat clear hm
  rintro aA a w ⟨aB, hf, hm⟩
  exact gv hf (gS (gR (gY (yn (hm.blk_at 1 rfl) isAgg56 sizeOf56 rfl) (gSN hm 0 sizeOf56 (one_cons rfl (one_cons rfl one_nil)) rfl fun w hm => gE (gRt (grc 0 results106 hm rfl isAgg56 sizeOf56 ⟨aB, rfl, hm.pk [2, 3] rfl rfl⟩))))))
theorem pimpl_wordReader__take_ok (w0 : World) (hz : Heap) (r_ : wordReader) (bp0 : Nat) (v1p : Value) (kind : Int) (text : Str) (hm0 : Mem w0 hz w0 [blk bp0 [v1p, (.bool (r_.bad))] 63, ow [v1p] r_.list]) :
    ConM Tryz.prog 131 [(pV bp0), (nV kind), (.string ⟨(text).b.toArray⟩)] w0 (pimpl_wordReader__take r_ kind text) fun r v w' => ∃ (x1 : Value), v = (.bool (r.1)) ∧ Mem w0 hz w' [blk bp0 [x1, (.bool (r.2.bad))] 63, ow [x1] r.2.list] := by
  unfold pimpl_wordReader__take
  refine gcon func131 rfl fun r => ?_
  have hm := hm0
  refine gS (gR (gA rfl (gE (gS (gS (gR (gM rfl (gC hm rfl call105 (pimpl_wordReader__peek_ok _ r_ bp0 v1p (hm.ow_rep 1 rfl) (hm.blk_cells 0 rfl).1) fun aF aM w hm => gAl hm zeroValue56 rfl fun aN w hm => gSN hm 0 sizeOf56 (one_cons rfl (one_cons rfl one_nil)) rfl fun w hm => gE (gS (gJ hm (fun aA => [(0, (pV bp0)), (27, (.bool (aA)))]) (fun aA => [blk bp0 [v1p, (.bool (r_.bad))] 63, ow [v1p] r_.list]) (fun aA => ?_) ?_))))))))))
  ·
   refine gR (gM rfl (gY (yG rfl (y_nilptr rfl rfl)) (gF fo_63_0 rfl (gL hm 1 isAgg41 rfl ?_))))
   obtain ⟨aO, aP, rfl, aQ⟩ := ro_slice (hm.ow_rep 2 rfl)
   refine gY (yV st_41 rfl) (gB rfl (gM rfl (gsd 16 rfl (fun aG => ?_) fun aG => ?_)))
   ·
    exact gO rfl (gO rfl (gO rfl (gO rfl (gKt rfl (gM rfl (gO rfl (gO rfl (gO rfl (gO rfl (gKt rfl (gE (gz hm [1, 2] rfl))))))))))))
   refine gF fo_56_0 rfl (gL hm 0 isAgg3 rfl (gM rfl (gB rfl (gKf rfl (gM rfl (gsd 22 rfl (fun aH => ?_) fun aH => ?_))))))
   ·
    exact gO rfl (gO rfl (gO rfl (gO rfl (gKt rfl (gE (gz hm [1, 2] rfl))))))
   exact gF fo_56_1 rfl (gL hm 0 isAgg9 rfl (gM rfl (gY (yG rfl (y_neqs (p := aF.text) (q := text) rfl rfl rfl)) (gKf rfl (gE (gz hm [1, 2] rfl))))))
  repeat clear hm
  intro aA w hm
  refine gs 27 rfl (fun aI => ?_) fun aI => ?_
  ·
   exact gct rfl (gS (gR (gA rfl (gE (gRt (gr1 results131 rfl ⟨v1p, rfl, hm.pk [0, 1] rfl rfl⟩))))))
  refine gcf rfl (gSk (gS (gR (gM rfl (gM rfl (gY (yG rfl (y_nilptr rfl rfl)) (gF fo_63_0 rfl (gL hm 0 isAgg41 rfl (gb fun aJ aK => ?_)))))))))
  obtain ⟨aC, aD⟩ := subM_some.1 aK
  have aL := (hm.ow_rep 1 rfl)
  obtain ⟨aE, aB⟩ : ∃ nv, nv = subV (GT.sz (Word_)) v1p (1 : Int).toNat ((r_.list.length : Int) : Int).toNat := ⟨_, rfl⟩
  refine gY (yG rfl (yl_eq aB (y_slcL (α := Word_) st_41 aL rfl rfl rfl aC _))) (gY (yG rfl (y_nilptr rfl rfl)) (gF fo_63_0 rfl (gS1 hm 0 sizeOf41 (rep_one (view_rep aB aD aC (hm.ow_rep 1 rfl))) rfl fun w hm => gE (gS (gR (gA rfl (gE (gRt ?_))))))))
  replace hm := hm.imp (c' := ow [aE] aJ) 1 rfl (fun F h0 => by rw [aB, ← aD]; exact own_subV h0 (by omega) (by omega))
  exact gr1 results131 rfl ⟨aE, rfl, hm.pk [0, 1] rfl rfl⟩
theorem pimpl_wordReader__want_ok (w0 : World) (hz : Heap) (r_ : wordReader) (bp0 : Nat) (v1p : Value) (kind : Int) (text : Str) (hm0 : Mem w0 hz w0 [blk bp0 [v1p, (.bool (r_.bad))] 63, ow [v1p] r_.list]) :
    ConM Tryz.prog 129 [(pV bp0), (nV kind), (.string ⟨(text).b.toArray⟩)] w0 (pimpl_wordReader__want r_ kind text) fun r v w' => ∃ (x1 : Value), v = (.tuple #[]) ∧ Mem w0 hz w' [blk bp0 [x1, (.bool (r.bad))] 63, ow [x1] r.list] := by
  unfold pimpl_wordReader__want
  refine gcon func129 rfl fun r => ?_
  have hm := hm0
  refine gS (gR (gM rfl (gM rfl (gM rfl ?_))))
  obtain ⟨aC, hle, hm1, hsub, aD⟩ := hm.take2 (L1 := [blk bp0 [v1p, (.bool (r_.bad))] 63, ow [v1p] r_.list]) (L2 := []) [0, 1] [] (by decide) rfl rfl
  refine gCg rfl call131 (pimpl_wordReader__take_ok _ aC r_ bp0 v1p kind text hm1 ) ?_
  rintro aE aG aH w ⟨aB, rfl, hB⟩
  replace hm := aD _ _ hB; clear hB
  refine gN rfl (gE (gJ hm (fun aA => []) (fun aA => [blk bp0 [aB, (.bool (aA))] 63, ow [aB] aE.2.list]) (fun aA => ?_) ?_))
  ·
   refine gsn 10 rfl (fun aF => ?_) fun aF => ?_
   ·
    exact gct rfl (gR (gM rfl (gY (yG rfl (y_nilptr rfl rfl)) (gF fo_63_1 rfl (gS1 hm 0 sizeOf4 rfl rfl fun w hm => gE (gz hm [0, 1] rfl))))))
   exact gcf rfl (gSk (gz hm [0, 1] rfl))
  repeat clear hm
  intro aA w hm
  exact gre results129 ⟨aB, rfl, hm.pk [0, 1] rfl rfl⟩
theorem impl_NumberOf_ok (w0 : World) (w_ : Word_) :
    ConM Tryz.prog 159 [(.agg #[(nV w_.kind), (.string ⟨(w_.text).b.toArray⟩)])] w0 (impl_NumberOf w_) fun r v w' => v = (nV r) ∧ Below w0.heap.size w0 w' := by
  unfold impl_NumberOf
  refine gcon func159 rfl fun r => ?_
  have hm := Mem.start w0
  refine gS (gR (gBx hm rfl fun aB w hm => gA rfl (gE (gS (gS (gR (gF fo_56_0 rfl (gL hm 0 isAgg3 rfl (gB rfl (gE (gsd 5 rfl (fun aA => ?_) fun aA => ?_)))))))))))
  ·
   exact gct rfl (gS (gR (gA rfl (gE (gRt (gr1 results159 rfl ⟨rfl, hm.below⟩))))))
  exact gcf rfl (gSk (gS (gR (gF fo_56_1 rfl (gL hm 0 isAgg9 rfl (gC hm rfl call121 (impl_decimal_ok _ w_.text 255) fun aC aD w hm => gA rfl (gE (gRt (gr1 results159 rfl ⟨rfl, hm.below⟩)))))))))
end Go.Proofs.YtjccffpccjdmgaaGreatDoor
