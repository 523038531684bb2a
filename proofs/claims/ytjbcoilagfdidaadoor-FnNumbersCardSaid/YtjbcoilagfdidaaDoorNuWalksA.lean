/- A part of the proof of FnNumbersCardSaid. -/
import Derived.Test.YtjbcoilagfdidaaDoorNuModels
import Derived.Test.YtjbcoilagfdidaaDoorChecked
import Derived.Laws.Pointers
import Derived.Tactics
import Derived.Tactics2
namespace Go.Proofs.YtjbcoilagfdidaaDoor
open Go Go.Wk Go.RowKit
set_option maxRecDepth 4000
set_option maxHeartbeats 4000000

open Tryd
theorem mxo : Tryd.prog.follows .mixedOrders = true := by kernel_rfl
theorem fo_25_0 : FieldOff Tryd.prog 25 0 0 := by have h := FieldOff.mk (k := 0) underlying25 rfl sizeOf23; exact h
theorem fo_31_0 : FieldOff Tryd.prog 31 0 0 := by have h := FieldOff.mk (k := 0) underlying31 rfl sizeOf29; exact h
theorem fo_31_1 : FieldOff Tryd.prog 31 1 1 := by have h := FieldOff.mk (k := 1) underlying31 rfl sizeOf3; exact h
theorem fo_31_2 : FieldOff Tryd.prog 31 2 2 := by have h := FieldOff.mk (k := 2) underlying31 rfl sizeOf3; exact h
theorem fo_31_3 : FieldOff Tryd.prog 31 3 3 := by have h := FieldOff.mk (k := 3) underlying31 rfl sizeOf29; exact h
theorem fo_45_0 : FieldOff Tryd.prog 45 0 0 := by have h := FieldOff.mk (k := 0) underlying45 rfl sizeOf3; exact h
theorem fo_45_1 : FieldOff Tryd.prog 45 1 1 := by have h := FieldOff.mk (k := 1) underlying45 rfl sizeOf3; exact h
theorem fo_45_2 : FieldOff Tryd.prog 45 2 2 := by have h := FieldOff.mk (k := 2) underlying45 rfl sizeOf43; exact h
theorem fo_53_0 : FieldOff Tryd.prog 53 0 0 := by have h := FieldOff.mk (k := 0) underlying53 rfl sizeOf25; exact h
theorem fo_53_1 : FieldOff Tryd.prog 53 1 1 := by have h := FieldOff.mk (k := 1) underlying53 rfl sizeOf31; exact h
theorem fo_53_2 : FieldOff Tryd.prog 53 2 5 := by have h := FieldOff.mk (k := 2) underlying53 rfl sizeOf3; exact h
theorem fo_53_3 : FieldOff Tryd.prog 53 3 6 := by have h := FieldOff.mk (k := 3) underlying53 rfl sizeOf4; exact h
theorem fo_53_4 : FieldOff Tryd.prog 53 4 7 := by have h := FieldOff.mk (k := 4) underlying53 rfl sizeOf29; exact h
theorem fo_65_0 : FieldOff Tryd.prog 65 0 0 := by have h := FieldOff.mk (k := 0) underlying65 rfl sizeOf62; exact h
theorem fo_65_1 : FieldOff Tryd.prog 65 1 1 := by have h := FieldOff.mk (k := 1) underlying65 rfl sizeOf63; exact h
theorem fo_65_2 : FieldOff Tryd.prog 65 2 2 := by have h := FieldOff.mk (k := 2) underlying65 rfl sizeOf3; exact h
theorem fo_65_3 : FieldOff Tryd.prog 65 3 3 := by have h := FieldOff.mk (k := 3) underlying65 rfl sizeOf3; exact h
theorem fo_65_4 : FieldOff Tryd.prog 65 4 4 := by have h := FieldOff.mk (k := 4) underlying65 rfl sizeOf29; exact h
theorem fo_68_0 : FieldOff Tryd.prog 68 0 0 := by have h := FieldOff.mk (k := 0) underlying68 rfl sizeOf3; exact h
theorem fo_68_1 : FieldOff Tryd.prog 68 1 1 := by have h := FieldOff.mk (k := 1) underlying68 rfl sizeOf3; exact h
theorem fo_68_2 : FieldOff Tryd.prog 68 2 2 := by have h := FieldOff.mk (k := 2) underlying68 rfl sizeOf29; exact h
theorem fo_68_3 : FieldOff Tryd.prog 68 3 3 := by have h := FieldOff.mk (k := 3) underlying68 rfl sizeOf3; exact h
theorem fo_70_0 : FieldOff Tryd.prog 70 0 0 := by have h := FieldOff.mk (k := 0) underlying70 rfl sizeOf3; exact h
theorem fo_70_1 : FieldOff Tryd.prog 70 1 1 := by have h := FieldOff.mk (k := 1) underlying70 rfl sizeOf29; exact h
theorem fo_72_0 : FieldOff Tryd.prog 72 0 0 := by have h := FieldOff.mk (k := 0) underlying72 rfl sizeOf22; exact h
theorem fo_72_1 : FieldOff Tryd.prog 72 1 1 := by have h := FieldOff.mk (k := 1) underlying72 rfl sizeOf3; exact h
theorem fo_80_0 : FieldOff Tryd.prog 80 0 0 := by have h := FieldOff.mk (k := 0) underlying80 rfl sizeOf25; exact h
theorem fo_80_1 : FieldOff Tryd.prog 80 1 1 := by have h := FieldOff.mk (k := 1) underlying80 rfl sizeOf3; exact h
theorem fo_80_2 : FieldOff Tryd.prog 80 2 2 := by have h := FieldOff.mk (k := 2) underlying80 rfl sizeOf3; exact h
theorem fo_80_3 : FieldOff Tryd.prog 80 3 3 := by have h := FieldOff.mk (k := 3) underlying80 rfl sizeOf29; exact h
theorem fo_80_4 : FieldOff Tryd.prog 80 4 4 := by have h := FieldOff.mk (k := 4) underlying80 rfl sizeOf78; exact h
theorem fo_80_5 : FieldOff Tryd.prog 80 5 20 := by have h := FieldOff.mk (k := 5) underlying80 rfl sizeOf29; exact h
theorem st_22 : SliceTy Tryd.prog 22 5 1 := ⟨underlying22, sizeOf5⟩
theorem st_23 : SliceTy Tryd.prog 23 45 3 := ⟨underlying23, sizeOf45⟩
theorem st_27 : SliceTy Tryd.prog 27 29 1 := ⟨underlying27, sizeOf29⟩
theorem st_29 : SliceTy Tryd.prog 29 3 1 := ⟨underlying29, sizeOf3⟩
theorem st_43 : SliceTy Tryd.prog 43 65 5 := ⟨underlying43, sizeOf65⟩
theorem st_62 : SliceTy Tryd.prog 62 70 2 := ⟨underlying62, sizeOf70⟩
theorem st_63 : SliceTy Tryd.prog 63 68 4 := ⟨underlying63, sizeOf68⟩
theorem et_23 : ElemTy Tryd.prog 23 45 3 (.agg #[(.int .i64 (0)), (.int .i64 (0)), (.slice none 0 0)]) := ⟨underlying23, ⟨_, (by kernel_rfl : Tryd.prog.info? 45 = some t45), rfl, by decide, rfl⟩, rfl, by decide⟩
theorem et_27 : ElemTy Tryd.prog 27 29 1 (.slice none 0 0) := ⟨underlying27, ⟨_, (by kernel_rfl : Tryd.prog.info? 29 = some t29), rfl, by decide, rfl⟩, rfl, by decide⟩
theorem et_29 : ElemTy Tryd.prog 29 3 1 (.int .i64 (0)) := ⟨underlying29, ⟨_, (by kernel_rfl : Tryd.prog.info? 3 = some t3), rfl, by decide, rfl⟩, rfl, by decide⟩
theorem et_43 : ElemTy Tryd.prog 43 65 5 (.agg #[(.slice none 0 0), (.slice none 0 0), (.int .i64 (0)), (.int .i64 (0)), (.slice none 0 0)]) := ⟨underlying43, ⟨_, (by kernel_rfl : Tryd.prog.info? 65 = some t65), rfl, by decide, rfl⟩, rfl, by decide⟩
theorem et_62 : ElemTy Tryd.prog 62 70 2 (.agg #[(.int .i64 (0)), (.slice none 0 0)]) := ⟨underlying62, ⟨_, (by kernel_rfl : Tryd.prog.info? 70 = some t70), rfl, by decide, rfl⟩, rfl, by decide⟩
theorem et_63 : ElemTy Tryd.prog 63 68 4 (.agg #[(.int .i64 (0)), (.int .i64 (0)), (.slice none 0 0), (.int .i64 (0))]) := ⟨underlying63, ⟨_, (by kernel_rfl : Tryd.prog.info? 68 = some t68), rfl, by decide, rfl⟩, rfl, by decide⟩

theorem spec_l30Open_ok (w0 : World) (hz : Heap) (hle0 : Heap.le hz (hp w0)) (code : List UInt8) (v1 : Value) (h1 : GT.rep hz [v1] code) :
    ConM Tryd.prog 13 [v1] w0 (spec_l30Open code) fun r v w' => ∃ (b1 : Nat) (x2 : Value) (hz2 : Heap), v = (pV b1) ∧ Heap.le hz hz2 ∧ GT.rep hz2 [x2] r.b ∧ Mem w0 hz2 w' [junk w0 hz, blk b1 [x2, (nV r.p)] 72] := by
  unfold spec_l30Open
  refine gcon func13 rfl fun r => ?_
  have hm := Mem.startA hle0
  refine gS (gR (gA rfl (gE (gS (gS (gR (gM rfl ?_)))))))
  obtain ⟨p0_1, c0_1, rfl, hl0_1⟩ := ro_slice h1
  refine gY (yV st_22 rfl) (gB rfl (gE (gJg (fun s0_1 a w => ∃ (v0_1 : Value), GT.rep hz [v0_1] (s0_1) ∧ St 11 [(0, v0_1)] w0 hz [junk w0 hz] a w) (fun s0_1 => ?_) ?_)))
  ·
   refine gsd 5 rfl (fun h1_1 => ?_) fun h1_1 => ?_
   ·
    refine gct rfl (gR (gM rfl (gb fun x1_1 hx1_1 => ?_)))
    obtain ⟨h1_2, h1_2e⟩ := subM_some.1 hx1_1
    obtain ⟨v1_1, hy1_1, h1_3⟩ : ∃ nv, nv = subV (GT.sz (UInt8)) (.slice p0_1 code.length c0_1) (0 : Int).toNat (2000 : Int).toNat ∧ GT.rep hz [nv] x1_1 := ⟨_, rfl, by rw [← h1_2e]; exact rep_subV h1 (by omega) (by omega)⟩
    exact gY (yG rfl (yl_eq hy1_1 (y_slcH (α := UInt8) st_22 h1 rfl rfl rfl h1_2 _))) (gA rfl (gE (gZ fun a hf => ⟨v1_1, h1_3, hf.sb rfl, hm.pk [0] rfl rfl⟩)))
   exact gcf rfl (gSk (gZ fun a hf => ⟨(.slice p0_1 code.length c0_1), h1, hf.sb rfl, hm.pk [0] rfl rfl⟩))
  repeat clear hm
  rintro s0_1 a w ⟨v0_1, h0_1, hf, hm⟩
  refine gv hf (gS (gR (gM rfl ?_)))
  obtain ⟨p0_2, c0_2, rfl, hl0_2⟩ := ro_slice h0_1
  exact gY (yG rfl (y_build (vs := [(0, (.slice p0_2 s0_1.length c0_2))]) (cs := #[(.slice p0_2 s0_1.length c0_2), (nV 0)]) rfl rfl (by kernel_rfl))) (gBx hm rfl fun b0_1 w hm => gA rfl (gE (gRt (gr1 results13 rfl ⟨b0_1, (.slice p0_2 s0_1.length c0_2), hz, rfl, (Heap.le_refl _), h0_1, hm.pk [1, 0] rfl rfl⟩))))

theorem pspec_l30Rd__pick_ok (w0 : World) (hz : Heap) (r_ : l30Rd) (bp0 : Nat) (v1p : Value) (h1p : GT.rep hz [v1p] r_.b) (n_ : Int) (hm0 : Mem w0 hz w0 [blk bp0 [v1p, (nV r_.p)] 72]) :
    ConM Tryd.prog 29 [(pV bp0), (nV n_)] w0 (pspec_l30Rd__pick r_ n_) fun r v w' => v = (nV r.1) ∧ Mem w0 hz w' [blk bp0 [v1p, (nV r.2.p)] 72] := by
  unfold pspec_l30Rd__pick
  refine gcon func29 rfl fun r => ?_
  have hm := hm0
  refine gS (gR (gA rfl (gE (gS (gR (gM rfl (gM rfl (gY (yG rfl (y_nilptr rfl rfl)) (gF fo_72_1 rfl (gL hm 0 isAgg3 rfl (gB rfl (gY (yG rfl (y_nilptr rfl rfl)) (gF fo_72_1 rfl (gS1 hm 0 sizeOf3 rfl rfl fun w hm => gE (gS (gS (gJ hm (fun s0_1 => [(0, (pV bp0)), (1, (nV n_)), (24, (.bool (s0_1)))]) (fun s0_1 => [blk bp0 [v1p, (nV (w64 (r_.p + 1)))] 72]) (fun s0_1 => ?_) ?_)))))))))))))))))
  ·
   refine gR (gM rfl (gB rfl (gM rfl (gsd 17 rfl (fun h1_1 => ?_) fun h1_1 => ?_))))
   ·
    exact gO rfl (gO rfl (gO rfl (gO rfl (gO rfl (gO rfl (gKt rfl (gE (gz hm [0] rfl))))))))
   refine gM rfl (gY (yG rfl (y_nilptr rfl rfl)) (gF fo_72_0 rfl (gL hm 0 isAgg22 rfl ?_)))
   obtain ⟨p1_1, c1_1, rfl, hl1_1⟩ := ro_slice h1p
   exact gY (yV st_22 rfl) (gB rfl (gKf rfl (gE (gz hm [0] rfl))))
  repeat clear hm
  intro s0_1 w hm
  refine gs 24 rfl (fun h0_1 => ?_) fun h0_1 => ?_
  ·
   exact gct rfl (gS (gR (gA rfl (gE (gRt (gr1 results29 rfl ⟨rfl, hm.pk [0] rfl rfl⟩))))))
  refine gcf rfl (gSk (gS (gR (gM rfl (gY (yG rfl (y_nilptr rfl rfl)) (gF fo_72_1 rfl (gL hm 0 isAgg3 rfl (gB rfl (gA rfl (gE (gS (gS (gR (gM rfl (gM rfl (gY (yG rfl (y_nilptr rfl rfl)) (gF fo_72_0 rfl (gL hm 0 isAgg22 rfl ?_))))))))))))))))))
  obtain ⟨p0_1, c0_1, rfl, hl0_1⟩ := ro_slice h1p
  refine gY (yV st_22 rfl) (gB rfl (gE (gsd 36 rfl (fun h0_2 => ?_) fun h0_2 => ?_)))
  ·
   refine gct rfl (gS (gR (gM rfl (gY (yG rfl (y_nilptr rfl rfl)) (gF fo_72_0 rfl (gL hm 0 isAgg22 rfl (gM rfl (gg fun x0_1 h0_3 hx0_2 => ?_))))))))
   obtain ⟨b0_1, o0_1, c0_2, he⟩ := idx_form h1p hx0_2
   simp only [Value.slice.injEq, Option.some.injEq] at he; obtain ⟨rfl, _, rfl⟩ := he
   refine gI st_22 h0_3 (idx_lt hx0_2) rfl (gY (yl isAgg5 ((flat_cells (cs := [(.int .u8 ((x0_1).toNat : Int))]) (hm.now h1p) hx0_2 rfl).cell (j := 0) rfl) rfl) (gY (yG rfl (y_conv64 (b := x0_1) underlying5 underlying3 rfl rfl)) ?_))
   have hu0_1 := UInt8.toNat_lt (x0_1)
   refine gM rfl (gb fun q0_1 hx0_3 => ?_)
   obtain ⟨h0_4, rfl⟩ := remM_some.1 hx0_3
   exact gY (yG rfl (y_rem rfl rfl rfl h0_4)) (gA rfl (gE (gRt (gr1 results29 rfl ⟨rfl, hm.pk [0] rfl rfl⟩))))
  refine gcf rfl (gSk (gS (gW (.p 0 (.p 1 (.p 2 (.p 4 (.p 5 (.p 6 (.p 7 (.p 15 (.p 16 (.p 17 (.p 19 (.p 20 (.p 21 (.p 22 (.p 23 (.p 24 (.p 33 (.p 34 (.p 36 (.p 37 (.p 38 (.p 39 (.q 3 (.q 8 (.p 9 (.p 10 (.p 11 (.q 12 (.p 13 (.p 14 (.q 18 (.q 25 (.p 26 (.p 27 (.p 28 (.q 29 (.p 30 (.p 31 (.p 32 (.p 35 (.e 40 (.p 41 (.p 42 (.p 43 (.p 44 (.p 45 .fin))))) .nil))))))))))))))))))))))))))))))))))))))))) [3, 8, 12, 18, 25, 29, 40] [0, 1, 2, 4, 5, 6, 7, 9, 10, 11, 13, 14, 15, 16, 17, 19, 20, 21, 22, 23, 24, 26, 27, 28, 30, 31, 32, 33, 34, 35, 36, 37, 38, 39, 41, 42, 43, 44, 45] hm [0] [blk bp0 [(.slice p0_1 r_.b.length c0_1), (nV (w64 (r_.p + 1)))] 72] rfl mxo (by kernel_rfl) (fun _ _ _ h => h.2) fun w hm hS => tP rfl (fun w => yM rfl) (tP rfl (fun w => yG rfl (y_nilptr rfl rfl)) (tP rfl (fun w => yF fo_72_0 rfl) (tP rfl (fun w => yM rfl) (tP rfl (fun w => yM rfl) (tP rfl (fun w => yG rfl (y_nilptr rfl rfl)) (tP rfl (fun w => yF fo_72_0 rfl) (tP rfl (fun w => yM rfl) (tP rfl (fun w => yG rfl (y_nilptr rfl rfl)) (tP rfl (fun w => yF fo_72_0 rfl) (tP rfl (fun w => yM rfl) (tP rfl (fun w => yB rfl) (tP rfl (fun w => yB rfl) (tP rfl (fun w => yM rfl) (tP rfl (fun w => yG rfl (y_nilptr rfl rfl)) (tP rfl (fun w => yF fo_72_0 rfl) (tP rfl (fun w => yM rfl) (tP rfl (fun w => yB rfl) (tP rfl (fun w => yM rfl) (tP rfl (fun w => yM rfl) (tP rfl (fun w => yG rfl (y_nilptr rfl rfl)) (tP rfl (fun w => yF fo_72_0 rfl) (tQ rfl hS (fun w hm => yL hm 0 isAgg22 rfl) (tQ rfl hS (fun w hm => yL hm 0 isAgg22 rfl) (tP rfl (fun w => yV st_22 rfl) (gb fun q0_2 hx0_4 => ?_))))))))))))))))))))))))))))
  obtain ⟨h0_5, rfl⟩ := remM_some.1 hx0_4
  refine tP rfl (fun w => yG rfl (y_rem rfl rfl rfl h0_5)) (gg fun x0_2 h0_6 hx0_6 => ?_)
  obtain ⟨b0_2, o0_2, c0_3, he⟩ := idx_form h1p hx0_6
  simp only [Value.slice.injEq, Option.some.injEq] at he; obtain ⟨rfl, _, rfl⟩ := he
  refine tP rfl (fun w => yI st_22 h0_6 (idx_lt hx0_6) rfl) (tQ rfl hS (fun w hm => yl isAgg5 ((flat_cells (cs := [(.int .u8 ((x0_2).toNat : Int))]) (hm.now h1p) hx0_6 rfl).cell (j := 0) rfl) rfl) (tP rfl (fun w => yG rfl (y_conv64 (b := x0_2) underlying5 underlying3 rfl rfl)) ?_))
  have hu0_2 := UInt8.toNat_lt (x0_2)
  refine tP rfl (fun w => yB rfl) (tQ rfl hS (fun w hm => yL hm 0 isAgg22 rfl) (tQ rfl hS (fun w hm => yL hm 0 isAgg22 rfl) (tP rfl (fun w => yV st_22 rfl) (gb fun q0_3 hx0_7 => ?_))))
  obtain ⟨h0_7, rfl⟩ := remM_some.1 hx0_7
  refine tP rfl (fun w => yG rfl (y_rem rfl rfl rfl h0_7)) (gg fun x0_3 h0_8 hx0_9 => tP rfl (fun w => yI st_22 h0_8 (idx_lt hx0_9) rfl) (tQ rfl hS (fun w hm => yl isAgg5 ((flat_cells (cs := [(.int .u8 ((x0_3).toNat : Int))]) (hm.now h1p) hx0_9 rfl).cell (j := 0) rfl) rfl) (tP rfl (fun w => yG rfl (y_conv64 (b := x0_3) underlying5 underlying3 rfl rfl)) ?_)))
  have hu0_3 := UInt8.toNat_lt (x0_3)
  refine tP rfl (fun w => yB rfl) (tP rfl (fun w => yB rfl) (tP rfl (fun w => yB rfl) (tO (tY rfl (yL hm 0 isAgg22 rfl) (tAs hS (tP rfl (fun w => yV st_22 rfl) (gb fun q0_4 hx0_10 => ?_)))))))
  obtain ⟨h0_9, rfl⟩ := quoM_some.1 hx0_10
  refine tP rfl (fun w => yG rfl (y_quo rfl rfl rfl h0_9)) (tP rfl (fun w => yB rfl) (tP rfl (fun w => yB rfl) (tP rfl (fun w => yA rfl) (tE (gS (gR (gM rfl (gM rfl (gY (yG rfl (y_quo rfl rfl rfl (by decide))) (gB rfl (gA rfl (gE (gS (gR (gM rfl (gM rfl (gb fun q0_5 hx0_11 => ?_)))))))))))))))))
  obtain ⟨h0_10, rfl⟩ := remM_some.1 hx0_11
  exact gY (yG rfl (y_rem rfl rfl rfl h0_10)) (gA rfl (gE (gRt (gr1 results29 rfl ⟨rfl, hm.pk [0] rfl rfl⟩))))

theorem pspec_l30Rd__num_ok (w0 : World) (hz : Heap) (r_ : l30Rd) (bp0 : Nat) (v1p : Value) (h1p : GT.rep hz [v1p] r_.b) (list : List Int) (v1 : Value) (h1 : GT.rep hz [v1] list) (hm0 : Mem w0 hz w0 [blk bp0 [v1p, (nV r_.p)] 72]) :
    ConM Tryd.prog 30 [(pV bp0), v1] w0 (pspec_l30Rd__num r_ list) fun r v w' => v = (nV r.1) ∧ Mem w0 hz w' [blk bp0 [v1p, (nV r.2.p)] 72] := by
  unfold pspec_l30Rd__num
  refine gcon func30 rfl fun r => ?_
  have hm := hm0
  refine gS (gR (gA rfl (gE (gS (gR (gM rfl (gM rfl (gM rfl ?_))))))))
  obtain ⟨p0_1, c0_1, rfl, hl0_1⟩ := ro_slice h1
  refine gY (yV st_29 rfl) ?_
  obtain ⟨hz0_1, hle, hm1, hsub, hk0_1⟩ := hm.take2 (L1 := [blk bp0 [v1p, (nV r_.p)] 72]) (L2 := []) [0] [] (by decide) rfl rfl
  refine gCg rfl call29 (pspec_l30Rd__pick_ok _ hz0_1 r_ bp0 v1p (GT.mono hle h1p) (list.length : Int) hm1 ) ?_
  rintro r0_1 hx0_1 v0_1 w ⟨rfl, hB⟩
  replace hm := hk0_1 _ _ hB; clear hB
  refine gg fun x0_1 h0_1 hx0_3 => ?_
  obtain ⟨b0_1, o0_1, c0_2, he⟩ := idx_form h1 hx0_3
  simp only [Value.slice.injEq, Option.some.injEq] at he; obtain ⟨rfl, _, rfl⟩ := he
  exact gI st_29 h0_1 (idx_lt hx0_3) rfl (gY (yl isAgg3 ((flat_cells (cs := [(nV x0_1)]) (hm.now h1) hx0_3 rfl).cell (j := 0) rfl) rfl) (gA rfl (gE (gRt (gr1 results30 rfl ⟨rfl, hm.pk [0] rfl rfl⟩)))))

theorem spec_l1In_ok (w0 : World) (n_ : Int) (low : Int) (high : Int) :
    ConM Tryd.prog 21 [(nV n_), (nV low), (nV high)] w0 (spec_l1In n_ low high) fun r v w' => v = (.bool (r)) ∧ Below w0.heap.size w0 w' := by
  unfold spec_l1In
  refine gcon func21 rfl fun r => ?_
  have hm := Mem.start w0
  refine gS (gR (gA rfl (gE (gS (gJ hm (fun s0_1 => [(6, (.bool (s0_1)))]) (fun s0_1 => []) (fun s0_1 => ?_) ?_)))))
  ·
   refine gR (gM rfl (gM rfl (gB rfl (gM rfl (gsd 10 rfl (fun h1_1 => ?_) fun h1_1 => ?_)))))
   ·
    exact gM rfl (gM rfl (gB rfl (gKt rfl (gA rfl (gE (gz hm [] rfl))))))
   exact gO rfl (gO rfl (gO rfl (gKf rfl (gA rfl (gE (gz hm [] rfl))))))
  repeat clear hm
  intro s0_1 w hm
  exact gRt (gr1 results21 rfl ⟨rfl, hm.below⟩)

theorem spec_l7Args_ok (w0 : World) (op : Int) :
    ConM Tryd.prog 77 [(nV op)] w0 (spec_l7Args op) fun r v w' => v = (nV r) ∧ Below w0.heap.size w0 w' := by
  unfold spec_l7Args
  refine gcon func77 rfl fun r => ?_
  have hm := Mem.start w0
  refine gS (gR (gA rfl (gE (gS (gBk (gS (gR (gM rfl (gB rfl (gA rfl (gE (gsd 3 rfl (fun h0_1 => ?_) fun h0_1 => ?_))))))))))))
  ·
   exact gct rfl (gS (gR (gA rfl (gE (gRt (gr1 results77 rfl ⟨rfl, hm.below⟩))))))
  refine gcf rfl (gS (gJ hm (fun s0_1 => [(0, (nV op)), (6, (.bool (s0_1)))]) (fun s0_1 => []) (fun s0_1 => ?_) ?_))
  ·
   refine gR (gM rfl (gB rfl (gM rfl (gsd 9 rfl (fun h1_1 => ?_) fun h1_1 => ?_))))
   ·
    exact gO rfl (gO rfl (gKt rfl (gM rfl (gO rfl (gO rfl (gKt rfl (gM rfl (gO rfl (gO rfl (gKt rfl (gA rfl (gE (gz hm [] rfl)))))))))))))
   refine gM rfl (gB rfl (gKf rfl (gM rfl (gsd 13 rfl (fun h1_2 => ?_) fun h1_2 => ?_))))
   ·
    exact gO rfl (gO rfl (gKt rfl (gM rfl (gO rfl (gO rfl (gKt rfl (gA rfl (gE (gz hm [] rfl)))))))))
   refine gM rfl (gB rfl (gKf rfl (gM rfl (gsd 17 rfl (fun h1_3 => ?_) fun h1_3 => ?_))))
   ·
    exact gO rfl (gO rfl (gKt rfl (gA rfl (gE (gz hm [] rfl)))))
   exact gM rfl (gB rfl (gKf rfl (gA rfl (gE (gz hm [] rfl)))))
  repeat clear hm
  intro s0_1 w hm
  refine gs 6 rfl (fun h0_2 => ?_) fun h0_2 => ?_
  ·
   exact gct rfl (gS (gR (gA rfl (gE (gRt (gr1 results77 rfl ⟨rfl, hm.below⟩))))))
  refine gcf rfl (gS (gJ hm (fun s0_2 => [(21, (.bool (s0_2)))]) (fun s0_2 => []) (fun s0_2 => ?_) ?_))
  ·
   refine gR (gM rfl (gC hm rfl call21 (spec_l1In_ok _ op 3 9) fun r1_1 hx1_1 w hm => gM rfl (gs 24 rfl (fun h1_4 => ?_) fun h1_4 => ?_)))
   ·
    exact gO rfl (gO rfl (gKt rfl (gA rfl (gE (gz hm [] rfl)))))
   exact gM rfl (gB rfl (gKf rfl (gA rfl (gE (gz hm [] rfl)))))
  repeat clear hm
  intro s0_2 w hm
  refine gs 21 rfl (fun h0_3 => ?_) fun h0_3 => ?_
  ·
   exact gct rfl (gS (gR (gA rfl (gE (gRt (gr1 results77 rfl ⟨rfl, hm.below⟩))))))
  exact gcf rfl (gSk (gS (gR (gA rfl (gE (gRt (gr1 results77 rfl ⟨rfl, hm.below⟩)))))))

theorem spec_l7Makes_ok (w0 : World) (op : Int) :
    ConM Tryd.prog 76 [(nV op)] w0 (spec_l7Makes op) fun r v w' => v = (.bool (r)) ∧ Below w0.heap.size w0 w' := by
  unfold spec_l7Makes
  refine gcon func76 rfl fun r => ?_
  have hm := Mem.start w0
  refine gS (gR (gA rfl (gE (gS (gJ hm (fun s0_1 => [(2, (.bool (s0_1)))]) (fun s0_1 => []) (fun s0_1 => ?_) ?_)))))
  ·
   refine gR (gM rfl (gC hm rfl call21 (spec_l1In_ok _ op 1 14) fun r1_1 hx1_1 w hm => gM rfl (gs 5 rfl (fun h1_1 => ?_) fun h1_1 => ?_)))
   ·
    refine gM rfl (gB rfl (gKt rfl (gM rfl (gsd 9 rfl (fun h1_2 => ?_) fun h1_2 => ?_))))
    ·
     exact gM rfl (gB rfl (gKt rfl (gA rfl (gE (gz hm [] rfl)))))
    exact gO rfl (gO rfl (gKf rfl (gA rfl (gE (gz hm [] rfl)))))
   exact gO rfl (gO rfl (gKf rfl (gM rfl (gO rfl (gO rfl (gKf rfl (gA rfl (gE (gz hm [] rfl)))))))))
  repeat clear hm
  intro s0_1 w hm
  exact gRt (gr1 results76 rfl ⟨rfl, hm.below⟩)

theorem spec_l7Some_ok (w0 : World) (hz : Heap) (r_ : l30Rd) (bp0 : Nat) (v1p : Value) (h1p : GT.rep hz [v1p] r_.b) (u : Unit_) (v1 : Value) (h1 : GT.rep hz [v1] u.codes) (regs : Int) (hm0 : Mem w0 hz w0 [blk bp0 [v1p, (nV r_.p)] 72]) :
    ConM Tryd.prog 74 [(pV bp0), (.agg #[v1]), (nV regs)] w0 (spec_l7Some r_ u regs) fun r v w' => ∃ (x1 : Value), v = (.agg #[(nV r.1.op), (nV r.1.to), x1, (nV r.1.n_)]) ∧ Mem w0 hz w' [blk bp0 [v1p, (nV r.2.p)] 72, ow [x1] r.1.args] := by
  unfold spec_l7Some
  refine gcon func74 rfl fun r => ?_
  have hm := hm0
  refine gS (gR (gBx hm rfl fun b0_1 w hm => gAl hm zeroValue68 rfl fun b0_2 w hm => gE (gS (gR (gM rfl (gf rfl (fun a hf => e_build (vs := #[(0, (nV 1)), (1, (nV 1)), (2, (nV 2)), (3, (nV 3)), (4, (nV 4)), (5, (nV 5)), (6, (nV 8)), (7, (nV 9)), (8, (nV 10)), (9, (nV 13)), (10, (nV 3)), (11, (nV 6)), (12, (nV 7)), (13, (nV 11)), (14, (nV 12)), (15, (nV 14))]) (cs := [(nV 1), (nV 1), (nV 2), (nV 3), (nV 4), (nV 5), (nV 8), (nV 9), (nV 10), (nV 13), (nV 3), (nV 6), (nV 7), (nV 11), (nV 12), (nV 14)]) et_29 hf hm rfl rfl (by kernel_rfl) rfl rfl) ?_))))))
  rintro _ w ⟨b0_3, rfl, hm⟩
  replace hm := hm.lit (xs := ([1, 1, 2, 3, 4, 5, 8, 9, 10, 13, 3, 6, 7, 11, 12, 14] : List Int)) 0 rfl rfl rfl rfl
  obtain ⟨hz0_1, hle, hm1, hsub, hk0_1⟩ := hm.take2 (L1 := [blk bp0 [v1p, (nV r_.p)] 72]) (L2 := [ow [(sV b0_3 0 16 16)] ([1, 1, 2, 3, 4, 5, 8, 9, 10, 13, 3, 6, 7, 11, 12, 14] : List Int), blk b0_2 [(nV 0), (nV 0), (.slice none 0 0), (nV 0)] 68, blk b0_1 [v1] 25]) [3] [0, 1, 2] (by decide) rfl rfl
  refine gCg rfl call30 (pspec_l30Rd__num_ok _ hz0_1 r_ bp0 v1p (GT.mono hle h1p) ([1, 1, 2, 3, 4, 5, 8, 9, 10, 13, 3, 6, 7, 11, 12, 14] : List Int) (sV b0_3 0 16 16) (fz_ow (hsub 0 _ rfl)) hm1 ) ?_
  rintro r0_1 hx0_1 v0_1 w ⟨rfl, hB⟩
  replace hm := hk0_1 _ _ hB; clear hB
  refine gA rfl (gE (gS (gR (gM rfl (gM rfl (gM rfl ?_))))))
  obtain ⟨hz0_3, hle, hm1, hsub, hk0_2⟩ := hm.take2 (L1 := [blk bp0 [v1p, (nV r0_1.2.p)] 72]) (L2 := [ow [(sV b0_3 0 16 16)] ([1, 1, 2, 3, 4, 5, 8, 9, 10, 13, 3, 6, 7, 11, 12, 14] : List Int), blk b0_2 [(nV 0), (nV 0), (.slice none 0 0), (nV 0)] 68, blk b0_1 [v1] 25]) [0] [1, 2, 3] (by decide) rfl rfl
  refine gCg rfl call29 (pspec_l30Rd__pick_ok _ hz0_3 (⟨r_.b, r0_1.2.p⟩ : l30Rd) bp0 v1p (GT.mono hle h1p) regs hm1 ) ?_
  rintro r0_2 hx0_2 v0_2 w ⟨rfl, hB⟩
  replace hm := hk0_2 _ _ hB; clear hB
  refine gY (yG rfl (y_build (vs := [(0, (nV r0_1.1)), (1, (nV r0_2.1))]) (cs := #[(nV r0_1.1), (nV r0_2.1), (.slice none 0 0), (nV 0)]) rfl rfl (by kernel_rfl))) (gAl hm zeroValue68 rfl fun b0_4 w hm => gSN hm 0 sizeOf68 (one_cons rfl (one_cons rfl (one_cons rfl (one_cons rfl one_nil)))) rfl fun w hm => gE (gS (gR (gM rfl (gC hm rfl call77 (spec_l7Args_ok _ r0_1.1) fun r0_3 hx0_3 w hm => gA rfl (gE (gS (gS (gR (gM rfl (gB rfl (gE (gJe hm (fun s0_1 => [(0, (pV bp0)), (2, (nV regs)), (6, (pV b0_2)), (7, (nV r0_1.1)), (8, (pV b0_4)), (9, (nV s0_1.2.2))]) (fun s0_1 => [blk bp0 [v1p, (nV s0_1.1)] 72, blk b0_2 [(nV 0), (nV 0), (.slice none 0 0), (nV 0)] 68, blk b0_4 [(nV r0_1.1), (nV r0_2.1), (.slice none 0 0), (nV s0_1.2.1)] 68]) (fun c0_1 hq0_1 => ?_) ?_)))))))))))))
  ·
   refine gsd 22 rfl (fun h1_1 => ?_) fun h1_1 => ?_
   ·
    refine gct rfl (gS (gS (gR (gF fo_25_0 rfl (gL hm 4 isAgg23 rfl ?_)))))
    obtain ⟨p1_1, c1_1, rfl, hl1_1⟩ := ro_slice h1
    refine gY (yV st_23 rfl) (gB rfl (gE (gsd 26 rfl (fun h1_2 => ?_) fun h1_2 => ?_)))
    ·
     refine gct rfl (gS (gR (gM rfl (gM rfl ?_))))
     obtain ⟨hz1_1, hle, hm1, hsub, hk1_1⟩ := hm.take2 (L1 := [blk bp0 [v1p, (nV r0_2.2.p)] 72]) (L2 := [blk b0_4 [(nV r0_1.1), (nV r0_2.1), (.slice none 0 0), (nV 0)] 68, ow [(sV b0_3 0 16 16)] ([1, 1, 2, 3, 4, 5, 8, 9, 10, 13, 3, 6, 7, 11, 12, 14] : List Int), blk b0_2 [(nV 0), (nV 0), (.slice none 0 0), (nV 0)] 68, blk b0_1 [(.slice p1_1 u.codes.length c1_1)] 25]) [1] [0, 2, 3, 4] (by decide) rfl rfl
     refine gCg rfl call29 (pspec_l30Rd__pick_ok _ hz1_1 (⟨r_.b, r0_2.2.p⟩ : l30Rd) bp0 v1p (GT.mono hle h1p) regs hm1 ) ?_
     rintro r1_1 hx1_1 v1_1 w ⟨rfl, hB⟩
     replace hm := hk1_1 _ _ hB; clear hB
     refine gf rfl (fun a hf => e_build (vs := #[(0, (nV r1_1.1))]) (cs := [(nV r1_1.1)]) et_29 hf hm rfl rfl (by kernel_rfl) rfl rfl) ?_
     rintro _ w ⟨b1_1, rfl, hm⟩
     replace hm := hm.lit (xs := ([r1_1.1] : List Int)) 0 rfl rfl rfl rfl
     exact gY (yG rfl (y_build (vs := [(0, (nV 13)), (1, (nV (-1))), (2, (sV b1_1 0 1 1))]) (cs := #[(nV 13), (nV (-1)), (sV b1_1 0 1 1), (nV 0)]) rfl rfl (by kernel_rfl))) (gSN hm 4 sizeOf68 (one_cons rfl (one_cons rfl (one_cons rfl (one_cons rfl one_nil)))) rfl fun w hm => gE (gRt (gEr hq0_1 (grc 4 results74 hm rfl isAgg68 sizeOf68 ⟨(sV b1_1 0 1 1), rfl, hm.pk [1, 0] rfl rfl⟩))))
    refine gcf rfl (gSk (gS (gR (gM rfl (gF fo_25_0 rfl (gL hm 4 isAgg23 rfl (gY (yV st_23 rfl) ?_)))))))
    obtain ⟨hz1_3, hle, hm1, hsub, hk1_2⟩ := hm.take2 (L1 := [blk bp0 [v1p, (nV r0_2.2.p)] 72]) (L2 := [blk b0_4 [(nV r0_1.1), (nV r0_2.1), (.slice none 0 0), (nV 0)] 68, ow [(sV b0_3 0 16 16)] ([1, 1, 2, 3, 4, 5, 8, 9, 10, 13, 3, 6, 7, 11, 12, 14] : List Int), blk b0_2 [(nV 0), (nV 0), (.slice none 0 0), (nV 0)] 68, blk b0_1 [(.slice p1_1 u.codes.length c1_1)] 25]) [1] [0, 2, 3, 4] (by decide) rfl rfl
    refine gCg rfl call29 (pspec_l30Rd__pick_ok _ hz1_3 (⟨r_.b, r0_2.2.p⟩ : l30Rd) bp0 v1p (GT.mono hle h1p) (u.codes.length : Int) hm1 ) ?_
    rintro r1_2 hx1_2 v1_2 w ⟨rfl, hB⟩
    replace hm := hk1_2 _ _ hB; clear hB
    refine gF fo_68_3 rfl (gS1 hm 1 sizeOf3 rfl rfl fun w hm => gE (gR (gF fo_25_0 rfl (gL hm 4 isAgg23 rfl (gF fo_68_3 rfl (gL hm 1 isAgg3 rfl (gg fun x1_1 h1_3 hx1_4 => ?_)))))))
    obtain ⟨b1_2, o1_1, c1_2, he⟩ := idx_form' h1 hx1_4
    simp only [Value.slice.injEq, Option.some.injEq] at he; obtain ⟨rfl, _, rfl⟩ := he
    obtain ⟨v1_3, hc1_1, h1_4⟩ := rk_Code_ h1 hx1_4
    exact gI st_23 h1_3 (idx_lt hx1_4) rfl (gF fo_45_0 rfl (gY (yl isAgg3 ((hc1_1.mono hm.lez).cell (j := 0) rfl) rfl) (gA rfl (gE (gze hm [0, 3, 1] rfl)))))
   exact gcf rfl (gSk (gze hm [1, 3, 0] rfl))
  repeat clear hm
  intro s0_1 w hm
  refine gS (gS (gR (gM rfl (gB rfl (gE (gJ hm (fun s0_2 => [(0, (pV bp0)), (2, (nV regs)), (6, (pV b0_2)), (7, (nV r0_1.1)), (8, (pV b0_4)), (9, (nV s0_1.2.2))]) (fun s0_2 => [blk bp0 [v1p, (nV s0_2.1)] 72, blk b0_2 [(nV 0), (nV 0), (.slice none 0 0), (nV 0)] 68, blk b0_4 [(nV r0_1.1), (nV r0_2.1), (.slice none 0 0), (nV s0_2.2)] 68]) (fun s0_2 => ?_) ?_))))))
  ·
   refine gsd 46 rfl (fun h1_5 => ?_) fun h1_5 => ?_
   ·
    refine gct rfl (gR (gM rfl (gf rfl (fun a hf => e_build (vs := #[(0, (nV 0)), (1, (nV 1)), (2, (nV 2)), (3, (nV 3)), (4, (nV 15)), (5, (nV 16)), (6, (nV 255))]) (cs := [(nV 0), (nV 1), (nV 2), (nV 3), (nV 15), (nV 16), (nV 255)]) et_29 hf hm rfl rfl (by kernel_rfl) rfl rfl) ?_)))
    rintro _ w ⟨b1_3, rfl, hm⟩
    replace hm := hm.lit (xs := ([0, 1, 2, 3, 15, 16, 255] : List Int)) 0 rfl rfl rfl rfl
    obtain ⟨hz1_5, hle, hm1, hsub, hk1_3⟩ := hm.take2 (L1 := [blk bp0 [v1p, (nV s0_1.1)] 72]) (L2 := [ow [(sV b1_3 0 7 7)] ([0, 1, 2, 3, 15, 16, 255] : List Int), blk b0_2 [(nV 0), (nV 0), (.slice none 0 0), (nV 0)] 68, blk b0_4 [(nV r0_1.1), (nV r0_2.1), (.slice none 0 0), (nV s0_1.2.1)] 68]) [1] [0, 2, 3] (by decide) rfl rfl
    refine gCg rfl call30 (pspec_l30Rd__num_ok _ hz1_5 (⟨r_.b, s0_1.1⟩ : l30Rd) bp0 v1p (GT.mono hle h1p) ([0, 1, 2, 3, 15, 16, 255] : List Int) (sV b1_3 0 7 7) (fz_ow (hsub 0 _ rfl)) hm1 ) ?_
    rintro r1_3 hx1_5 v1_4 w ⟨rfl, hB⟩
    replace hm := hk1_3 _ _ hB; clear hB
    exact gF fo_68_3 rfl (gS1 hm 3 sizeOf3 rfl rfl fun w hm => gE (gz hm [0, 2, 3] rfl))
   exact gcf rfl (gSk (gz hm [0, 1, 2] rfl))
  repeat clear hm
  intro s0_2 w hm
  refine gS (gS (gR (gM rfl (gC hm rfl call76 (spec_l7Makes_ok _ r0_1.1) fun r0_4 hx0_4 w hm => gN rfl (gE (gJ hm (fun s0_3 => [(0, (pV bp0)), (2, (nV regs)), (6, (pV b0_2)), (8, (pV b0_4)), (9, (nV s0_1.2.2))]) (fun s0_3 => [blk bp0 [v1p, (nV s0_2.1)] 72, blk b0_2 [(nV 0), (nV 0), (.slice none 0 0), (nV 0)] 68, blk b0_4 [(nV r0_1.1), (nV s0_3), (.slice none 0 0), (nV s0_2.2)] 68]) (fun s0_3 => ?_) ?_))))))
  ·
   refine gsn 53 rfl (fun h1_6 => ?_) fun h1_6 => ?_
   ·
    exact gct rfl (gR (gF fo_68_1 rfl (gS1 hm 2 sizeOf3 rfl rfl fun w hm => gE (gz hm [0, 1, 2] rfl))))
   exact gcf rfl (gSk (gz hm [0, 1, 2] rfl))
  repeat clear hm
  intro s0_3 w hm
  refine gS (gS (gR (gA rfl (gE (gBk (gb fun _ hfit0_1 => ?_))))))
  replace hfit0_1 := fitI_some.1 hfit0_1
  replace hm := hm.nilow (α := Int)
  refine gNg (fun i1_1 xs1_1 a w => ∃ (v1_5 : Value), St 69 [(0, (pV bp0)), (2, (nV regs)), (6, (pV b0_2)), (8, (pV b0_4)), (9, (nV s0_1.2.2)), (10, (nV i1_1))] w0 hz [blk bp0 [v1p, (nV xs1_1.1)] 72, blk b0_2 [(nV 0), (nV 0), (.slice none 0 0), (nV 0)] 68, blk b0_4 [(nV r0_1.1), (nV s0_3), v1_5, (nV s0_2.2)] 68, ow [v1_5] xs1_1.2] a w) (fun a hf => ⟨(.slice none 0 0), hf.sb rfl, hm.pk [1, 2, 3, 0] rfl rfl⟩) ?_ ?_
  ·
   repeat clear hm
   rintro _ _ i1_1 xs1_1 a w ⟨v1_5, hf, hm⟩ hi0_1 hi0_2 q0_1 _
   refine gv hf (gS (gS (gR (gM rfl (gM rfl (gB rfl (gE (go _ 57 rfl (decide_eq_true (by omega)) (gct rfl (gSk (gS (gBk (gW (.p 0 (.p 2 (.p 3 (.q 1 (.e 4 (.e 5 (.e 6 (.p 7 (.e 8 .fin .nil)) .nil) .nil) .nil))))) [4, 5] [0, 2, 3, 7] hm [1, 2, 3] [blk b0_2 [(nV 0), (nV 0), (.slice none 0 0), (nV 0)] 68, blk b0_4 [(nV r0_1.1), (nV s0_3), v1_5, (nV s0_2.2)] 68, ow [v1_5] xs1_1.2] rfl mxo (by kernel_rfl) (fun _ _ _ h => h.2) fun w hm hS => tP rfl (fun w => yF fo_68_2 rfl) (tP rfl (fun w => yM rfl) (tP rfl (fun w => yM rfl) (tQ rfl hS (fun w hm => yL hm 1 isAgg29 rfl) (tO (gb fun r1_4 hx1_6 => ?_))))))))))))))))))
   obtain ⟨hz1_7, hle, hm1, hsub, hk1_4⟩ := hm.take2 (L1 := [blk bp0 [v1p, (nV xs1_1.1)] 72]) (L2 := [blk b0_2 [(nV 0), (nV 0), (.slice none 0 0), (nV 0)] 68, blk b0_4 [(nV r0_1.1), (nV s0_3), v1_5, (nV s0_2.2)] 68, ow [v1_5] xs1_1.2]) [0] [1, 2, 3] (by decide) rfl rfl
   refine tf rfl rfl (fun a hf => e_call hf rfl call29 rfl (pspec_l30Rd__pick_ok _ hz1_7 (⟨r_.b, xs1_1.1⟩ : l30Rd) bp0 v1p (GT.mono hle h1p) regs hm1  _ hx1_6)) ?_
   rintro v1_6 w ⟨rfl, hB⟩
   replace hm := hk1_4 _ _ hB; clear hB
   refine tAk hm [1, 2, 3] rfl fun hS => tO (tf rfl rfl (fun a hf => e_build (vs := #[(0, (nV r1_4.1))]) (cs := [(nV r1_4.1)]) et_29 hf hm rfl rfl (by kernel_rfl) rfl rfl) ?_)
   rintro _ w ⟨b1_4, rfl, hm⟩
   replace hm := hm.lit (xs := ([r1_4.1] : List Int)) 0 rfl rfl rfl rfl
   refine tAk hm [2, 3, 4] rfl fun hS => tO (gb fun ys1_1 hx1_7 => ?_)
   obtain ⟨h1_7, h1_7e⟩ := appM_some.1 hx1_7
   refine tf rfl rfl (fun a hf => e_append 4 et_29 hf hm rfl (hm.ow_rep 0 rfl) rfl rfl rfl h1_7) ?_
   rintro v1_7 w hm
   rw [h1_7e] at hm
   refine tAn rfl (tP rfl (fun w => yF fo_68_2 rfl) (tO (tf0 rfl rfl (fun a hf => e_store1 3 hf hm rfl sizeOf29 rfl rfl rfl (rep_one (hm.ow_rep 4 rfl)) rfl) ?_)))
   rintro _ w hm
   exact tAn rfl (tE (gR (gM rfl (gP (by omega) (by omega) rfl (gA rfl (gE (gZe fun a hf => ⟨v1_7, hf.sb rfl, hm.pk [1, 2, 3, 4] rfl rfl⟩)))))))
  repeat clear hm
  rintro i0_1 xs0_1 a w ⟨v0_5, hf, hm⟩ hi0_3 hi0_4
  exact gv hf (gS (gS (gR (gM rfl (gM rfl (gB rfl (gE (go _ 57 rfl (decide_eq_false (by omega)) (gcf rfl (gXt (gHh (gS (gR (gY (yn (hm.blk_at 2 rfl) isAgg68 sizeOf68 rfl) (gSN hm 1 sizeOf68 (one_cons rfl (one_cons rfl (one_cons (rep_one (hm.ow_rep 3 rfl)) (one_cons rfl one_nil)))) rfl fun w hm => gE (gRt (grc 1 results74 hm rfl isAgg68 sizeOf68 ⟨v0_5, rfl, hm.pk [0, 3] rfl rfl⟩)))))))))))))))))

theorem spec_l7To_ok (w0 : World) (hz : Heap) (r_ : l30Rd) (bp0 : Nat) (v1p : Value) (h1p : GT.rep hz [v1p] r_.b) (b_ : Int) (n_ : Int) (hm0 : Mem w0 hz w0 [blk bp0 [v1p, (nV r_.p)] 72]) :
    ConM Tryd.prog 75 [(pV bp0), (nV b_), (nV n_)] w0 (spec_l7To r_ b_ n_) fun r v w' => v = (nV r.1) ∧ Mem w0 hz w' [blk bp0 [v1p, (nV r.2.p)] 72] := by
  unfold spec_l7To
  refine gcon func75 rfl fun r => ?_
  have hm := hm0
  refine gS (gR (gA rfl (gE (gS (gS (gJ hm (fun s0_1 => [(0, (pV bp0)), (1, (nV b_)), (2, (nV n_)), (15, (.bool (s0_1.2)))]) (fun s0_1 => [blk bp0 [v1p, (nV s0_1.1)] 72]) (fun s0_1 => ?_) ?_))))))
  ·
   refine gR (gM rfl (gM rfl (gB rfl (gB rfl (gM rfl (gsd 11 rfl (fun h1_1 => ?_) fun h1_1 => ?_))))))
   ·
    refine gM rfl ?_
    obtain ⟨hz1_1, hle, hm1, hsub, hk1_1⟩ := hm.take2 (L1 := [blk bp0 [v1p, (nV r_.p)] 72]) (L2 := []) [0] [] (by decide) rfl rfl
    refine gCg rfl call29 (pspec_l30Rd__pick_ok _ hz1_1 r_ bp0 v1p (GT.mono hle h1p) 4 hm1 ) ?_
    rintro r1_1 hx1_1 v1_1 w ⟨rfl, hB⟩
    replace hm := hk1_1 _ _ hB; clear hB
    exact gB rfl (gKt rfl (gE (gz hm [0] rfl)))
   exact gO rfl (gO rfl (gO rfl (gKf rfl (gE (gz hm [0] rfl)))))
  repeat clear hm
  intro s0_1 w hm
  refine gs 15 rfl (fun h0_1 => ?_) fun h0_1 => ?_
  ·
   refine gct rfl (gS (gR (gM rfl (gB rfl (gM rfl (gM rfl (gB rfl (gM rfl (gB rfl ?_)))))))))
   obtain ⟨hz0_1, hle, hm1, hsub, hk0_1⟩ := hm.take2 (L1 := [blk bp0 [v1p, (nV s0_1.1)] 72]) (L2 := []) [0] [] (by decide) rfl rfl
   refine gCg rfl call29 (pspec_l30Rd__pick_ok _ hz0_1 (⟨r_.b, s0_1.1⟩ : l30Rd) bp0 v1p (GT.mono hle h1p) (w64 ((w64 (n_ - 1)) - b_)) hm1 ) ?_
   rintro r0_1 hx0_1 v0_1 w ⟨rfl, hB⟩
   replace hm := hk0_1 _ _ hB; clear hB
   exact gB rfl (gA rfl (gE (gRt (gr1 results75 rfl ⟨rfl, hm.pk [0] rfl rfl⟩))))
  refine gcf rfl (gSk (gS (gR (gM rfl (gM rfl (gB rfl ?_))))))
  obtain ⟨hz0_3, hle, hm1, hsub, hk0_2⟩ := hm.take2 (L1 := [blk bp0 [v1p, (nV s0_1.1)] 72]) (L2 := []) [0] [] (by decide) rfl rfl
  refine gCg rfl call29 (pspec_l30Rd__pick_ok _ hz0_3 (⟨r_.b, s0_1.1⟩ : l30Rd) bp0 v1p (GT.mono hle h1p) (w64 (n_ - 1)) hm1 ) ?_
  rintro r0_2 hx0_2 v0_2 w ⟨rfl, hB⟩
  replace hm := hk0_2 _ _ hB; clear hB
  exact gB rfl (gA rfl (gE (gRt (gr1 results75 rfl ⟨rfl, hm.pk [0] rfl rfl⟩))))

theorem spec_l7Code_ok (w0 : World) (hz : Heap) (r_ : l30Rd) (bp0 : Nat) (v1p : Value) (h1p : GT.rep hz [v1p] r_.b) (u : Unit_) (v1 : Value) (h1 : GT.rep hz [v1] u.codes) (hm0 : Mem w0 hz w0 [blk bp0 [v1p, (nV r_.p)] 72]) :
    ConM Tryd.prog 50 [(pV bp0), (.agg #[v1])] w0 (spec_l7Code r_ u) fun r v w' => ∃ (x1 : Value), v = (.agg #[(nV r.1.params), (nV r.1.regs), x1]) ∧ Mem w0 hz w' [blk bp0 [v1p, (nV r.2.p)] 72, ow [x1] r.1.blocks] := by
  unfold spec_l7Code
  refine gcon func50 rfl fun r => ?_
  have hm := hm0
  refine gS (gR (gBx hm rfl fun b0_1 w hm => gAl hm zeroValue45 rfl fun b0_2 w hm => gE (gS (gR (gM rfl (gf rfl (fun a hf => e_build (vs := #[(0, (nV 1)), (1, (nV 0)), (2, (nV 2)), (3, (nV 3))]) (cs := [(nV 1), (nV 0), (nV 2), (nV 3)]) et_29 hf hm rfl rfl (by kernel_rfl) rfl rfl) ?_))))))
  rintro _ w ⟨b0_3, rfl, hm⟩
  replace hm := hm.lit (xs := ([1, 0, 2, 3] : List Int)) 0 rfl rfl rfl rfl
  obtain ⟨hz0_1, hle, hm1, hsub, hk0_1⟩ := hm.take2 (L1 := [blk bp0 [v1p, (nV r_.p)] 72]) (L2 := [ow [(sV b0_3 0 4 4)] ([1, 0, 2, 3] : List Int), blk b0_2 [(nV 0), (nV 0), (.slice none 0 0)] 45, blk b0_1 [v1] 25]) [3] [0, 1, 2] (by decide) rfl rfl
  refine gCg rfl call30 (pspec_l30Rd__num_ok _ hz0_1 r_ bp0 v1p (GT.mono hle h1p) ([1, 0, 2, 3] : List Int) (sV b0_3 0 4 4) (fz_ow (hsub 0 _ rfl)) hm1 ) ?_
  rintro r0_1 hx0_1 v0_1 w ⟨rfl, hB⟩
  replace hm := hk0_1 _ _ hB; clear hB
  refine gY (yG rfl (y_build (vs := [(0, (nV r0_1.1))]) (cs := #[(nV r0_1.1), (nV 0), (.slice none 0 0)]) rfl rfl (by kernel_rfl))) (gAl hm zeroValue45 rfl fun b0_4 w hm => gSN hm 0 sizeOf45 (one_cons rfl (one_cons rfl (one_cons rfl one_nil))) rfl fun w hm => gE (gS (gW (.p 0 (.p 3 (.q 1 (.p 2 (.e 4 (.p 5 (.p 6 (.e 7 .fin .nil))) .nil))))) [4] [0, 2, 3, 5, 6] hm [0, 2, 3, 4] [blk b0_4 [(nV r0_1.1), (nV 0), (.slice none 0 0)] 45, ow [(sV b0_3 0 4 4)] ([1, 0, 2, 3] : List Int), blk b0_2 [(nV 0), (nV 0), (.slice none 0 0)] 45, blk b0_1 [v1] 25] rfl mxo (by kernel_rfl) (fun _ _ _ h => h.2) fun w hm hS => tP rfl (fun w => yF fo_45_0 rfl) (tP rfl (fun w => yM rfl) (tQ rfl hS (fun w hm => yL hm 0 isAgg3 rfl) (tP rfl (fun w => yB rfl) (tO (gb fun r0_2 hx0_2 => ?_))))))))
  obtain ⟨hz0_3, hle, hm1, hsub, hk0_2⟩ := hm.take2 (L1 := [blk bp0 [v1p, (nV r0_1.2.p)] 72]) (L2 := [blk b0_4 [(nV r0_1.1), (nV 0), (.slice none 0 0)] 45, ow [(sV b0_3 0 4 4)] ([1, 0, 2, 3] : List Int), blk b0_2 [(nV 0), (nV 0), (.slice none 0 0)] 45, blk b0_1 [v1] 25]) [1] [0, 2, 3, 4] (by decide) rfl rfl
  refine tf rfl rfl (fun a hf => e_call hf rfl call29 rfl (pspec_l30Rd__pick_ok _ hz0_3 (⟨r_.b, r0_1.2.p⟩ : l30Rd) bp0 v1p (GT.mono hle h1p) 5 hm1  _ hx0_2)) ?_
  rintro v0_2 w ⟨rfl, hB⟩
  replace hm := hk0_2 _ _ hB; clear hB
  refine tAk hm [1, 2, 3, 4] rfl fun hS => tP rfl (fun w => yB rfl) (tP rfl (fun w => yF fo_45_1 rfl) (tO (tf0 rfl rfl (fun a hf => e_store1 1 hf hm rfl sizeOf3 rfl rfl rfl rfl rfl) ?_)))
  rintro _ w hm
  refine tAn rfl (tE (gS (gR (gM rfl (gf rfl (fun a hf => e_build (vs := #[(0, (nV 3)), (1, (nV 5)), (2, (nV 2)), (3, (nV 1)), (4, (nV 7)), (5, (nV 4))]) (cs := [(nV 3), (nV 5), (nV 2), (nV 1), (nV 7), (nV 4)]) et_29 hf hm rfl rfl (by kernel_rfl) rfl rfl) ?_)))))
  rintro _ w ⟨b0_5, rfl, hm⟩
  replace hm := hm.lit (xs := ([3, 5, 2, 1, 7, 4] : List Int)) 0 rfl rfl rfl rfl
  obtain ⟨hz0_5, hle, hm1, hsub, hk0_3⟩ := hm.take2 (L1 := [blk bp0 [v1p, (nV r0_2.2.p)] 72]) (L2 := [ow [(sV b0_5 0 6 6)] ([3, 5, 2, 1, 7, 4] : List Int), blk b0_4 [(nV r0_1.1), (nV (w64 ((w64 (r0_1.1 + 2)) + r0_2.1))), (.slice none 0 0)] 45, ow [(sV b0_3 0 4 4)] ([1, 0, 2, 3] : List Int), blk b0_2 [(nV 0), (nV 0), (.slice none 0 0)] 45, blk b0_1 [v1] 25]) [1] [0, 2, 3, 4, 5] (by decide) rfl rfl
  refine gCg rfl call30 (pspec_l30Rd__num_ok _ hz0_5 (⟨r_.b, r0_2.2.p⟩ : l30Rd) bp0 v1p (GT.mono hle h1p) ([3, 5, 2, 1, 7, 4] : List Int) (sV b0_5 0 6 6) (fz_ow (hsub 0 _ rfl)) hm1 ) ?_
  rintro r0_3 hx0_3 v0_3 w ⟨rfl, hB⟩
  replace hm := hk0_3 _ _ hB; clear hB
  refine gA rfl (gE (gS (gS (gR (gA rfl (gE (gBk (gb fun _ hfit0_1 => ?_))))))))
  replace hfit0_1 := fitI_some.1 hfit0_1
  replace hm := hm.nilow (α := Block_)
  refine gNg (fun i1_1 xs1_1 a w => ∃ (v1_1 : Value), St 100 [(0, (pV bp0)), (3, (pV b0_1)), (4, (pV b0_2)), (5, (pV b0_4)), (6, (nV r0_3.1)), (7, (nV i1_1))] w0 hz [blk bp0 [v1p, (nV xs1_1.1)] 72, blk b0_1 [v1] 25, blk b0_2 [(nV 0), (nV 0), (.slice none 0 0)] 45, blk b0_4 [(nV r0_1.1), (nV (w64 ((w64 (r0_1.1 + 2)) + r0_2.1))), v1_1] 45, ow [v1_1] xs1_1.2] a w) (fun a hf => ⟨(.slice none 0 0), hf.sb rfl, hm.pk [1, 6, 5, 3, 0] rfl rfl⟩) ?_ ?_
  ·
   repeat clear hm
   rintro _ _ i1_1 xs1_1 a w ⟨v1_1, hf, hm⟩ hi0_1 hi0_2 q0_1 _
   refine gv hf (gS (gS (gR (gM rfl (gM rfl (gB rfl (gE (go _ 26 rfl (decide_eq_true (by omega)) (gct rfl (gSk (gS (gBk (gS (gR (gY (yG rfl (y_build (vs := []) (cs := #[(.slice none 0 0), (.slice none 0 0), (nV 0), (nV 0), (.slice none 0 0)]) rfl rfl (by kernel_rfl))) (gAl hm zeroValue65 rfl fun b1_1 w hm => gSN hm 0 sizeOf65 (one_cons rfl (one_cons rfl (one_cons rfl (one_cons rfl (one_cons rfl one_nil))))) rfl fun w hm => gE (gS (gS (gR (gM rfl (gf rfl (fun a hf => e_build (vs := #[(0, (nV 1)), (1, (nV 2)), (2, (nV 0)), (3, (nV 3)), (4, (nV 4))]) (cs := [(nV 1), (nV 2), (nV 0), (nV 3), (nV 4)]) et_29 hf hm rfl rfl (by kernel_rfl) rfl rfl) ?_)))))))))))))))))))))
   rintro _ w ⟨b1_2, rfl, hm⟩
   replace hm := hm.lit (xs := ([1, 2, 0, 3, 4] : List Int)) 0 rfl rfl rfl rfl
   obtain ⟨hz1_1, hle, hm1, hsub, hk1_1⟩ := hm.take2 (L1 := [blk bp0 [v1p, (nV xs1_1.1)] 72]) (L2 := [ow [(sV b1_2 0 5 5)] ([1, 2, 0, 3, 4] : List Int), blk b1_1 [(.slice none 0 0), (.slice none 0 0), (nV 0), (nV 0), (.slice none 0 0)] 65, blk b0_1 [v1] 25, blk b0_2 [(nV 0), (nV 0), (.slice none 0 0)] 45, blk b0_4 [(nV r0_1.1), (nV (w64 ((w64 (r0_1.1 + 2)) + r0_2.1))), v1_1] 45, ow [v1_1] xs1_1.2]) [2] [0, 1, 3, 4, 5, 6] (by decide) rfl rfl
   refine gCg rfl call30 (pspec_l30Rd__num_ok _ hz1_1 (⟨r_.b, xs1_1.1⟩ : l30Rd) bp0 v1p (GT.mono hle h1p) ([1, 2, 0, 3, 4] : List Int) (sV b1_2 0 5 5) (fz_ow (hsub 0 _ rfl)) hm1 ) ?_
   rintro r1_1 hx1_1 v1_2 w ⟨rfl, hB⟩
   replace hm := hk1_1 _ _ hB; clear hB
   refine gA rfl (gE ?_)
   obtain ⟨p1_1, c1_1, rfl, hl1_1⟩ := ro_slice (hm.ow_rep 6 rfl)
   refine gJg (fun s1_1 a w => ∃ (v1_3 : Value), St 100 [(0, (pV bp0)), (3, (pV b0_1)), (4, (pV b0_2)), (5, (pV b0_4)), (6, (nV r0_3.1)), (7, (nV i1_1)), (8, (pV b1_1))] w0 hz [blk bp0 [v1p, (nV s1_1.1)] 72, blk b0_1 [v1] 25, blk b0_2 [(nV 0), (nV 0), (.slice none 0 0)] 45, blk b0_4 [(nV r0_1.1), (nV (w64 ((w64 (r0_1.1 + 2)) + r0_2.1))), (.slice p1_1 xs1_1.2.length c1_1)] 45, ow [(.slice p1_1 xs1_1.2.length c1_1)] xs1_1.2, blk b1_1 [(.slice none 0 0), v1_3, (nV 0), (nV 0), (.slice none 0 0)] 65, ow [v1_3] s1_1.2] a w) (fun s1_1 => ?_) ?_
   ·
    refine gBk ?_
    replace hm := hm.nilow (α := Ins_)
    refine gMg (fun xs3_1 a w => ∃ (v3_1 : Value), St 100 [(0, (pV bp0)), (3, (pV b0_1)), (4, (pV b0_2)), (5, (pV b0_4)), (6, (nV r0_3.1)), (7, (nV i1_1)), (8, (pV b1_1)), (9, (nV xs3_1.2.2))] w0 hz [blk bp0 [v1p, (nV xs3_1.1)] 72, blk b0_1 [v1] 25, blk b0_2 [(nV 0), (nV 0), (.slice none 0 0)] 45, blk b0_4 [(nV r0_1.1), (nV (w64 ((w64 (r0_1.1 + 2)) + r0_2.1))), (.slice p1_1 xs1_1.2.length c1_1)] 45, ow [(.slice p1_1 xs1_1.2.length c1_1)] xs1_1.2, blk b1_1 [(.slice none 0 0), v3_1, (nV 0), (nV 0), (.slice none 0 0)] 65, ow [v3_1] xs3_1.2.1] a w) (fun a hf => ⟨(.slice none 0 0), hf.sb rfl, hm.pk [1, 4, 5, 6, 7, 3, 0] rfl rfl⟩) ?_
    repeat clear hm
    rintro r2_1 hq2_1 xs3_1 a w ⟨v3_1, hf, hm⟩ q2_1 ho2_1
    refine gv hf (gS (gS (gR (gM rfl (gB rfl (gE (gsd 34 rfl (fun h3_1 => ?_) fun h3_1 => ?_)))))))
    ·
     refine gct rfl (gSk (gS (gBk (gW (.p 0 (.p 2 (.p 4 (.q 1 (.q 3 (.e 5 (.e 6 (.e 7 (.e 8 (.p 9 (.e 10 .fin .nil)) .nil) .nil) .nil) .nil)))))) [1, 3, 5, 6, 7] [0, 2, 4, 9] hm [1, 2, 3, 4, 5, 6] [blk b0_1 [v1] 25, blk b0_2 [(nV 0), (nV 0), (.slice none 0 0)] 45, blk b0_4 [(nV r0_1.1), (nV (w64 ((w64 (r0_1.1 + 2)) + r0_2.1))), (.slice p1_1 xs1_1.2.length c1_1)] 45, ow [(.slice p1_1 xs1_1.2.length c1_1)] xs1_1.2, blk b1_1 [(.slice none 0 0), v3_1, (nV 0), (nV 0), (.slice none 0 0)] 65, ow [v3_1] xs3_1.2.1] rfl mxo (by kernel_rfl) (fun _ _ _ h => h.2) fun w hm hS => tP rfl (fun w => yF fo_65_1 rfl) (tP rfl (fun w => yM rfl) (tP rfl (fun w => yF fo_45_1 rfl) (tQ rfl hS (fun w hm => yL hm 4 isAgg63 rfl) (tQ rfl hS (fun w hm => yn (hm.blk_at 0 rfl) isAgg25 sizeOf25 rfl) (tO (tY rfl (yL hm 3 isAgg3 rfl) (tAs hS (tO (gb fun r3_1 hx3_1 => ?_)))))))))))))
     obtain ⟨hz3_1, hle, hm1, hsub, hk3_1⟩ := hm.take2 (L1 := [blk bp0 [v1p, (nV xs3_1.1)] 72]) (L2 := [blk b0_1 [v1] 25, blk b0_2 [(nV 0), (nV 0), (.slice none 0 0)] 45, blk b0_4 [(nV r0_1.1), (nV (w64 ((w64 (r0_1.1 + 2)) + r0_2.1))), (.slice p1_1 xs1_1.2.length c1_1)] 45, ow [(.slice p1_1 xs1_1.2.length c1_1)] xs1_1.2, blk b1_1 [(.slice none 0 0), v3_1, (nV 0), (nV 0), (.slice none 0 0)] 65, ow [v3_1] xs3_1.2.1]) [0] [1, 2, 3, 4, 5, 6] (by decide) rfl rfl
     refine tf rfl rfl (fun a hf => e_call hf rfl call74 rfl (spec_l7Some_ok _ hz3_1 (⟨r_.b, xs3_1.1⟩ : l30Rd) bp0 v1p (GT.mono hle h1p) u v1 (GT.mono hle h1) (w64 ((w64 (r0_1.1 + 2)) + r0_2.1)) hm1  _ hx3_1)) ?_
     rintro v3_2 w ⟨v3_3, rfl, hB⟩
     replace hm := hk3_1 _ _ hB; clear hB
     refine tAk hm [2, 3, 4, 5, 6, 7] rfl fun hS => tO (tf rfl rfl (fun a hf => e_build (vs := #[(0, (.agg #[(nV r3_1.1.op), (nV r3_1.1.to), v3_3, (nV r3_1.1.n_)]))]) (cs := [(nV r3_1.1.op), (nV r3_1.1.to), v3_3, (nV r3_1.1.n_)]) et_63 hf hm rfl rfl (by kernel_rfl) rfl rfl) ?_)
     rintro _ w ⟨b3_1, rfl, hm⟩
     replace hm := hm.els_nil (α := Ins_)
     replace hm : Mem w0 hz _ [els [] ([] : List Ins_), blk b3_1 [(nV r3_1.1.op), (nV r3_1.1.to), v3_3, (nV r3_1.1.n_)] 68, blk bp0 [v1p, (nV r3_1.2.p)] 72, ow [(nV r3_1.1.op), (nV r3_1.1.to), v3_3, (nV r3_1.1.n_)] (r3_1.1 : Ins_), blk b0_1 [v1] 25, blk b0_2 [(nV 0), (nV 0), (.slice none 0 0)] 45, blk b0_4 [(nV r0_1.1), (nV (w64 ((w64 (r0_1.1 + 2)) + r0_2.1))), (.slice p1_1 xs1_1.2.length c1_1)] 45, ow [(.slice p1_1 xs1_1.2.length c1_1)] xs1_1.2, blk b1_1 [(.slice none 0 0), v3_1, (nV 0), (nV 0), (.slice none 0 0)] 65, ow [v3_1] xs3_1.2.1] := mk_Ins_ r3_1.1.op r3_1.1.to r3_1.1.n_ hm 3 rfl
     replace hm := (hm.els_cons 0 3 (by decide) rfl rfl).pk (L' := [els [(nV r3_1.1.op), (nV r3_1.1.to), v3_3, (nV r3_1.1.n_)] ([r3_1.1] : List Ins_), blk b3_1 [(nV r3_1.1.op), (nV r3_1.1.to), v3_3, (nV r3_1.1.n_)] 68, blk bp0 [v1p, (nV r3_1.2.p)] 72, blk b0_1 [v1] 25, blk b0_2 [(nV 0), (nV 0), (.slice none 0 0)] 45, blk b0_4 [(nV r0_1.1), (nV (w64 ((w64 (r0_1.1 + 2)) + r0_2.1))), (.slice p1_1 xs1_1.2.length c1_1)] 45, ow [(.slice p1_1 xs1_1.2.length c1_1)] xs1_1.2, blk b1_1 [(.slice none 0 0), v3_1, (nV 0), (nV 0), (.slice none 0 0)] 65, ow [v3_1] xs3_1.2.1]) [0, 1, 2, 4, 5, 6, 7, 8, 9] rfl rfl
     replace hm := (hm.lit_els 1 0 (by decide) rfl rfl rfl rfl).pk (L' := [ow [(sV b3_1 0 1 1)] ([r3_1.1] : List Ins_), blk bp0 [v1p, (nV r3_1.2.p)] 72, blk b0_1 [v1] 25, blk b0_2 [(nV 0), (nV 0), (.slice none 0 0)] 45, blk b0_4 [(nV r0_1.1), (nV (w64 ((w64 (r0_1.1 + 2)) + r0_2.1))), (.slice p1_1 xs1_1.2.length c1_1)] 45, ow [(.slice p1_1 xs1_1.2.length c1_1)] xs1_1.2, blk b1_1 [(.slice none 0 0), v3_1, (nV 0), (nV 0), (.slice none 0 0)] 65, ow [v3_1] xs3_1.2.1]) [1, 2, 3, 4, 5, 6, 7, 8] rfl rfl
     refine tAk hm [2, 3, 4, 5, 6, 7] rfl fun hS => tO (gb fun ys3_1 hx3_2 => ?_)
     obtain ⟨h3_2, h3_2e⟩ := appM_some.1 hx3_2
     replace hm := (hm.both 7 0 (by decide) rfl rfl).pk (L' := [blk bp0 [v1p, (nV r3_1.2.p)] 72, blk b0_1 [v1] 25, blk b0_2 [(nV 0), (nV 0), (.slice none 0 0)] 45, blk b0_4 [(nV r0_1.1), (nV (w64 ((w64 (r0_1.1 + 2)) + r0_2.1))), (.slice p1_1 xs1_1.2.length c1_1)] 45, ow [(.slice p1_1 xs1_1.2.length c1_1)] xs1_1.2, blk b1_1 [(.slice none 0 0), v3_1, (nV 0), (nV 0), (.slice none 0 0)] 65, both (ow [v3_1] xs3_1.2.1) (ow [(sV b3_1 0 1 1)] ([r3_1.1] : List Ins_))]) [1, 2, 3, 4, 5, 6, 7] rfl rfl
     refine tf rfl rfl (fun a hf => e_appendD (xs := xs3_1.2.1) (ys := ([r3_1.1] : List Ins_)) 6 et_63 hf hm rfl rfl rfl rfl h3_2) ?_
     rintro v3_4 w hm
     rw [h3_2e] at hm
     refine tAn rfl (tP rfl (fun w => yF fo_65_1 rfl) (tO (tf0 rfl rfl (fun a hf => e_store1 5 hf hm rfl sizeOf63 rfl rfl rfl (rep_one (hm.ow_rep 6 rfl)) rfl) ?_)))
     rintro _ w hm
     exact tAn rfl (tE (gR (gM rfl (gB rfl (gA rfl (gE (gZe fun a hf => ⟨v3_4, hf.sb rfl, hm.pk [0, 1, 2, 3, 4, 5, 6] rfl rfl⟩)))))))
    exact gcf rfl (gXt (gHh (gLp ho2_1 hq2_1 (gZ fun a hf => ⟨v3_1, hf.sb rfl, hm.pk [0, 1, 2, 3, 4, 5, 6] rfl rfl⟩))))
   repeat clear hm
   rintro s1_1 a w ⟨v1_3, hf, hm⟩
   refine gv hf (gS (gR (gM rfl (gF fo_45_1 rfl (gL hm 3 isAgg3 rfl ?_)))))
   obtain ⟨hz1_3, hle, hm1, hsub, hk1_2⟩ := hm.take2 (L1 := [blk bp0 [v1p, (nV s1_1.1)] 72]) (L2 := [blk b0_1 [v1] 25, blk b0_2 [(nV 0), (nV 0), (.slice none 0 0)] 45, blk b0_4 [(nV r0_1.1), (nV (w64 ((w64 (r0_1.1 + 2)) + r0_2.1))), (.slice p1_1 xs1_1.2.length c1_1)] 45, ow [(.slice p1_1 xs1_1.2.length c1_1)] xs1_1.2, blk b1_1 [(.slice none 0 0), v1_3, (nV 0), (nV 0), (.slice none 0 0)] 65, ow [v1_3] s1_1.2]) [0] [1, 2, 3, 4, 5, 6] (by decide) rfl rfl
   refine gCg rfl call29 (pspec_l30Rd__pick_ok _ hz1_3 (⟨r_.b, s1_1.1⟩ : l30Rd) bp0 v1p (GT.mono hle h1p) (w64 ((w64 (r0_1.1 + 2)) + r0_2.1)) hm1 ) ?_
   rintro r1_2 hx1_2 v1_4 w ⟨rfl, hB⟩
   replace hm := hk1_2 _ _ hB; clear hB
   refine gF fo_65_3 rfl (gS1 hm 5 sizeOf3 rfl rfl fun w hm => gE (gS (gR (gM rfl (gf rfl (fun a hf => e_build (vs := #[(0, (nV 2)), (1, (nV 1)), (2, (nV 2)), (3, (nV 1)), (4, (nV 3))]) (cs := [(nV 2), (nV 1), (nV 2), (nV 1), (nV 3)]) et_29 hf hm rfl rfl (by kernel_rfl) rfl rfl) ?_)))))
   rintro _ w ⟨b1_3, rfl, hm⟩
   replace hm := hm.lit (xs := ([2, 1, 2, 1, 3] : List Int)) 0 rfl rfl rfl rfl
   obtain ⟨hz1_5, hle, hm1, hsub, hk1_3⟩ := hm.take2 (L1 := [blk bp0 [v1p, (nV r1_2.2.p)] 72]) (L2 := [ow [(sV b1_3 0 5 5)] ([2, 1, 2, 1, 3] : List Int), blk b0_1 [v1] 25, blk b0_2 [(nV 0), (nV 0), (.slice none 0 0)] 45, blk b0_4 [(nV r0_1.1), (nV (w64 ((w64 (r0_1.1 + 2)) + r0_2.1))), (.slice p1_1 xs1_1.2.length c1_1)] 45, ow [(.slice p1_1 xs1_1.2.length c1_1)] xs1_1.2, blk b1_1 [(.slice none 0 0), v1_3, (nV 0), (nV r1_2.1), (.slice none 0 0)] 65, ow [v1_3] s1_1.2]) [1] [0, 2, 3, 4, 5, 6, 7] (by decide) rfl rfl
   refine gCg rfl call30 (pspec_l30Rd__num_ok _ hz1_5 (⟨r_.b, r1_2.2.p⟩ : l30Rd) bp0 v1p (GT.mono hle h1p) ([2, 1, 2, 1, 3] : List Int) (sV b1_3 0 5 5) (fz_ow (hsub 0 _ rfl)) hm1 ) ?_
   rintro r1_3 hx1_3 v1_5 w ⟨rfl, hB⟩
   replace hm := hk1_3 _ _ hB; clear hB
   refine gF fo_65_2 rfl (gS1 hm 6 sizeOf3 rfl rfl fun w hm => gE (gS (gS (gJ hm (fun s1_2 => [(0, (pV bp0)), (3, (pV b0_1)), (4, (pV b0_2)), (5, (pV b0_4)), (6, (nV r0_3.1)), (7, (nV i1_1)), (8, (pV b1_1)), (68, (.bool (s1_2.2)))]) (fun s1_2 => [blk bp0 [v1p, (nV s1_2.1)] 72, blk b0_1 [v1] 25, blk b0_2 [(nV 0), (nV 0), (.slice none 0 0)] 45, blk b0_4 [(nV r0_1.1), (nV (w64 ((w64 (r0_1.1 + 2)) + r0_2.1))), (.slice p1_1 xs1_1.2.length c1_1)] 45, ow [(.slice p1_1 xs1_1.2.length c1_1)] xs1_1.2, blk b1_1 [(.slice none 0 0), v1_3, (nV r1_3.1), (nV r1_2.1), (.slice none 0 0)] 65, ow [v1_3] s1_1.2]) (fun s1_2 => ?_) ?_))))
   ·
    refine gR (gM rfl (gB rfl (gM rfl (gsd 58 rfl (fun h2_1 => ?_) fun h2_1 => ?_))))
    ·
     exact gO rfl (gO rfl (gO rfl (gO rfl (gO rfl (gO rfl (gO rfl (gO rfl (gO rfl (gKt rfl (gE (gz hm [0, 2, 3, 4, 5, 6, 7] rfl)))))))))))
    refine gM rfl (gM rfl (gB rfl (gB rfl (gM rfl (gsd 63 rfl (fun h2_2 => ?_) fun h2_2 => ?_)))))
    ·
     refine gM rfl ?_
     obtain ⟨hz2_1, hle, hm1, hsub, hk2_1⟩ := hm.take2 (L1 := [blk bp0 [v1p, (nV r1_3.2.p)] 72]) (L2 := [ow [(sV b1_3 0 5 5)] ([2, 1, 2, 1, 3] : List Int), blk b0_1 [v1] 25, blk b0_2 [(nV 0), (nV 0), (.slice none 0 0)] 45, blk b0_4 [(nV r0_1.1), (nV (w64 ((w64 (r0_1.1 + 2)) + r0_2.1))), (.slice p1_1 xs1_1.2.length c1_1)] 45, ow [(.slice p1_1 xs1_1.2.length c1_1)] xs1_1.2, blk b1_1 [(.slice none 0 0), v1_3, (nV r1_3.1), (nV r1_2.1), (.slice none 0 0)] 65, ow [v1_3] s1_1.2]) [0] [1, 2, 3, 4, 5, 6, 7] (by decide) rfl rfl
     refine gCg rfl call29 (pspec_l30Rd__pick_ok _ hz2_1 (⟨r_.b, r1_3.2.p⟩ : l30Rd) bp0 v1p (GT.mono hle h1p) 3 hm1 ) ?_
     rintro r2_2 hx2_1 v2_1 w ⟨rfl, hB⟩
     replace hm := hk2_1 _ _ hB; clear hB
     exact gB rfl (gKt rfl (gKf rfl (gE (gz hm [0, 2, 3, 4, 5, 6, 7] rfl))))
    exact gO rfl (gO rfl (gO rfl (gKf rfl (gKf rfl (gE (gz hm [0, 2, 3, 4, 5, 6, 7] rfl))))))
   repeat clear hm
   intro s1_2 w hm
   refine gJ hm (fun s1_3 => [(0, (pV bp0)), (3, (pV b0_1)), (4, (pV b0_2)), (5, (pV b0_4)), (6, (nV r0_3.1)), (7, (nV i1_1)), (8, (pV b1_1))]) (fun s1_3 => [blk bp0 [v1p, (nV s1_2.1)] 72, blk b0_1 [v1] 25, blk b0_2 [(nV 0), (nV 0), (.slice none 0 0)] 45, blk b0_4 [(nV r0_1.1), (nV (w64 ((w64 (r0_1.1 + 2)) + r0_2.1))), (.slice p1_1 xs1_1.2.length c1_1)] 45, ow [(.slice p1_1 xs1_1.2.length c1_1)] xs1_1.2, blk b1_1 [(.slice none 0 0), v1_3, (nV s1_3), (nV r1_2.1), (.slice none 0 0)] 65, ow [v1_3] s1_1.2]) (fun s1_3 => ?_) ?_
   ·
    refine gs 68 rfl (fun h2_3 => ?_) fun h2_3 => ?_
    ·
     exact gct rfl (gR (gF fo_65_2 rfl (gS1 hm 5 sizeOf3 rfl rfl fun w hm => gE (gz hm [0, 1, 2, 3, 4, 5, 6] rfl))))
    exact gcf rfl (gSk (gz hm [0, 1, 2, 3, 4, 5, 6] rfl))
   repeat clear hm
   intro s1_3 w hm
   refine gS (gS (gR (gF fo_65_2 rfl (gL hm 5 isAgg3 rfl (gE (gJg (fun s1_4 a w => ∃ (v1_6 : Value), St 100 [(0, (pV bp0)), (3, (pV b0_1)), (4, (pV b0_2)), (5, (pV b0_4)), (6, (nV r0_3.1)), (7, (nV i1_1)), (8, (pV b1_1))] w0 hz [blk bp0 [v1p, (nV s1_4.1)] 72, blk b0_1 [v1] 25, blk b0_2 [(nV 0), (nV 0), (.slice none 0 0)] 45, blk b0_4 [(nV r0_1.1), (nV (w64 ((w64 (r0_1.1 + 2)) + r0_2.1))), (.slice p1_1 xs1_1.2.length c1_1)] 45, ow [(.slice p1_1 xs1_1.2.length c1_1)] xs1_1.2, blk b1_1 [(.slice none 0 0), v1_3, (nV s1_3), (nV s1_4.2.1), v1_6] 65, ow [v1_3] s1_1.2, ow [v1_6] s1_4.2.2] a w) (fun s1_4 => ?_) ?_))))))
   ·
    refine gBk (gS (gR (gB rfl (gA rfl (gE (gJg (fun s2_1 a w => ∃ (v2_2 : Value), St 100 [(0, (pV bp0)), (3, (pV b0_1)), (4, (pV b0_2)), (5, (pV b0_4)), (6, (nV r0_3.1)), (7, (nV i1_1)), (8, (pV b1_1))] w0 hz [blk bp0 [v1p, (nV s2_1.1)] 72, blk b0_1 [v1] 25, blk b0_2 [(nV 0), (nV 0), (.slice none 0 0)] 45, blk b0_4 [(nV r0_1.1), (nV (w64 ((w64 (r0_1.1 + 2)) + r0_2.1))), (.slice p1_1 xs1_1.2.length c1_1)] 45, ow [(.slice p1_1 xs1_1.2.length c1_1)] xs1_1.2, blk b1_1 [(.slice none 0 0), v1_3, (nV s1_3), (nV s2_1.2.1), v2_2] 65, ow [v1_3] s1_1.2, ow [v2_2] s2_1.2.2] a w) (fun s2_1 => ?_) ?_))))))
    ·
     refine gsd 72 rfl (fun h3_3 => ?_) fun h3_3 => ?_
     ·
      refine gct rfl (gS (gR (gF fo_65_3 rfl (gS1 hm 5 sizeOf3 rfl rfl fun w hm => gE (gR (gM rfl (gM rfl (gM rfl ?_))))))))
      obtain ⟨hz3_3, hle, hm1, hsub, hk3_2⟩ := hm.take2 (L1 := [blk bp0 [v1p, (nV s1_2.1)] 72]) (L2 := [blk b0_1 [v1] 25, blk b0_2 [(nV 0), (nV 0), (.slice none 0 0)] 45, blk b0_4 [(nV r0_1.1), (nV (w64 ((w64 (r0_1.1 + 2)) + r0_2.1))), (.slice p1_1 xs1_1.2.length c1_1)] 45, ow [(.slice p1_1 xs1_1.2.length c1_1)] xs1_1.2, blk b1_1 [(.slice none 0 0), v1_3, (nV s1_3), (nV 0), (.slice none 0 0)] 65, ow [v1_3] s1_1.2]) [0] [1, 2, 3, 4, 5, 6] (by decide) rfl rfl
      refine gCg rfl call75 (spec_l7To_ok _ hz3_3 (⟨r_.b, s1_2.1⟩ : l30Rd) bp0 v1p (GT.mono hle h1p) i1_1 r0_3.1 hm1 ) ?_
      rintro r3_2 hx3_3 v3_5 w ⟨rfl, hB⟩
      replace hm := hk3_2 _ _ hB; clear hB
      refine gf rfl (fun a hf => e_build (vs := #[(0, (nV r3_2.1))]) (cs := [(nV r3_2.1)]) et_29 hf hm rfl rfl (by kernel_rfl) rfl rfl) ?_
      rintro _ w ⟨b3_2, rfl, hm⟩
      replace hm := hm.lit (xs := ([r3_2.1] : List Int)) 0 rfl rfl rfl rfl
      exact gF fo_65_4 rfl (gS1 hm 6 sizeOf29 rfl rfl fun w hm => gE (gZ fun a hf => ⟨(sV b3_2 0 1 1), hf.sb rfl, hm.pk [1, 2, 3, 4, 5, 6, 7, 0] rfl rfl⟩))
     refine gcf rfl (gS (gR (gB rfl (gA rfl (gE (gJg (fun s3_1 a w => ∃ (v3_6 : Value), St 100 [(0, (pV bp0)), (3, (pV b0_1)), (4, (pV b0_2)), (5, (pV b0_4)), (6, (nV r0_3.1)), (7, (nV i1_1)), (8, (pV b1_1))] w0 hz [blk bp0 [v1p, (nV s3_1.1)] 72, blk b0_1 [v1] 25, blk b0_2 [(nV 0), (nV 0), (.slice none 0 0)] 45, blk b0_4 [(nV r0_1.1), (nV (w64 ((w64 (r0_1.1 + 2)) + r0_2.1))), (.slice p1_1 xs1_1.2.length c1_1)] 45, ow [(.slice p1_1 xs1_1.2.length c1_1)] xs1_1.2, blk b1_1 [(.slice none 0 0), v1_3, (nV s1_3), (nV r1_2.1), v3_6] 65, ow [v1_3] s1_1.2, ow [v3_6] s3_1.2] a w) (fun s3_1 => ?_) ?_))))))
     ·
      refine gsd 81 rfl (fun h4_1 => ?_) fun h4_1 => ?_
      ·
       refine gct rfl (gR (gM rfl (gM rfl (gM rfl ?_))))
       obtain ⟨hz4_1, hle, hm1, hsub, hk4_1⟩ := hm.take2 (L1 := [blk bp0 [v1p, (nV s1_2.1)] 72]) (L2 := [blk b0_1 [v1] 25, blk b0_2 [(nV 0), (nV 0), (.slice none 0 0)] 45, blk b0_4 [(nV r0_1.1), (nV (w64 ((w64 (r0_1.1 + 2)) + r0_2.1))), (.slice p1_1 xs1_1.2.length c1_1)] 45, ow [(.slice p1_1 xs1_1.2.length c1_1)] xs1_1.2, blk b1_1 [(.slice none 0 0), v1_3, (nV s1_3), (nV r1_2.1), (.slice none 0 0)] 65, ow [v1_3] s1_1.2]) [0] [1, 2, 3, 4, 5, 6] (by decide) rfl rfl
       refine gCg rfl call75 (spec_l7To_ok _ hz4_1 (⟨r_.b, s1_2.1⟩ : l30Rd) bp0 v1p (GT.mono hle h1p) i1_1 r0_3.1 hm1 ) ?_
       rintro r4_1 hx4_1 v4_1 w ⟨rfl, hB⟩
       replace hm := hk4_1 _ _ hB; clear hB
       refine gM rfl (gM rfl (gM rfl ?_))
       obtain ⟨hz4_3, hle, hm1, hsub, hk4_2⟩ := hm.take2 (L1 := [blk bp0 [v1p, (nV r4_1.2.p)] 72]) (L2 := [blk b0_1 [v1] 25, blk b0_2 [(nV 0), (nV 0), (.slice none 0 0)] 45, blk b0_4 [(nV r0_1.1), (nV (w64 ((w64 (r0_1.1 + 2)) + r0_2.1))), (.slice p1_1 xs1_1.2.length c1_1)] 45, ow [(.slice p1_1 xs1_1.2.length c1_1)] xs1_1.2, blk b1_1 [(.slice none 0 0), v1_3, (nV s1_3), (nV r1_2.1), (.slice none 0 0)] 65, ow [v1_3] s1_1.2]) [0] [1, 2, 3, 4, 5, 6] (by decide) rfl rfl
       refine gCg rfl call75 (spec_l7To_ok _ hz4_3 (⟨r_.b, r4_1.2.p⟩ : l30Rd) bp0 v1p (GT.mono hle h1p) i1_1 r0_3.1 hm1 ) ?_
       rintro r4_2 hx4_2 v4_2 w ⟨rfl, hB⟩
       replace hm := hk4_2 _ _ hB; clear hB
       refine gf rfl (fun a hf => e_build (vs := #[(0, (nV r4_1.1)), (1, (nV r4_2.1))]) (cs := [(nV r4_1.1), (nV r4_2.1)]) et_29 hf hm rfl rfl (by kernel_rfl) rfl rfl) ?_
       rintro _ w ⟨b4_1, rfl, hm⟩
       replace hm := hm.lit (xs := ([r4_1.1, r4_2.1] : List Int)) 0 rfl rfl rfl rfl
       exact gF fo_65_4 rfl (gS1 hm 6 sizeOf29 rfl rfl fun w hm => gE (gZ fun a hf => ⟨(sV b4_1 0 2 2), hf.sb rfl, hm.pk [1, 2, 3, 4, 5, 6, 7, 0] rfl rfl⟩))
      refine gcf rfl (gSk ?_)
      replace hm := hm.nilow (α := Int)
      exact gZ fun a hf => ⟨(.slice none 0 0), hf.sb rfl, hm.pk [1, 2, 3, 4, 5, 6, 7, 0] rfl rfl⟩
     repeat clear hm
     rintro s3_1 a w ⟨v3_6, hf, hm⟩
     exact gv hf (gZ fun a hf => ⟨v3_6, hf.sb rfl, hm.pk [0, 1, 2, 3, 4, 5, 6, 7] rfl rfl⟩)
    repeat clear hm
    rintro s2_1 a w ⟨v2_2, hf, hm⟩
    exact gv hf (gZ fun a hf => ⟨v2_2, hf.sb rfl, hm.pk [0, 1, 2, 3, 4, 5, 6, 7] rfl rfl⟩)
   repeat clear hm
   rintro s1_4 a w ⟨v1_6, hf, hm⟩
   refine gv hf (gR (gF fo_45_2 rfl (gL hm 3 isAgg43 rfl (gY (yn (hm.blk_at 5 rfl) isAgg65 sizeOf65 rfl) (gf rfl (fun a hf => e_build (vs := #[(0, (.agg #[(.slice none 0 0), v1_3, (nV s1_3), (nV s1_4.2.1), v1_6]))]) (cs := [(.slice none 0 0), v1_3, (nV s1_3), (nV s1_4.2.1), v1_6]) et_43 hf hm rfl rfl (by kernel_rfl) rfl rfl) ?_)))))
   rintro _ w ⟨b1_4, rfl, hm⟩
   replace hm := hm.els_nil (α := Block_)
   replace hm := hm.nilow (α := Phi_)
   replace hm := (mk_Block_ s1_3 s1_4.2.1 hm 0 9 10 rfl).pk (L' := [ow [(.slice none 0 0), v1_3, (nV s1_3), (nV s1_4.2.1), v1_6] ((⟨[], s1_1.2, s1_3, s1_4.2.1, s1_4.2.2⟩ : Block_) : Block_), els [] ([] : List Block_), blk b1_4 [(.slice none 0 0), v1_3, (nV s1_3), (nV s1_4.2.1), v1_6] 65, blk bp0 [v1p, (nV s1_4.1)] 72, blk b0_1 [v1] 25, blk b0_2 [(nV 0), (nV 0), (.slice none 0 0)] 45, blk b0_4 [(nV r0_1.1), (nV (w64 ((w64 (r0_1.1 + 2)) + r0_2.1))), (.slice p1_1 xs1_1.2.length c1_1)] 45, ow [(.slice p1_1 xs1_1.2.length c1_1)] xs1_1.2, blk b1_1 [(.slice none 0 0), v1_3, (nV s1_3), (nV s1_4.2.1), v1_6] 65]) [0, 1, 2, 3, 4, 5, 6, 7, 8] rfl rfl
   replace hm := (hm.els_cons 1 0 (by decide) rfl rfl).pk (L' := [els [(.slice none 0 0), v1_3, (nV s1_3), (nV s1_4.2.1), v1_6] ([(⟨[], s1_1.2, s1_3, s1_4.2.1, s1_4.2.2⟩ : Block_)] : List Block_), blk b1_4 [(.slice none 0 0), v1_3, (nV s1_3), (nV s1_4.2.1), v1_6] 65, blk bp0 [v1p, (nV s1_4.1)] 72, blk b0_1 [v1] 25, blk b0_2 [(nV 0), (nV 0), (.slice none 0 0)] 45, blk b0_4 [(nV r0_1.1), (nV (w64 ((w64 (r0_1.1 + 2)) + r0_2.1))), (.slice p1_1 xs1_1.2.length c1_1)] 45, ow [(.slice p1_1 xs1_1.2.length c1_1)] xs1_1.2, blk b1_1 [(.slice none 0 0), v1_3, (nV s1_3), (nV s1_4.2.1), v1_6] 65]) [1, 2, 3, 4, 5, 6, 7, 8] rfl rfl
   replace hm := (hm.lit_els 1 0 (by decide) rfl rfl rfl rfl).pk (L' := [ow [(sV b1_4 0 1 1)] ([(⟨[], s1_1.2, s1_3, s1_4.2.1, s1_4.2.2⟩ : Block_)] : List Block_), blk bp0 [v1p, (nV s1_4.1)] 72, blk b0_1 [v1] 25, blk b0_2 [(nV 0), (nV 0), (.slice none 0 0)] 45, blk b0_4 [(nV r0_1.1), (nV (w64 ((w64 (r0_1.1 + 2)) + r0_2.1))), (.slice p1_1 xs1_1.2.length c1_1)] 45, ow [(.slice p1_1 xs1_1.2.length c1_1)] xs1_1.2, blk b1_1 [(.slice none 0 0), v1_3, (nV s1_3), (nV s1_4.2.1), v1_6] 65]) [1, 2, 3, 4, 5, 6, 7] rfl rfl
   refine gb fun ys1_1 hx1_4 => ?_
   obtain ⟨h1_1, h1_1e⟩ := appM_some.1 hx1_4
   replace hm := (hm.both 5 0 (by decide) rfl rfl).pk (L' := [blk bp0 [v1p, (nV s1_4.1)] 72, blk b0_1 [v1] 25, blk b0_2 [(nV 0), (nV 0), (.slice none 0 0)] 45, blk b0_4 [(nV r0_1.1), (nV (w64 ((w64 (r0_1.1 + 2)) + r0_2.1))), (.slice p1_1 xs1_1.2.length c1_1)] 45, both (ow [(.slice p1_1 xs1_1.2.length c1_1)] xs1_1.2) (ow [(sV b1_4 0 1 1)] ([(⟨[], s1_1.2, s1_3, s1_4.2.1, s1_4.2.2⟩ : Block_)] : List Block_)), blk b1_1 [(.slice none 0 0), v1_3, (nV s1_3), (nV s1_4.2.1), v1_6] 65]) [1, 2, 3, 4, 5, 6] rfl rfl
   refine gf rfl (fun a hf => e_appendD (xs := xs1_1.2) (ys := ([(⟨[], s1_1.2, s1_3, s1_4.2.1, s1_4.2.2⟩ : Block_)] : List Block_)) 4 et_43 hf hm rfl rfl rfl rfl h1_1) ?_
   rintro v1_7 w hm
   rw [h1_1e] at hm
   exact gF fo_45_2 rfl (gS1 hm 3 sizeOf43 (rep_one (hm.ow_rep 4 rfl)) rfl fun w hm => gE (gR (gM rfl (gP (by omega) (by omega) rfl (gA rfl (gE (gZe fun a hf => ⟨v1_7, hf.sb rfl, hm.pk [0, 1, 2, 3, 4] rfl rfl⟩)))))))
  repeat clear hm
  rintro i0_1 xs0_1 a w ⟨v0_4, hf, hm⟩ hi0_3 hi0_4
  exact gv hf (gS (gS (gR (gM rfl (gM rfl (gB rfl (gE (go _ 26 rfl (decide_eq_false (by omega)) (gcf rfl (gXt (gHh (gS (gR (gY (yn (hm.blk_at 3 rfl) isAgg45 sizeOf45 rfl) (gSN hm 2 sizeOf45 (one_cons rfl (one_cons rfl (one_cons (rep_one (hm.ow_rep 4 rfl)) one_nil))) rfl fun w hm => gE (gRt (grc 2 results50 hm rfl isAgg45 sizeOf45 ⟨v0_4, rfl, hm.pk [0, 4] rfl rfl⟩)))))))))))))))))

theorem spec_l7Preds_ok (w0 : World) (c_ : Code_) (v1 : Value) (h1 : GT.rep (hp w0) [v1] c_.blocks) (b_ : Int) :
    ConM Tryd.prog 51 [(.agg #[(nV c_.params), (nV c_.regs), v1]), (nV b_)] w0 (spec_l7Preds c_ b_) fun r v w' => ∃ (x1 : Value), v = x1 ∧ Mem w0 (hp w0) w' [ow [x1] r] := by
  unfold spec_l7Preds
  refine gcon func51 rfl fun r => ?_
  have hm := Mem.start w0
  refine gS (gR (gBx hm rfl fun b0_1 w hm => gA rfl (gE (gS (gR (gf rfl (fun a hf => e_build0 (α := Int) et_29 hm rfl) ?_))))))
  rintro v0_1 w hm
  refine gA rfl (gE (gS (gS (gR (gA rfl (gE ?_))))))
  obtain ⟨p0_1, c0_1, rfl, hl0_1⟩ := ro_slice (hm.ow_rep 0 rfl)
  refine gBk (gNg (fun i1_1 xs1_1 a w => ∃ (v1_1 : Value), St 43 [(1, (nV b_)), (2, (pV b0_1)), (5, v1_1), (6, (nV i1_1))] w0 (hp w0) [blk b0_1 [(nV c_.params), (nV c_.regs), v1] 45, ow [v1_1] xs1_1] a w) (fun a hf => ⟨(.slice p0_1 ([] : List Int).length c0_1), hf.sb rfl, hm.pk [1, 0] rfl rfl⟩) ?_ ?_)
  ·
   repeat clear hm
   rintro _ _ i1_1 xs1_1 a w ⟨v1_1, hf, hm⟩ hi0_1 hi0_2 q0_1 _
   refine gv hf (gS (gS (gR (gM rfl (gF fo_45_2 rfl (gL hm 0 isAgg43 rfl ?_))))))
   obtain ⟨p1_1, c1_1, rfl, hl1_1⟩ := ro_slice h1
   refine gY (yV st_43 rfl) (gB rfl (gE (go _ 13 rfl (decide_eq_true (by omega)) (gct rfl (gSk (gS (gBk (gS (gR (gA rfl (gE ?_)))))))))))
   obtain ⟨p1_2, c1_2, rfl, hl1_2⟩ := ro_slice (hm.ow_rep 1 rfl)
   refine gJg (fun s1_1 a w => ∃ (v1_2 : Value), St 43 [(1, (nV b_)), (2, (pV b0_1)), (5, v1_2), (6, (nV i1_1))] w0 (hp w0) [blk b0_1 [(nV c_.params), (nV c_.regs), (.slice p1_1 c_.blocks.length c1_1)] 45, ow [v1_2] s1_1] a w) (fun s1_1 => ?_) ?_
   ·
    refine gBk (gMf hm (fun xs3_1 => [(1, (nV b_)), (2, (pV b0_1)), (5, (.slice p1_2 xs1_1.length c1_2)), (6, (nV i1_1)), (7, (nV xs3_1))]) (fun xs3_1 => [blk b0_1 [(nV c_.params), (nV c_.regs), (.slice p1_1 c_.blocks.length c1_1)] 45, ow [(.slice p1_2 xs1_1.length c1_2)] xs1_1]) [0, 1] rfl ?_)
    repeat clear hm
    intro r2_1 hq2_1 xs3_1 w hm q2_1 ho2_1
    refine gS (gS (gR (gM rfl (gF fo_45_2 rfl (gL hm 0 isAgg43 rfl (gM rfl (gg fun x3_1 h3_1 hx3_2 => ?_)))))))
    obtain ⟨b3_1, o3_1, c3_1, he⟩ := idx_form' h1 hx3_2
    simp only [Value.slice.injEq, Option.some.injEq] at he; obtain ⟨rfl, _, rfl⟩ := he
    obtain ⟨v3_1, v3_2, v3_3, hc3_1, h3_2, h3_3, h3_4⟩ := rk_Block_ h1 hx3_2
    refine gI st_43 h3_1 (idx_lt hx3_2) rfl (gF fo_65_4 rfl (gY (yl isAgg29 ((hc3_1.mono hm.lez).cell (j := 4) rfl) rfl) ?_))
    obtain ⟨p3_1, c3_2, rfl, hl3_1⟩ := ro_slice h3_4
    refine gY (yV st_29 rfl) (gB rfl (gE (gsd 24 rfl (fun h3_5 => ?_) fun h3_5 => ?_)))
    ·
     refine gct rfl (gSk (gS (gBk (gS (gR (gF fo_45_2 rfl (gL hm 0 isAgg43 rfl (gM rfl (gI st_43 h3_1 (idx_lt hx3_2) rfl (gF fo_65_4 rfl (gY (yl isAgg29 ((hc3_1.mono hm.lez).cell (j := 4) rfl) rfl) (gM rfl (gg fun x3_2 h3_6 hx3_4 => ?_)))))))))))))
     obtain ⟨b3_2, o3_2, c3_3, he⟩ := idx_form h3_4 hx3_4
     simp only [Value.slice.injEq, Option.some.injEq] at he; obtain ⟨rfl, _, rfl⟩ := he
     refine gI st_29 h3_6 (idx_lt hx3_4) rfl (gY (yl isAgg3 ((flat_cells (cs := [(nV x3_2)]) (hm.now h3_4) hx3_4 rfl).cell (j := 0) rfl) rfl) (gM rfl (gB rfl (gE (gsd 37 rfl (fun h3_7 => ?_) fun h3_7 => ?_)))))
     ·
      refine gct rfl (gS (gR (gM rfl (gM rfl (gf rfl (fun a hf => e_build (vs := #[(0, (nV i1_1))]) (cs := [(nV i1_1)]) et_29 hf hm rfl rfl (by kernel_rfl) rfl rfl) ?_)))))
      rintro _ w ⟨b3_3, rfl, hm⟩
      replace hm := hm.lit (xs := ([i1_1] : List Int)) 0 rfl rfl rfl rfl
      refine gb fun ys3_1 hx3_5 => ?_
      obtain ⟨h3_8, h3_8e⟩ := appM_some.1 hx3_5
      refine gf rfl (fun a hf => e_append 2 et_29 hf hm rfl (hm.ow_rep 0 rfl) rfl rfl rfl h3_8) ?_
      rintro v3_4 w hm
      rw [h3_8e] at hm
      exact gA rfl (gE (gXt (gHm rfl (gHh (gLp ho2_1 hq2_1 (gZ fun a hf => ⟨v3_4, hf.sb rfl, hm.pk [1, 2] rfl rfl⟩))))))
     exact gcf rfl (gSk (gR (gM rfl (gB rfl (gA rfl (gE (gze hm [0, 1] rfl)))))))
    exact gcf rfl (gXt (gHh (gLp ho2_1 hq2_1 (gZ fun a hf => ⟨(.slice p1_2 xs1_1.length c1_2), hf.sb rfl, hm.pk [0, 1] rfl rfl⟩))))
   repeat clear hm
   rintro s1_1 a w ⟨v1_2, hf, hm⟩
   exact gv hf (gR (gM rfl (gP (by omega) (by omega) rfl (gA rfl (gE (gZe fun a hf => ⟨v1_2, hf.sb rfl, hm.pk [0, 1] rfl rfl⟩))))))
  repeat clear hm
  rintro i0_1 xs0_1 a w ⟨v0_2, hf, hm⟩ hi0_3 hi0_4
  refine gv hf (gS (gS (gR (gM rfl (gF fo_45_2 rfl (gL hm 0 isAgg43 rfl ?_))))))
  obtain ⟨p0_2, c0_2, rfl, hl0_2⟩ := ro_slice h1
  exact gY (yV st_43 rfl) (gB rfl (gE (go _ 13 rfl (decide_eq_false (by omega)) (gcf rfl (gXt (gHh (gS (gR (gM rfl (gA rfl (gE (gRt (gr1 results51 rfl ⟨v0_2, rfl, hm.pk [1] rfl rfl⟩)))))))))))))

theorem spec_l7Unit_ok (w0 : World) (hz : Heap) (r_ : l30Rd) (bp0 : Nat) (v1p : Value) (h1p : GT.rep hz [v1p] r_.b) (hm0 : Mem w0 hz w0 [blk bp0 [v1p, (nV r_.p)] 72]) :
    ConM Tryd.prog 28 [(pV bp0)] w0 (spec_l7Unit r_) fun r v w' => ∃ (x1 : Value), v = (.agg #[x1]) ∧ Mem w0 hz w' [blk bp0 [v1p, (nV r.2.p)] 72, ow [x1] r.1.codes] := by
  unfold spec_l7Unit
  refine gcon func28 rfl fun r => ?_
  have hm := hm0
  refine gS (gR (gAl hm zeroValue25 rfl fun b0_1 w hm => gE (gS (gR (gY (yG rfl (y_build (vs := []) (cs := #[(.slice none 0 0)]) rfl rfl (by kernel_rfl))) (gAl hm zeroValue25 rfl fun b0_2 w hm => gSN hm 0 sizeOf25 (one_cons rfl one_nil) rfl fun w hm => gE (gS (gS (gR (gM rfl (gf rfl (fun a hf => e_build (vs := #[(0, (nV 1)), (1, (nV 2)), (2, (nV 1)), (3, (nV 3))]) (cs := [(nV 1), (nV 2), (nV 1), (nV 3)]) et_29 hf hm rfl rfl (by kernel_rfl) rfl rfl) ?_)))))))))))
  rintro _ w ⟨b0_3, rfl, hm⟩
  replace hm := hm.lit (xs := ([1, 2, 1, 3] : List Int)) 0 rfl rfl rfl rfl
  obtain ⟨hz0_1, hle, hm1, hsub, hk0_1⟩ := hm.take2 (L1 := [blk bp0 [v1p, (nV r_.p)] 72]) (L2 := [ow [(sV b0_3 0 4 4)] ([1, 2, 1, 3] : List Int), blk b0_2 [(.slice none 0 0)] 25, blk b0_1 [(.slice none 0 0)] 25]) [3] [0, 1, 2] (by decide) rfl rfl
  refine gCg rfl call30 (pspec_l30Rd__num_ok _ hz0_1 r_ bp0 v1p (GT.mono hle h1p) ([1, 2, 1, 3] : List Int) (sV b0_3 0 4 4) (fz_ow (hsub 0 _ rfl)) hm1 ) ?_
  rintro r0_1 hx0_1 v0_1 w ⟨rfl, hB⟩
  replace hm := hk0_1 _ _ hB; clear hB
  refine gA rfl (gE (gJg (fun s0_1 a w => ∃ (v0_2 : Value), St 95 [(0, (pV bp0)), (2, (pV b0_1)), (3, (pV b0_2))] w0 hz [blk bp0 [v1p, (nV s0_1.1)] 72, blk b0_1 [(.slice none 0 0)] 25, blk b0_2 [v0_2] 25, ow [v0_2] s0_1.2] a w) (fun s0_1 => ?_) ?_))
  ·
   refine gBk ?_
   replace hm := hm.nilow (α := Code_)
   refine gMg (fun xs2_1 a w => ∃ (v2_1 : Value), St 95 [(0, (pV bp0)), (2, (pV b0_1)), (3, (pV b0_2)), (4, (nV xs2_1.2.2))] w0 hz [blk bp0 [v1p, (nV xs2_1.1)] 72, blk b0_1 [(.slice none 0 0)] 25, blk b0_2 [v2_1] 25, ow [v2_1] xs2_1.2.1] a w) (fun a hf => ⟨(.slice none 0 0), hf.sb rfl, hm.pk [1, 4, 3, 0] rfl rfl⟩) ?_
   repeat clear hm
   rintro r1_1 hq1_1 xs2_1 a w ⟨v2_1, hf, hm⟩ q1_1 ho1_1
   refine gv hf (gS (gS (gR (gM rfl (gB rfl (gE (gsd 14 rfl (fun h2_1 => ?_) fun h2_1 => ?_)))))))
   ·
    refine gct rfl (gSk (gS (gBk (gW (.p 0 (.p 2 (.q 1 (.e 3 (.e 4 (.e 5 (.e 6 (.p 7 (.e 8 .fin .nil)) .nil) .nil) .nil) .nil)))) [3, 4, 5] [0, 2, 7] hm [1, 2, 3] [blk b0_1 [(.slice none 0 0)] 25, blk b0_2 [v2_1] 25, ow [v2_1] xs2_1.2.1] rfl mxo (by kernel_rfl) (fun _ _ _ h => h.2) fun w hm hS => tP rfl (fun w => yF fo_25_0 rfl) (tP rfl (fun w => yM rfl) (tQ rfl hS (fun w hm => yL hm 1 isAgg23 rfl) (tO (tY rfl (yn (hm.blk_at 2 rfl) isAgg25 sizeOf25 rfl) (tAs hS (tO (gb fun r2_1 hx2_1 => ?_)))))))))))
    obtain ⟨hz2_1, hle, hm1, hsub, hk2_1⟩ := hm.take2 (L1 := [blk bp0 [v1p, (nV xs2_1.1)] 72]) (L2 := [blk b0_1 [(.slice none 0 0)] 25, blk b0_2 [v2_1] 25, ow [v2_1] xs2_1.2.1]) [0] [1, 2, 3] (by decide) rfl rfl
    refine tf rfl rfl (fun a hf => e_call hf rfl call50 rfl (spec_l7Code_ok _ hz2_1 (⟨r_.b, xs2_1.1⟩ : l30Rd) bp0 v1p (GT.mono hle h1p) (⟨xs2_1.2.1⟩ : Unit_) v2_1 (fz_ow (hsub 2 _ rfl)) hm1  _ hx2_1)) ?_
    rintro v2_2 w ⟨v2_3, rfl, hB⟩
    replace hm := hk2_1 _ _ hB; clear hB
    refine tAk hm [2, 3, 4] rfl fun hS => tO (tf rfl rfl (fun a hf => e_build (vs := #[(0, (.agg #[(nV r2_1.1.params), (nV r2_1.1.regs), v2_3]))]) (cs := [(nV r2_1.1.params), (nV r2_1.1.regs), v2_3]) et_23 hf hm rfl rfl (by kernel_rfl) rfl rfl) ?_)
    rintro _ w ⟨b2_1, rfl, hm⟩
    replace hm := hm.els_nil (α := Code_)
    replace hm : Mem w0 hz _ [els [] ([] : List Code_), blk b2_1 [(nV r2_1.1.params), (nV r2_1.1.regs), v2_3] 45, blk bp0 [v1p, (nV r2_1.2.p)] 72, ow [(nV r2_1.1.params), (nV r2_1.1.regs), v2_3] (r2_1.1 : Code_), blk b0_1 [(.slice none 0 0)] 25, blk b0_2 [v2_1] 25, ow [v2_1] xs2_1.2.1] := mk_Code_ r2_1.1.params r2_1.1.regs hm 3 rfl
    replace hm := (hm.els_cons 0 3 (by decide) rfl rfl).pk (L' := [els [(nV r2_1.1.params), (nV r2_1.1.regs), v2_3] ([r2_1.1] : List Code_), blk b2_1 [(nV r2_1.1.params), (nV r2_1.1.regs), v2_3] 45, blk bp0 [v1p, (nV r2_1.2.p)] 72, blk b0_1 [(.slice none 0 0)] 25, blk b0_2 [v2_1] 25, ow [v2_1] xs2_1.2.1]) [0, 1, 2, 4, 5, 6] rfl rfl
    replace hm := (hm.lit_els 1 0 (by decide) rfl rfl rfl rfl).pk (L' := [ow [(sV b2_1 0 1 1)] ([r2_1.1] : List Code_), blk bp0 [v1p, (nV r2_1.2.p)] 72, blk b0_1 [(.slice none 0 0)] 25, blk b0_2 [v2_1] 25, ow [v2_1] xs2_1.2.1]) [1, 2, 3, 4, 5] rfl rfl
    refine tAk hm [2, 3, 4] rfl fun hS => tO (gb fun ys2_1 hx2_2 => ?_)
    obtain ⟨h2_2, h2_2e⟩ := appM_some.1 hx2_2
    replace hm := (hm.both 4 0 (by decide) rfl rfl).pk (L' := [blk bp0 [v1p, (nV r2_1.2.p)] 72, blk b0_1 [(.slice none 0 0)] 25, blk b0_2 [v2_1] 25, both (ow [v2_1] xs2_1.2.1) (ow [(sV b2_1 0 1 1)] ([r2_1.1] : List Code_))]) [1, 2, 3, 4] rfl rfl
    refine tf rfl rfl (fun a hf => e_appendD (xs := xs2_1.2.1) (ys := ([r2_1.1] : List Code_)) 3 et_23 hf hm rfl rfl rfl rfl h2_2) ?_
    rintro v2_4 w hm
    rw [h2_2e] at hm
    refine tAn rfl (tP rfl (fun w => yF fo_25_0 rfl) (tO (tf0 rfl rfl (fun a hf => e_store1 2 hf hm rfl sizeOf23 rfl rfl rfl (rep_one (hm.ow_rep 3 rfl)) rfl) ?_)))
    rintro _ w hm
    exact tAn rfl (tE (gR (gM rfl (gB rfl (gA rfl (gE (gZe fun a hf => ⟨v2_4, hf.sb rfl, hm.pk [0, 1, 2, 3] rfl rfl⟩)))))))
   exact gcf rfl (gXt (gHh (gLp ho1_1 hq1_1 (gZ fun a hf => ⟨v2_1, hf.sb rfl, hm.pk [0, 1, 2, 3] rfl rfl⟩))))
  repeat clear hm
  rintro s0_1 a w ⟨v0_2, hf, hm⟩
  refine gv hf (gS (gS (gR (gM rfl (gf rfl (fun a hf => e_build (vs := #[(0, (nV 0)), (1, (nV 0)), (2, (nV 1)), (3, (nV 3))]) (cs := [(nV 0), (nV 0), (nV 1), (nV 3)]) et_29 hf hm rfl rfl (by kernel_rfl) rfl rfl) ?_)))))
  rintro _ w ⟨b0_4, rfl, hm⟩
  replace hm := hm.lit (xs := ([0, 0, 1, 3] : List Int)) 0 rfl rfl rfl rfl
  obtain ⟨hz0_3, hle, hm1, hsub, hk0_2⟩ := hm.take2 (L1 := [blk bp0 [v1p, (nV s0_1.1)] 72]) (L2 := [ow [(sV b0_4 0 4 4)] ([0, 0, 1, 3] : List Int), blk b0_1 [(.slice none 0 0)] 25, blk b0_2 [v0_2] 25, ow [v0_2] s0_1.2]) [1] [0, 2, 3, 4] (by decide) rfl rfl
  refine gCg rfl call30 (pspec_l30Rd__num_ok _ hz0_3 (⟨r_.b, s0_1.1⟩ : l30Rd) bp0 v1p (GT.mono hle h1p) ([0, 0, 1, 3] : List Int) (sV b0_4 0 4 4) (fz_ow (hsub 0 _ rfl)) hm1 ) ?_
  rintro r0_2 hx0_2 v0_3 w ⟨rfl, hB⟩
  replace hm := hk0_2 _ _ hB; clear hB
  refine gA rfl (gE ?_)
  obtain ⟨p0_1, c0_1, rfl, hl0_1⟩ := ro_slice (hm.ow_rep 4 rfl)
  refine gJ hm (fun s0_2 => [(2, (pV b0_1)), (3, (pV b0_2))]) (fun s0_2 => [blk b0_1 [(.slice none 0 0)] 25, blk b0_2 [(.slice p0_1 s0_1.2.length c0_1)] 25, ow [(.slice p0_1 s0_1.2.length c0_1)] s0_2.1, blk bp0 [v1p, (nV s0_2.2)] 72]) (fun s0_2 => ?_) ?_
  ·
   refine gBk (gMf hm (fun xs2_2 => [(0, (pV bp0)), (2, (pV b0_1)), (3, (pV b0_2)), (5, (nV xs2_2.2.2))]) (fun xs2_2 => [blk bp0 [v1p, (nV xs2_2.1)] 72, blk b0_1 [(.slice none 0 0)] 25, blk b0_2 [(.slice p0_1 s0_1.2.length c0_1)] 25, ow [(.slice p0_1 s0_1.2.length c0_1)] xs2_2.2.1]) [0, 2, 3, 4] rfl ?_)
   repeat clear hm
   intro r1_2 hq1_2 xs2_2 w hm q1_2 ho1_2
   refine gS (gS (gR (gM rfl (gB rfl (gE (gsd 29 rfl (fun h2_3 => ?_) fun h2_3 => ?_))))))
   ·
    refine gct rfl (gSk (gS (gJ hm (fun s2_1 => [(0, (pV bp0)), (2, (pV b0_1)), (3, (pV b0_2)), (5, (nV xs2_2.2.2))]) (fun s2_1 => [blk bp0 [v1p, (nV s2_1.1)] 72, blk b0_1 [(.slice none 0 0)] 25, blk b0_2 [(.slice p0_1 s0_1.2.length c0_1)] 25, ow [(.slice p0_1 s0_1.2.length c0_1)] s2_1.2]) (fun s2_1 => ?_) ?_)))
    ·
     refine gBk (gS (gW (.p 0 (.p 2 (.p 3 (.q 1 (.e 4 (.p 5 (.e 6 (.p 7 (.p 8 .fin)) .nil)) .nil))))) [4, 6] [0, 2, 3, 5, 7, 8] hm [1, 2, 3] [blk b0_1 [(.slice none 0 0)] 25, blk b0_2 [(.slice p0_1 s0_1.2.length c0_1)] 25, ow [(.slice p0_1 s0_1.2.length c0_1)] xs2_2.2.1] rfl mxo (by kernel_rfl) (fun _ _ _ h => h.2) fun w hm hS => tP rfl (fun w => yF fo_25_0 rfl) (tP rfl (fun w => yM rfl) (tP rfl (fun w => yF fo_25_0 rfl) (tQ rfl hS (fun w hm => yL hm 1 isAgg23 rfl) (tO (tY rfl (yL hm 2 isAgg23 rfl) (tAs hS ?_))))))))
     have hl3_1 := rep_len (hm.ow_rep 3 rfl)
     refine tP rfl (fun w => yV st_23 rfl) (tO (gb fun r3_1 hx3_1 => ?_))
     obtain ⟨hz3_1, hle, hm1, hsub, hk3_1⟩ := hm.take2 (L1 := [blk bp0 [v1p, (nV xs2_2.1)] 72]) (L2 := [blk b0_1 [(.slice none 0 0)] 25, blk b0_2 [(.slice p0_1 s0_1.2.length c0_1)] 25, ow [(.slice p0_1 s0_1.2.length c0_1)] xs2_2.2.1]) [0] [1, 2, 3] (by decide) rfl rfl
     refine tf rfl rfl (fun a hf => e_call hf rfl call29 rfl (pspec_l30Rd__pick_ok _ hz3_1 (⟨r_.b, xs2_2.1⟩ : l30Rd) bp0 v1p (GT.mono hle h1p) (s0_1.2.length : Int) hm1  _ hx3_1)) ?_
     rintro v3_1 w ⟨rfl, hB⟩
     replace hm := hk3_1 _ _ hB; clear hB
     refine tAk hm [1, 2, 3] rfl fun hS => gg fun x3_1 h3_1 hx3_3 => ?_
     obtain ⟨b3_1, o3_1, c3_1, he⟩ := idx_form' (hm.ow_rep 3 rfl) hx3_3
     simp only [Value.slice.injEq, Option.some.injEq] at he; obtain ⟨rfl, _, rfl⟩ := he
     obtain ⟨v3_2, hc3_1, h3_2⟩ := rk_Code_ (hm.ow_rep 3 rfl) hx3_3
     have hL3_1 := rep_slice_len (hm.ow_rep 3 rfl)
     refine tP rfl (fun w => yI st_23 h3_1 (idx_lt2 hx3_3 hL3_1) rfl) (tP rfl (fun w => yA rfl) (tE ?_))
     obtain ⟨v3_3, hm⟩ := pin_Code_ hm 3 rfl hx3_3
     refine gS (gR (gM rfl (gM rfl (gY (yG rfl (y_nilptr rfl rfl)) (gF fo_45_2 rfl (gY (yl isAgg43 ((hm.holeE_at 4 rfl).cell (j := 2) rfl) rfl) ?_))))))
     obtain ⟨p3_1, c3_2, rfl, hl3_2⟩ := ro_slice (hm.ow_rep 0 rfl)
     refine gY (yV st_43 rfl) ?_
     obtain ⟨hz3_3, hle, hm1, hsub, hk3_2⟩ := hm.take2 (L1 := [blk bp0 [v1p, (nV r3_1.2.p)] 72]) (L2 := [ow [(.slice p3_1 x3_1.blocks.length c3_2)] x3_1.blocks, blk b0_1 [(.slice none 0 0)] 25, blk b0_2 [(sV b3_1 o3_1 s0_1.2.length c0_1)] 25, holeE b3_1 o3_1 s0_1.2.length c0_1 (xs2_2.2.1 : List Code_) (r3_1.1).toNat [(nV x3_1.params), (nV x3_1.regs), (.slice p3_1 x3_1.blocks.length c3_2)]]) [1] [0, 2, 3, 4] (by decide) rfl rfl
     refine gCg rfl call29 (pspec_l30Rd__pick_ok _ hz3_3 (⟨r_.b, r3_1.2.p⟩ : l30Rd) bp0 v1p (GT.mono hle h1p) (x3_1.blocks.length : Int) hm1 ) ?_
     rintro r3_2 hx3_4 v3_4 w ⟨rfl, hB⟩
     replace hm := hk3_2 _ _ hB; clear hB
     refine gA rfl (gE (gS (gR (gM rfl (gM rfl (gY (yG rfl (y_nilptr rfl rfl)) (gF fo_45_1 rfl (gY (yl isAgg3 ((hm.holeE_at 4 rfl).cell (j := 1) rfl) rfl) ?_))))))))
     obtain ⟨hz3_5, hle, hm1, hsub, hk3_3⟩ := hm.take2 (L1 := [blk bp0 [v1p, (nV r3_2.2.p)] 72]) (L2 := [ow [(.slice p3_1 x3_1.blocks.length c3_2)] x3_1.blocks, blk b0_1 [(.slice none 0 0)] 25, blk b0_2 [(sV b3_1 o3_1 s0_1.2.length c0_1)] 25, holeE b3_1 o3_1 s0_1.2.length c0_1 (xs2_2.2.1 : List Code_) (r3_1.1).toNat [(nV x3_1.params), (nV x3_1.regs), (.slice p3_1 x3_1.blocks.length c3_2)]]) [0] [1, 2, 3, 4] (by decide) rfl rfl
     refine gCg rfl call29 (pspec_l30Rd__pick_ok _ hz3_5 (⟨r_.b, r3_2.2.p⟩ : l30Rd) bp0 v1p (GT.mono hle h1p) x3_1.regs hm1 ) ?_
     rintro r3_3 hx3_5 v3_5 w ⟨rfl, hB⟩
     replace hm := hk3_3 _ _ hB; clear hB
     refine gY (yG rfl (y_build (vs := [(0, (nV r3_3.1))]) (cs := #[(nV r3_3.1), (.slice none 0 0)]) rfl rfl (by kernel_rfl))) (gAl hm zeroValue70 rfl fun b3_2 w hm => gSN hm 0 sizeOf70 (one_cons rfl (one_cons rfl one_nil)) rfl fun w hm => gE (gS (gS (gR (gM rfl (gY (yG rfl (y_nilptr rfl rfl)) (gY (yn (hm.holeE_at 5 rfl) isAgg45 sizeOf45 rfl) (gM rfl (gCg rfl call51 (spec_l7Preds_ok _ x3_1 (.slice p3_1 x3_1.blocks.length c3_2) (hm.ow_rep 2 rfl) r3_2.1) ?_)))))))))
     rintro r3_4 hx3_6 v3_6 w ⟨_, rfl, hB⟩
     replace hm := hm.give hB; clear hB
     obtain ⟨p3_2, c3_3, rfl, hl3_3⟩ := ro_slice (hm.ow_rep 0 rfl)
     refine gY (yV st_29 rfl) (gM rfl (gE (gBk ?_)))
     replace hm := hm.nilow (α := Int)
     refine gNg (fun i4_1 xs4_1 a w => ∃ (v4_1 : Value), St 95 [(0, (pV bp0)), (2, (pV b0_1)), (3, (pV b0_2)), (5, (nV xs2_2.2.2)), (6, (.pointer (some ⟨b3_1, o3_1 + (r3_1.1).toNat * 3, none⟩))), (7, (nV r3_2.1)), (8, (pV b3_2)), (59, (nV ((r3_4.length : Int)))), (60, (nV i4_1))] w0 hz [blk bp0 [v1p, (nV xs4_1.1)] 72, blk b0_1 [(.slice none 0 0)] 25, blk b0_2 [(sV b3_1 o3_1 s0_1.2.length c0_1)] 25, holeE b3_1 o3_1 s0_1.2.length c0_1 (xs2_2.2.1 : List Code_) (r3_1.1).toNat [(nV x3_1.params), (nV x3_1.regs), (.slice p3_1 x3_1.blocks.length c3_2)], ow [(.slice p3_1 x3_1.blocks.length c3_2)] x3_1.blocks, blk b3_2 [(nV r3_3.1), v4_1] 70, ow [v4_1] xs4_1.2] a w) (fun a hf => ⟨(.slice none 0 0), hf.sb rfl, hm.pk [3, 5, 6, 7, 4, 2, 0] rfl rfl⟩) ?_ ?_
     ·
      repeat clear hm
      rintro _ _ i4_1 xs4_1 a w ⟨v4_1, hf, hm⟩ hi3_1 hi3_2 q3_1 _
      refine gv hf (gS (gR (gB rfl (gE (gS (go _ 61 rfl (decide_eq_true (by omega)) (gct rfl (gSk (gS (gBk (gW (.p 0 (.p 2 (.p 3 (.p 4 (.p 5 (.q 1 (.e 6 (.e 7 (.e 8 (.e 9 (.p 10 (.e 11 .fin .nil)) .nil) .nil) .nil) .nil))))))) [6, 7, 8] [0, 2, 3, 4, 5, 10] hm [1, 2, 3, 4, 5, 6] [blk b0_1 [(.slice none 0 0)] 25, blk b0_2 [(sV b3_1 o3_1 s0_1.2.length c0_1)] 25, holeE b3_1 o3_1 s0_1.2.length c0_1 (xs2_2.2.1 : List Code_) (r3_1.1).toNat [(nV x3_1.params), (nV x3_1.regs), (.slice p3_1 x3_1.blocks.length c3_2)], ow [(.slice p3_1 x3_1.blocks.length c3_2)] x3_1.blocks, blk b3_2 [(nV r3_3.1), v4_1] 70, ow [v4_1] xs4_1.2] rfl mxo (by kernel_rfl) (fun _ _ _ h => h.2) fun w hm hS => tP rfl (fun w => yF fo_70_1 rfl) (tP rfl (fun w => yM rfl) (tP rfl (fun w => yM rfl) (tP rfl (fun w => yG rfl (y_nilptr rfl rfl)) (tP rfl (fun w => yF fo_45_1 rfl) (tQ rfl hS (fun w hm => yL hm 4 isAgg29 rfl) (tO (tY rfl (yl isAgg3 ((hm.holeE_at 3 rfl).cell (j := 1) rfl) rfl) (tAs hS (tO (gb fun r4_1 hx4_1 => ?_)))))))))))))))))))))
      obtain ⟨hz4_1, hle, hm1, hsub, hk4_1⟩ := hm.take2 (L1 := [blk bp0 [v1p, (nV xs4_1.1)] 72]) (L2 := [blk b0_1 [(.slice none 0 0)] 25, blk b0_2 [(sV b3_1 o3_1 s0_1.2.length c0_1)] 25, holeE b3_1 o3_1 s0_1.2.length c0_1 (xs2_2.2.1 : List Code_) (r3_1.1).toNat [(nV x3_1.params), (nV x3_1.regs), (.slice p3_1 x3_1.blocks.length c3_2)], ow [(.slice p3_1 x3_1.blocks.length c3_2)] x3_1.blocks, blk b3_2 [(nV r3_3.1), v4_1] 70, ow [v4_1] xs4_1.2]) [0] [1, 2, 3, 4, 5, 6] (by decide) rfl rfl
      refine tf rfl rfl (fun a hf => e_call hf rfl call29 rfl (pspec_l30Rd__pick_ok _ hz4_1 (⟨r_.b, xs4_1.1⟩ : l30Rd) bp0 v1p (GT.mono hle h1p) x3_1.regs hm1  _ hx4_1)) ?_
      rintro v4_2 w ⟨rfl, hB⟩
      replace hm := hk4_1 _ _ hB; clear hB
      refine tAk hm [1, 2, 3, 4, 5, 6] rfl fun hS => tO (tf rfl rfl (fun a hf => e_build (vs := #[(0, (nV r4_1.1))]) (cs := [(nV r4_1.1)]) et_29 hf hm rfl rfl (by kernel_rfl) rfl rfl) ?_)
      rintro _ w ⟨b4_1, rfl, hm⟩
      replace hm := hm.lit (xs := ([r4_1.1] : List Int)) 0 rfl rfl rfl rfl
      refine tAk hm [2, 3, 4, 5, 6, 7] rfl fun hS => tO (gb fun ys4_1 hx4_2 => ?_)
      obtain ⟨h4_1, h4_1e⟩ := appM_some.1 hx4_2
      refine tf rfl rfl (fun a hf => e_append 7 et_29 hf hm rfl (hm.ow_rep 0 rfl) rfl rfl rfl h4_1) ?_
      rintro v4_3 w hm
      rw [h4_1e] at hm
      refine tAn rfl (tP rfl (fun w => yF fo_70_1 rfl) (tO (tf0 rfl rfl (fun a hf => e_store1 6 hf hm rfl sizeOf29 rfl rfl rfl (rep_one (hm.ow_rep 7 rfl)) rfl) ?_)))
      rintro _ w hm
      exact tAn rfl (tE (gR (gP (by omega) (by omega) rfl (gM rfl (gE (gZe fun a hf => ⟨v4_3, hf.sb rfl, hm.pk [1, 2, 3, 4, 5, 6, 7] rfl rfl⟩))))))
     repeat clear hm
     rintro i3_1 xs3_1 a w ⟨v3_8, hf, hm⟩ hi3_3 hi3_4
     refine gv hf (gS (gR (gB rfl (gE (gS (go _ 61 rfl (decide_eq_false (by omega)) (gcf rfl (gXt (gHh (gS (gR (gM rfl (gB rfl (gE (gJ hm (fun s3_1 => [(0, (pV bp0)), (2, (pV b0_1)), (3, (pV b0_2)), (5, (nV xs2_2.2.2))]) (fun s3_1 => [blk bp0 [v1p, (nV xs3_1.1)] 72, blk b0_1 [(.slice none 0 0)] 25, blk b0_2 [(sV b3_1 o3_1 s0_1.2.length c0_1)] 25, ow [(sV b3_1 o3_1 s0_1.2.length c0_1)] s3_1]) (fun s3_1 => ?_) ?_)))))))))))))))
     ·
      refine gsd 75 rfl (fun h4_2 => ?_) fun h4_2 => ?_
      ·
       refine gct rfl (gJ hm (fun s4_1 => [(0, (pV bp0)), (2, (pV b0_1)), (3, (pV b0_2)), (5, (nV xs2_2.2.2))]) (fun s4_1 => [blk bp0 [v1p, (nV xs3_1.1)] 72, blk b0_1 [(.slice none 0 0)] 25, blk b0_2 [(sV b3_1 o3_1 s0_1.2.length c0_1)] 25, ow [(sV b3_1 o3_1 s0_1.2.length c0_1)] s4_1]) (fun s4_1 => ?_) ?_)
       ·
        refine gW (.p 0 (.p 1 (.p 2 (.p 4 (.p 5 (.p 6 (.p 7 (.p 9 (.q 3 (.q 8 (.p 10 (.p 11 (.q 13 (.e 12 (.e 14 (.e 15 (.p 16 (.p 17 (.e 18 .fin .nil))) .nil) .nil) (.e 14 (.e 12 (.e 15 (.p 16 (.p 17 (.e 18 .fin .nil))) .nil) .nil) .nil))))))))))))))) [3, 8, 12, 13, 14, 15] [0, 1, 2, 4, 5, 6, 7, 9, 10, 11, 16, 17] hm [0, 1, 2, 3, 5] [blk bp0 [v1p, (nV xs3_1.1)] 72, blk b0_1 [(.slice none 0 0)] 25, blk b0_2 [(sV b3_1 o3_1 s0_1.2.length c0_1)] 25, holeE b3_1 o3_1 s0_1.2.length c0_1 (xs2_2.2.1 : List Code_) (r3_1.1).toNat [(nV x3_1.params), (nV x3_1.regs), (.slice p3_1 x3_1.blocks.length c3_2)], blk b3_2 [(nV r3_3.1), v3_8] 70] rfl mxo (by kernel_rfl) (fun _ _ _ h => h.2) fun w hm hS => tP rfl (fun w => yM rfl) (tP rfl (fun w => yG rfl (y_nilptr rfl rfl)) (tP rfl (fun w => yF fo_45_2 rfl) (tP rfl (fun w => yM rfl) (tP rfl (fun w => yM rfl) (tP rfl (fun w => yG rfl (y_nilptr rfl rfl)) (tP rfl (fun w => yF fo_45_2 rfl) (tP rfl (fun w => yM rfl) (tQ rfl hS (fun w hm => yl isAgg43 ((hm.holeE_at 3 rfl).cell (j := 2) rfl) rfl) (tQ rfl hS (fun w hm => yl isAgg43 ((hm.holeE_at 3 rfl).cell (j := 2) rfl) rfl) (gg fun x5_1 h5_1 hx5_2 => ?_))))))))))
        obtain ⟨b5_1, o5_1, c5_1, he⟩ := idx_form' (hm.ow_rep 4 rfl) hx5_2
        simp only [Value.slice.injEq, Option.some.injEq] at he; obtain ⟨rfl, _, rfl⟩ := he
        obtain ⟨v5_1, v5_2, v5_3, hc5_1, h5_2, h5_3, h5_4⟩ := rk_Block_ (hm.ow_rep 4 rfl) hx5_2
        refine tP rfl (fun w => yI st_43 h5_1 (idx_lt hx5_2) rfl) (tP rfl (fun w => yF fo_65_0 rfl) (tQ rfl hS (fun w hm => yn (hm.blk_at 4 rfl) isAgg70 sizeOf70 rfl) (gb fun pb5_1 hpb5_1 => tMo ?_ ?_)))
        ·
         obtain ⟨v5_4, v5_5, v5_6, hm⟩ := pin_Block_ hm 4 rfl hx5_2
         refine tY rfl (yl isAgg62 ((hm.holeE_at 7 rfl).cell (j := 0) rfl) rfl) (tAk hm [3, 4, 5, 6, 8] rfl fun hS => tO (tf rfl rfl (fun a hf => e_build (vs := #[(0, (.agg #[(nV r3_3.1), v3_8]))]) (cs := [(nV r3_3.1), v3_8]) et_62 hf hm rfl rfl (by kernel_rfl) rfl rfl) ?_))
         rintro _ w ⟨b5_2, rfl, hm⟩
         replace hm := hm.els_nil (α := Phi_)
         replace hm : Mem w0 hz _ [els [] ([] : List Phi_), blk b5_2 [(nV r3_3.1), v3_8] 70, ow [v5_6] x5_1.next_, ow [v5_5] x5_1.ins, ow [v5_4] x5_1.phis, blk bp0 [v1p, (nV xs3_1.1)] 72, blk b0_1 [(.slice none 0 0)] 25, blk b0_2 [(sV b3_1 o3_1 s0_1.2.length c0_1)] 25, holeE b3_1 o3_1 s0_1.2.length c0_1 (xs2_2.2.1 : List Code_) (r3_1.1).toNat [(nV x3_1.params), (nV x3_1.regs), (sV b5_1 o5_1 x3_1.blocks.length c3_2)], holeE b5_1 o5_1 x3_1.blocks.length c3_2 (x3_1.blocks : List Block_) (r3_2.1).toNat [v5_4, v5_5, (nV x5_1.jump), (nV x5_1.on), v5_6], blk b3_2 [(nV r3_3.1), v3_8] 70, ow [(nV r3_3.1), v3_8] ((⟨r3_3.1, xs3_1.2⟩ : Phi_) : Phi_)] := mk_Phi_ r3_3.1 hm 11 rfl
         replace hm := (hm.els_cons 0 11 (by decide) rfl rfl).pk (L' := [els [(nV r3_3.1), v3_8] ([(⟨r3_3.1, xs3_1.2⟩ : Phi_)] : List Phi_), blk b5_2 [(nV r3_3.1), v3_8] 70, ow [v5_6] x5_1.next_, ow [v5_5] x5_1.ins, ow [v5_4] x5_1.phis, blk bp0 [v1p, (nV xs3_1.1)] 72, blk b0_1 [(.slice none 0 0)] 25, blk b0_2 [(sV b3_1 o3_1 s0_1.2.length c0_1)] 25, holeE b3_1 o3_1 s0_1.2.length c0_1 (xs2_2.2.1 : List Code_) (r3_1.1).toNat [(nV x3_1.params), (nV x3_1.regs), (sV b5_1 o5_1 x3_1.blocks.length c3_2)], holeE b5_1 o5_1 x3_1.blocks.length c3_2 (x3_1.blocks : List Block_) (r3_2.1).toNat [v5_4, v5_5, (nV x5_1.jump), (nV x5_1.on), v5_6], blk b3_2 [(nV r3_3.1), v3_8] 70]) [0, 1, 2, 3, 4, 5, 6, 7, 8, 9, 10] rfl rfl
         replace hm := (hm.lit_els 1 0 (by decide) rfl rfl rfl rfl).pk (L' := [ow [(sV b5_2 0 1 1)] ([(⟨r3_3.1, xs3_1.2⟩ : Phi_)] : List Phi_), ow [v5_6] x5_1.next_, ow [v5_5] x5_1.ins, ow [v5_4] x5_1.phis, blk bp0 [v1p, (nV xs3_1.1)] 72, blk b0_1 [(.slice none 0 0)] 25, blk b0_2 [(sV b3_1 o3_1 s0_1.2.length c0_1)] 25, holeE b3_1 o3_1 s0_1.2.length c0_1 (xs2_2.2.1 : List Code_) (r3_1.1).toNat [(nV x3_1.params), (nV x3_1.regs), (sV b5_1 o5_1 x3_1.blocks.length c3_2)], holeE b5_1 o5_1 x3_1.blocks.length c3_2 (x3_1.blocks : List Block_) (r3_2.1).toNat [v5_4, v5_5, (nV x5_1.jump), (nV x5_1.on), v5_6], blk b3_2 [(nV r3_3.1), v3_8] 70]) [1, 2, 3, 4, 5, 6, 7, 8, 9, 10] rfl rfl
         refine tAk hm [4, 5, 6, 7, 9] rfl fun hS => tO ?_
         obtain ⟨h5_5, h5_5e⟩ := appM_some.1 hpb5_1
         replace hm := (hm.both 3 0 (by decide) rfl rfl).pk (L' := [ow [v5_6] x5_1.next_, ow [v5_5] x5_1.ins, both (ow [v5_4] x5_1.phis) (ow [(sV b5_2 0 1 1)] ([(⟨r3_3.1, xs3_1.2⟩ : Phi_)] : List Phi_)), blk bp0 [v1p, (nV xs3_1.1)] 72, blk b0_1 [(.slice none 0 0)] 25, blk b0_2 [(sV b3_1 o3_1 s0_1.2.length c0_1)] 25, holeE b3_1 o3_1 s0_1.2.length c0_1 (xs2_2.2.1 : List Code_) (r3_1.1).toNat [(nV x3_1.params), (nV x3_1.regs), (sV b5_1 o5_1 x3_1.blocks.length c3_2)], holeE b5_1 o5_1 x3_1.blocks.length c3_2 (x3_1.blocks : List Block_) (r3_2.1).toNat [v5_4, v5_5, (nV x5_1.jump), (nV x5_1.on), v5_6], blk b3_2 [(nV r3_3.1), v3_8] 70]) [1, 2, 3, 4, 5, 6, 7, 8, 9] rfl rfl
         refine tf rfl rfl (fun a hf => e_appendD (xs := x5_1.phis) (ys := ([(⟨r3_3.1, xs3_1.2⟩ : Phi_)] : List Phi_)) 2 et_62 hf hm rfl rfl rfl rfl h5_5) ?_
         rintro v5_7 w hm
         rw [h5_5e] at hm
         refine tAk hm [3, 4, 5, 6, 8] rfl fun hS => ?_
         have hL5_1 := hm.holeE_len 7 rfl
         refine tP rfl (fun w => yI st_43 h5_1 (idx_lt2 hx5_2 hL5_1) rfl) (tP rfl (fun w => yF fo_65_0 rfl) (tO ?_))
         have h15_1 : ∀ u ∈ ([v5_7] : List Value), u.oneCell' = true := (one_cons (rep_one (hm.ow_rep 2 rfl)) one_nil)
         refine tf0 rfl rfl (fun a hf => e_storeH (j := 0) (vs := [v5_7]) 7 hf hm rfl rfl rfl sizeOf62 rfl rfl (cells_one (h15_1 _ (List.mem_singleton.2 rfl))) h15_1 rfl) ?_
         rintro _ w hm
         replace hm : Mem w0 hz _ [ow [v5_6] x5_1.next_, ow [v5_5] x5_1.ins, ow [v5_7] pb5_1, blk bp0 [v1p, (nV xs3_1.1)] 72, blk b0_1 [(.slice none 0 0)] 25, blk b0_2 [(sV b3_1 o3_1 s0_1.2.length c0_1)] 25, holeE b3_1 o3_1 s0_1.2.length c0_1 (xs2_2.2.1 : List Code_) (r3_1.1).toNat [(nV x3_1.params), (nV x3_1.regs), (sV b5_1 o5_1 x3_1.blocks.length c3_2)], holeE b5_1 o5_1 x3_1.blocks.length c3_2 (x3_1.blocks : List Block_) (r3_2.1).toNat [v5_7, v5_5, (nV x5_1.jump), (nV x5_1.on), v5_6], blk b3_2 [(nV r3_3.1), v3_8] 70] := hm
         refine tAn rfl (tE ?_)
         replace hm := (mk_Block_ x5_1.jump x5_1.on hm 2 1 0 rfl).pk (L' := [ow [v5_7, v5_5, (nV x5_1.jump), (nV x5_1.on), v5_6] ((⟨pb5_1, x5_1.ins, x5_1.jump, x5_1.on, x5_1.next_⟩ : Block_) : Block_), blk bp0 [v1p, (nV xs3_1.1)] 72, blk b0_1 [(.slice none 0 0)] 25, blk b0_2 [(sV b3_1 o3_1 s0_1.2.length c0_1)] 25, holeE b3_1 o3_1 s0_1.2.length c0_1 (xs2_2.2.1 : List Code_) (r3_1.1).toNat [(nV x3_1.params), (nV x3_1.regs), (sV b5_1 o5_1 x3_1.blocks.length c3_2)], holeE b5_1 o5_1 x3_1.blocks.length c3_2 (x3_1.blocks : List Block_) (r3_2.1).toNat [v5_7, v5_5, (nV x5_1.jump), (nV x5_1.on), v5_6], blk b3_2 [(nV r3_3.1), v3_8] 70]) [2, 3, 4, 5, 6, 7, 8] rfl rfl
         replace hm := (hm.shutE (y := ((⟨pb5_1, x5_1.ins, x5_1.jump, x5_1.on, x5_1.next_⟩ : Block_) : Block_)) 5 0 (by decide) rfl rfl).pk (L' := [blk bp0 [v1p, (nV xs3_1.1)] 72, blk b0_1 [(.slice none 0 0)] 25, blk b0_2 [(sV b3_1 o3_1 s0_1.2.length c0_1)] 25, holeE b3_1 o3_1 s0_1.2.length c0_1 (xs2_2.2.1 : List Code_) (r3_1.1).toNat [(nV x3_1.params), (nV x3_1.regs), (sV b5_1 o5_1 x3_1.blocks.length c3_2)], ow [(sV b5_1 o5_1 x3_1.blocks.length c3_2)] (x3_1.blocks.set (r3_2.1).toNat (⟨pb5_1, x5_1.ins, x5_1.jump, x5_1.on, x5_1.next_⟩ : Block_)), blk b3_2 [(nV r3_3.1), v3_8] 70]) [1, 2, 3, 4, 5, 6] rfl rfl
         have hx5_3 := List.getElem?_set_self (a := ((⟨pb5_1, x5_1.ins, x5_1.jump, x5_1.on, x5_1.next_⟩ : Block_) : Block_)) (idx_lt hx5_2)
         replace hm : Mem w0 hz _ [blk bp0 [v1p, (nV xs3_1.1)] 72, blk b0_1 [(.slice none 0 0)] 25, blk b0_2 [(sV b3_1 o3_1 s0_1.2.length c0_1)] 25, holeE b3_1 o3_1 s0_1.2.length c0_1 (xs2_2.2.1 : List Code_) (r3_1.1).toNat [(nV x3_1.params), (nV x3_1.regs), (sV b5_1 o5_1 x3_1.blocks.length c3_2)], ow [(nV x3_1.params), (nV x3_1.regs), (sV b5_1 o5_1 x3_1.blocks.length c3_2)] ((⟨x3_1.params, x3_1.regs, (x3_1.blocks.set (r3_2.1).toNat (⟨pb5_1, x5_1.ins, x5_1.jump, x5_1.on, x5_1.next_⟩ : Block_))⟩ : Code_) : Code_), blk b3_2 [(nV r3_3.1), v3_8] 70] := mk_Code_ x3_1.params x3_1.regs hm 4 rfl
         replace hm := (hm.shutE (y := ((⟨x3_1.params, x3_1.regs, (x3_1.blocks.set (r3_2.1).toNat (⟨pb5_1, x5_1.ins, x5_1.jump, x5_1.on, x5_1.next_⟩ : Block_))⟩ : Code_) : Code_)) 3 4 (by decide) rfl rfl).pk (L' := [blk bp0 [v1p, (nV xs3_1.1)] 72, blk b0_1 [(.slice none 0 0)] 25, blk b0_2 [(sV b3_1 o3_1 s0_1.2.length c0_1)] 25, ow [(sV b3_1 o3_1 s0_1.2.length c0_1)] (xs2_2.2.1.set (r3_1.1).toNat (⟨x3_1.params, x3_1.regs, (x3_1.blocks.set (r3_2.1).toNat (⟨pb5_1, x5_1.ins, x5_1.jump, x5_1.on, x5_1.next_⟩ : Block_))⟩ : Code_)), blk b3_2 [(nV r3_3.1), v3_8] 70]) [0, 1, 2, 3, 5] rfl rfl
         have hx5_4 := List.getElem?_set_self (a := ((⟨x3_1.params, x3_1.regs, (x3_1.blocks.set (r3_2.1).toNat (⟨pb5_1, x5_1.ins, x5_1.jump, x5_1.on, x5_1.next_⟩ : Block_))⟩ : Code_) : Code_)) (idx_lt hx3_3)
         exact gz hm [0, 1, 2, 3] rfl
        refine tO (tf rfl rfl (fun a hf => e_build (vs := #[(0, (.agg #[(nV r3_3.1), v3_8]))]) (cs := [(nV r3_3.1), v3_8]) et_62 hf hm rfl rfl (by kernel_rfl) rfl rfl) ?_)
        rintro _ w ⟨b5_3, rfl, hm⟩
        replace hm := hm.els_nil (α := Phi_)
        replace hm : Mem w0 hz _ [els [] ([] : List Phi_), blk b5_3 [(nV r3_3.1), v3_8] 70, blk bp0 [v1p, (nV xs3_1.1)] 72, blk b0_1 [(.slice none 0 0)] 25, blk b0_2 [(sV b3_1 o3_1 s0_1.2.length c0_1)] 25, holeE b3_1 o3_1 s0_1.2.length c0_1 (xs2_2.2.1 : List Code_) (r3_1.1).toNat [(nV x3_1.params), (nV x3_1.regs), (sV b5_1 o5_1 x3_1.blocks.length c3_2)], ow [(sV b5_1 o5_1 x3_1.blocks.length c3_2)] x3_1.blocks, blk b3_2 [(nV r3_3.1), v3_8] 70, ow [(nV r3_3.1), v3_8] ((⟨r3_3.1, xs3_1.2⟩ : Phi_) : Phi_)] := mk_Phi_ r3_3.1 hm 8 rfl
        replace hm := (hm.els_cons 0 8 (by decide) rfl rfl).pk (L' := [els [(nV r3_3.1), v3_8] ([(⟨r3_3.1, xs3_1.2⟩ : Phi_)] : List Phi_), blk b5_3 [(nV r3_3.1), v3_8] 70, blk bp0 [v1p, (nV xs3_1.1)] 72, blk b0_1 [(.slice none 0 0)] 25, blk b0_2 [(sV b3_1 o3_1 s0_1.2.length c0_1)] 25, holeE b3_1 o3_1 s0_1.2.length c0_1 (xs2_2.2.1 : List Code_) (r3_1.1).toNat [(nV x3_1.params), (nV x3_1.regs), (sV b5_1 o5_1 x3_1.blocks.length c3_2)], ow [(sV b5_1 o5_1 x3_1.blocks.length c3_2)] x3_1.blocks, blk b3_2 [(nV r3_3.1), v3_8] 70]) [0, 1, 2, 3, 4, 5, 6, 7] rfl rfl
        replace hm := (hm.lit_els 1 0 (by decide) rfl rfl rfl rfl).pk (L' := [ow [(sV b5_3 0 1 1)] ([(⟨r3_3.1, xs3_1.2⟩ : Phi_)] : List Phi_), blk bp0 [v1p, (nV xs3_1.1)] 72, blk b0_1 [(.slice none 0 0)] 25, blk b0_2 [(sV b3_1 o3_1 s0_1.2.length c0_1)] 25, holeE b3_1 o3_1 s0_1.2.length c0_1 (xs2_2.2.1 : List Code_) (r3_1.1).toNat [(nV x3_1.params), (nV x3_1.regs), (sV b5_1 o5_1 x3_1.blocks.length c3_2)], ow [(sV b5_1 o5_1 x3_1.blocks.length c3_2)] x3_1.blocks, blk b3_2 [(nV r3_3.1), v3_8] 70]) [1, 2, 3, 4, 5, 6, 7] rfl rfl
        refine tAk hm [1, 2, 3, 4, 6] rfl fun hS => tO ?_
        obtain ⟨v5_8, v5_9, v5_10, hm⟩ := pin_Block_ hm 5 rfl hx5_2
        refine tY rfl (yl isAgg62 ((hm.holeE_at 8 rfl).cell (j := 0) rfl) rfl) (tAk hm [4, 5, 6, 7, 9] rfl fun hS => tO ?_)
        obtain ⟨h5_6, h5_6e⟩ := appM_some.1 hpb5_1
        replace hm := (hm.both 2 3 (by decide) rfl rfl).pk (L' := [ow [v5_10] x5_1.next_, ow [v5_9] x5_1.ins, both (ow [v5_8] x5_1.phis) (ow [(sV b5_3 0 1 1)] ([(⟨r3_3.1, xs3_1.2⟩ : Phi_)] : List Phi_)), blk bp0 [v1p, (nV xs3_1.1)] 72, blk b0_1 [(.slice none 0 0)] 25, blk b0_2 [(sV b3_1 o3_1 s0_1.2.length c0_1)] 25, holeE b3_1 o3_1 s0_1.2.length c0_1 (xs2_2.2.1 : List Code_) (r3_1.1).toNat [(nV x3_1.params), (nV x3_1.regs), (sV b5_1 o5_1 x3_1.blocks.length c3_2)], holeE b5_1 o5_1 x3_1.blocks.length c3_2 (x3_1.blocks : List Block_) (r3_2.1).toNat [v5_8, v5_9, (nV x5_1.jump), (nV x5_1.on), v5_10], blk b3_2 [(nV r3_3.1), v3_8] 70]) [0, 1, 2, 4, 5, 6, 7, 8, 9] rfl rfl
        refine tf rfl rfl (fun a hf => e_appendD (xs := x5_1.phis) (ys := ([(⟨r3_3.1, xs3_1.2⟩ : Phi_)] : List Phi_)) 2 et_62 hf hm rfl rfl rfl rfl h5_6) ?_
        rintro v5_11 w hm
        rw [h5_6e] at hm
        refine tAk hm [3, 4, 5, 6, 8] rfl fun hS => ?_
        have hL5_2 := hm.holeE_len 7 rfl
        refine tP rfl (fun w => yI st_43 h5_1 (idx_lt2 hx5_2 hL5_2) rfl) (tP rfl (fun w => yF fo_65_0 rfl) (tO ?_))
        have h15_2 : ∀ u ∈ ([v5_11] : List Value), u.oneCell' = true := (one_cons (rep_one (hm.ow_rep 2 rfl)) one_nil)
        refine tf0 rfl rfl (fun a hf => e_storeH (j := 0) (vs := [v5_11]) 7 hf hm rfl rfl rfl sizeOf62 rfl rfl (cells_one (h15_2 _ (List.mem_singleton.2 rfl))) h15_2 rfl) ?_
        rintro _ w hm
        replace hm : Mem w0 hz _ [ow [v5_10] x5_1.next_, ow [v5_9] x5_1.ins, ow [v5_11] pb5_1, blk bp0 [v1p, (nV xs3_1.1)] 72, blk b0_1 [(.slice none 0 0)] 25, blk b0_2 [(sV b3_1 o3_1 s0_1.2.length c0_1)] 25, holeE b3_1 o3_1 s0_1.2.length c0_1 (xs2_2.2.1 : List Code_) (r3_1.1).toNat [(nV x3_1.params), (nV x3_1.regs), (sV b5_1 o5_1 x3_1.blocks.length c3_2)], holeE b5_1 o5_1 x3_1.blocks.length c3_2 (x3_1.blocks : List Block_) (r3_2.1).toNat [v5_11, v5_9, (nV x5_1.jump), (nV x5_1.on), v5_10], blk b3_2 [(nV r3_3.1), v3_8] 70] := hm
        refine tAn rfl (tE ?_)
        replace hm := (mk_Block_ x5_1.jump x5_1.on hm 2 1 0 rfl).pk (L' := [ow [v5_11, v5_9, (nV x5_1.jump), (nV x5_1.on), v5_10] ((⟨pb5_1, x5_1.ins, x5_1.jump, x5_1.on, x5_1.next_⟩ : Block_) : Block_), blk bp0 [v1p, (nV xs3_1.1)] 72, blk b0_1 [(.slice none 0 0)] 25, blk b0_2 [(sV b3_1 o3_1 s0_1.2.length c0_1)] 25, holeE b3_1 o3_1 s0_1.2.length c0_1 (xs2_2.2.1 : List Code_) (r3_1.1).toNat [(nV x3_1.params), (nV x3_1.regs), (sV b5_1 o5_1 x3_1.blocks.length c3_2)], holeE b5_1 o5_1 x3_1.blocks.length c3_2 (x3_1.blocks : List Block_) (r3_2.1).toNat [v5_11, v5_9, (nV x5_1.jump), (nV x5_1.on), v5_10], blk b3_2 [(nV r3_3.1), v3_8] 70]) [2, 3, 4, 5, 6, 7, 8] rfl rfl
        replace hm := (hm.shutE (y := ((⟨pb5_1, x5_1.ins, x5_1.jump, x5_1.on, x5_1.next_⟩ : Block_) : Block_)) 5 0 (by decide) rfl rfl).pk (L' := [blk bp0 [v1p, (nV xs3_1.1)] 72, blk b0_1 [(.slice none 0 0)] 25, blk b0_2 [(sV b3_1 o3_1 s0_1.2.length c0_1)] 25, holeE b3_1 o3_1 s0_1.2.length c0_1 (xs2_2.2.1 : List Code_) (r3_1.1).toNat [(nV x3_1.params), (nV x3_1.regs), (sV b5_1 o5_1 x3_1.blocks.length c3_2)], ow [(sV b5_1 o5_1 x3_1.blocks.length c3_2)] (x3_1.blocks.set (r3_2.1).toNat (⟨pb5_1, x5_1.ins, x5_1.jump, x5_1.on, x5_1.next_⟩ : Block_)), blk b3_2 [(nV r3_3.1), v3_8] 70]) [1, 2, 3, 4, 5, 6] rfl rfl
        have hx5_5 := List.getElem?_set_self (a := ((⟨pb5_1, x5_1.ins, x5_1.jump, x5_1.on, x5_1.next_⟩ : Block_) : Block_)) (idx_lt hx5_2)
        replace hm : Mem w0 hz _ [blk bp0 [v1p, (nV xs3_1.1)] 72, blk b0_1 [(.slice none 0 0)] 25, blk b0_2 [(sV b3_1 o3_1 s0_1.2.length c0_1)] 25, holeE b3_1 o3_1 s0_1.2.length c0_1 (xs2_2.2.1 : List Code_) (r3_1.1).toNat [(nV x3_1.params), (nV x3_1.regs), (sV b5_1 o5_1 x3_1.blocks.length c3_2)], ow [(nV x3_1.params), (nV x3_1.regs), (sV b5_1 o5_1 x3_1.blocks.length c3_2)] ((⟨x3_1.params, x3_1.regs, (x3_1.blocks.set (r3_2.1).toNat (⟨pb5_1, x5_1.ins, x5_1.jump, x5_1.on, x5_1.next_⟩ : Block_))⟩ : Code_) : Code_), blk b3_2 [(nV r3_3.1), v3_8] 70] := mk_Code_ x3_1.params x3_1.regs hm 4 rfl
        replace hm := (hm.shutE (y := ((⟨x3_1.params, x3_1.regs, (x3_1.blocks.set (r3_2.1).toNat (⟨pb5_1, x5_1.ins, x5_1.jump, x5_1.on, x5_1.next_⟩ : Block_))⟩ : Code_) : Code_)) 3 4 (by decide) rfl rfl).pk (L' := [blk bp0 [v1p, (nV xs3_1.1)] 72, blk b0_1 [(.slice none 0 0)] 25, blk b0_2 [(sV b3_1 o3_1 s0_1.2.length c0_1)] 25, ow [(sV b3_1 o3_1 s0_1.2.length c0_1)] (xs2_2.2.1.set (r3_1.1).toNat (⟨x3_1.params, x3_1.regs, (x3_1.blocks.set (r3_2.1).toNat (⟨pb5_1, x5_1.ins, x5_1.jump, x5_1.on, x5_1.next_⟩ : Block_))⟩ : Code_)), blk b3_2 [(nV r3_3.1), v3_8] 70]) [0, 1, 2, 3, 5] rfl rfl
        have hx5_6 := List.getElem?_set_self (a := ((⟨x3_1.params, x3_1.regs, (x3_1.blocks.set (r3_2.1).toNat (⟨pb5_1, x5_1.ins, x5_1.jump, x5_1.on, x5_1.next_⟩ : Block_))⟩ : Code_) : Code_)) (idx_lt hx3_3)
        exact gz hm [0, 1, 2, 3] rfl
       repeat clear hm
       intro s4_1 w hm
       exact gz hm [0, 1, 2, 3] rfl
      refine gcf rfl (gSk ?_)
      replace hm : Mem w0 hz _ [blk bp0 [v1p, (nV xs3_1.1)] 72, blk b0_1 [(.slice none 0 0)] 25, blk b0_2 [(sV b3_1 o3_1 s0_1.2.length c0_1)] 25, holeE b3_1 o3_1 s0_1.2.length c0_1 (xs2_2.2.1 : List Code_) (r3_1.1).toNat [(nV x3_1.params), (nV x3_1.regs), (.slice p3_1 x3_1.blocks.length c3_2)], ow [(nV x3_1.params), (nV x3_1.regs), (.slice p3_1 x3_1.blocks.length c3_2)] (x3_1 : Code_), blk b3_2 [(nV r3_3.1), v3_8] 70, ow [v3_8] xs3_1.2] := mk_Code_ x3_1.params x3_1.regs hm 4 rfl
      replace hm := (hm.shutE (y := (x3_1 : Code_)) 3 4 (by decide) rfl rfl).pk (L' := [blk bp0 [v1p, (nV xs3_1.1)] 72, blk b0_1 [(.slice none 0 0)] 25, blk b0_2 [(sV b3_1 o3_1 s0_1.2.length c0_1)] 25, ow [(sV b3_1 o3_1 s0_1.2.length c0_1)] (xs2_2.2.1.set (r3_1.1).toNat x3_1), blk b3_2 [(nV r3_3.1), v3_8] 70, ow [v3_8] xs3_1.2]) [0, 1, 2, 3, 5, 6] rfl rfl
      rw [set_same hx3_3] at hm
      exact gz hm [0, 1, 2, 3] rfl
     repeat clear hm
     intro s3_1 w hm
     exact gz hm [0, 1, 2, 3] rfl
    repeat clear hm
    intro s2_1 w hm
    exact gR (gM rfl (gB rfl (gA rfl (gE (gze hm [0, 1, 2, 3] rfl)))))
   exact gcf rfl (gXt (gHh (gLp ho1_2 hq1_2 (gz hm [1, 2, 3, 0] rfl))))
  repeat clear hm
  intro s0_2 w hm
  exact gS (gR (gY (yn (hm.blk_at 1 rfl) isAgg25 sizeOf25 rfl) (gSN hm 0 sizeOf25 (one_cons rfl one_nil) rfl fun w hm => gE (gRt (grc 0 results28 hm rfl isAgg25 sizeOf25 ⟨(.slice p0_1 s0_1.2.length c0_1), rfl, hm.pk [3, 2] rfl rfl⟩)))))

theorem spec_l7CopyBlock_ok (w0 : World) (b_ : Block_) (v1 : Value) (h1 : GT.rep (hp w0) [v1] b_.phis) (v2 : Value) (h2 : GT.rep (hp w0) [v2] b_.ins) (v3 : Value) (h3 : GT.rep (hp w0) [v3] b_.next_) :
    ConM Tryd.prog 73 [(.agg #[v1, v2, (nV b_.jump), (nV b_.on), v3])] w0 (spec_l7CopyBlock b_) fun r v w' => ∃ (x1 : Value) (x2 : Value) (x3 : Value), v = (.agg #[x1, x2, (nV r.jump), (nV r.on), x3]) ∧ Mem w0 (hp w0) w' [ow [x1] r.phis, ow [x2] r.ins, ow [x3] r.next_] := by
  unfold spec_l7CopyBlock
  refine gcon func73 rfl fun r => ?_
  have hm := Mem.start w0
  refine gS (gR (gBx hm rfl fun b0_1 w hm => gAl hm zeroValue65 rfl fun b0_2 w hm => gE (gS (gJg (fun s0_1 a w => ∃ (b0_3 : Nat) (v0_1 : Value) (v0_2 : Value) (v0_3 : Value), St 74 [(1, (pV b0_1)), (2, (pV b0_2)), (3, (pV b0_3))] w0 (hp w0) [blk b0_1 [v1, v2, (nV b_.jump), (nV b_.on), v3] 65, blk b0_2 [(.slice none 0 0), (.slice none 0 0), (nV 0), (nV 0), (.slice none 0 0)] 65, blk b0_3 [v0_1, v0_2, (nV b_.jump), (nV b_.on), v0_3] 65, ow [v0_1] ([] : List Phi_), ow [v0_2] ([] : List Ins_), ow [v0_3] s0_1] a w) (fun s0_1 => ?_) ?_))))
  ·
   refine gW (.p 2 (.p 4 (.p 7 (.q 3 (.q 5 (.q 8 (.e 0 (.e 1 (.e 6 (.e 9 (.p 10 (.e 11 (.e 12 .fin .nil) .nil)) (.e 11 (.e 9 (.p 10 (.e 12 .fin .nil)) .nil) .nil)) (.e 11 (.e 6 (.e 9 (.p 10 (.e 12 .fin .nil)) .nil) .nil) .nil)) (.e 6 (.e 1 (.e 9 (.p 10 (.e 11 (.e 12 .fin .nil) .nil)) (.e 11 (.e 9 (.p 10 (.e 12 .fin .nil)) .nil) .nil)) (.e 9 (.e 1 (.p 10 (.e 11 (.e 12 .fin .nil) .nil)) (.e 11 (.e 1 (.p 10 (.e 12 .fin .nil)) .nil) .nil)) (.e 11 (.e 1 (.e 9 (.p 10 (.e 12 .fin .nil)) .nil) (.e 9 (.e 1 (.p 10 (.e 12 .fin .nil)) .nil) .nil)) .nil))) (.e 11 (.e 1 (.e 6 (.e 9 (.p 10 (.e 12 .fin .nil)) .nil) .nil) (.e 6 (.e 1 (.e 9 (.p 10 (.e 12 .fin .nil)) .nil) (.e 9 (.e 1 (.p 10 (.e 12 .fin .nil)) .nil) .nil)) .nil)) .nil))) (.e 1 (.e 0 (.e 6 (.e 9 (.p 10 (.e 11 (.e 12 .fin .nil) .nil)) (.e 11 (.e 9 (.p 10 (.e 12 .fin .nil)) .nil) .nil)) (.e 11 (.e 6 (.e 9 (.p 10 (.e 12 .fin .nil)) .nil) .nil) .nil)) (.e 6 (.e 0 (.e 9 (.p 10 (.e 11 (.e 12 .fin .nil) .nil)) (.e 11 (.e 9 (.p 10 (.e 12 .fin .nil)) .nil) .nil)) (.e 9 (.e 0 (.p 10 (.e 11 (.e 12 .fin .nil) .nil)) (.e 11 (.e 0 (.p 10 (.e 12 .fin .nil)) .nil) .nil)) (.e 11 (.e 0 (.e 9 (.p 10 (.e 12 .fin .nil)) .nil) (.e 9 (.e 0 (.p 10 (.e 12 .fin .nil)) .nil) .nil)) .nil))) (.e 11 (.e 0 (.e 6 (.e 9 (.p 10 (.e 12 .fin .nil)) .nil) .nil) (.e 6 (.e 0 (.e 9 (.p 10 (.e 12 .fin .nil)) .nil) (.e 9 (.e 0 (.p 10 (.e 12 .fin .nil)) .nil) .nil)) .nil)) .nil))) (.e 6 (.e 0 (.e 1 (.e 9 (.p 10 (.e 11 (.e 12 .fin .nil) .nil)) (.e 11 (.e 9 (.p 10 (.e 12 .fin .nil)) .nil) .nil)) (.e 9 (.e 1 (.p 10 (.e 11 (.e 12 .fin .nil) .nil)) (.e 11 (.e 1 (.p 10 (.e 12 .fin .nil)) .nil) .nil)) (.e 11 (.e 1 (.e 9 (.p 10 (.e 12 .fin .nil)) .nil) (.e 9 (.e 1 (.p 10 (.e 12 .fin .nil)) .nil) .nil)) .nil))) (.e 1 (.e 0 (.e 9 (.p 10 (.e 11 (.e 12 .fin .nil) .nil)) (.e 11 (.e 9 (.p 10 (.e 12 .fin .nil)) .nil) .nil)) (.e 9 (.e 0 (.p 10 (.e 11 (.e 12 .fin .nil) .nil)) (.e 11 (.e 0 (.p 10 (.e 12 .fin .nil)) .nil) .nil)) (.e 11 (.e 0 (.e 9 (.p 10 (.e 12 .fin .nil)) .nil) (.e 9 (.e 0 (.p 10 (.e 12 .fin .nil)) .nil) .nil)) .nil))) (.e 9 (.e 0 (.e 1 (.p 10 (.e 11 (.e 12 .fin .nil) .nil)) (.e 11 (.e 1 (.p 10 (.e 12 .fin .nil)) .nil) .nil)) (.e 1 (.e 0 (.p 10 (.e 11 (.e 12 .fin .nil) .nil)) (.e 11 (.e 0 (.p 10 (.e 12 .fin .nil)) .nil) .nil)) (.e 11 (.e 0 (.e 1 (.p 10 (.e 12 .fin .nil)) .nil) (.e 1 (.e 0 (.p 10 (.e 12 .fin .nil)) .nil) .nil)) .nil))) (.e 11 (.e 0 (.e 1 (.e 9 (.p 10 (.e 12 .fin .nil)) .nil) (.e 9 (.e 1 (.p 10 (.e 12 .fin .nil)) .nil) .nil)) (.e 1 (.e 0 (.e 9 (.p 10 (.e 12 .fin .nil)) .nil) (.e 9 (.e 0 (.p 10 (.e 12 .fin .nil)) .nil) .nil)) (.e 9 (.e 0 (.e 1 (.p 10 (.e 12 .fin .nil)) .nil) (.e 1 (.e 0 (.p 10 (.e 12 .fin .nil)) .nil) .nil)) .nil))) .nil)))) (.e 11 (.e 0 (.e 1 (.e 6 (.e 9 (.p 10 (.e 12 .fin .nil)) .nil) .nil) (.e 6 (.e 1 (.e 9 (.p 10 (.e 12 .fin .nil)) .nil) (.e 9 (.e 1 (.p 10 (.e 12 .fin .nil)) .nil) .nil)) .nil)) (.e 1 (.e 0 (.e 6 (.e 9 (.p 10 (.e 12 .fin .nil)) .nil) .nil) (.e 6 (.e 0 (.e 9 (.p 10 (.e 12 .fin .nil)) .nil) (.e 9 (.e 0 (.p 10 (.e 12 .fin .nil)) .nil) .nil)) .nil)) (.e 6 (.e 0 (.e 1 (.e 9 (.p 10 (.e 12 .fin .nil)) .nil) (.e 9 (.e 1 (.p 10 (.e 12 .fin .nil)) .nil) .nil)) (.e 1 (.e 0 (.e 9 (.p 10 (.e 12 .fin .nil)) .nil) (.e 9 (.e 0 (.p 10 (.e 12 .fin .nil)) .nil) .nil)) (.e 9 (.e 0 (.e 1 (.p 10 (.e 12 .fin .nil)) .nil) (.e 1 (.e 0 (.p 10 (.e 12 .fin .nil)) .nil) .nil)) .nil))) .nil))) .nil)))))))))) [0, 1, 3, 5, 6, 8, 9, 11] [2, 4, 7, 10] hm [0, 1] [blk b0_2 [(.slice none 0 0), (.slice none 0 0), (nV 0), (nV 0), (.slice none 0 0)] 65, blk b0_1 [v1, v2, (nV b_.jump), (nV b_.on), v3] 65] rfl mxo (by kernel_rfl) (fun _ _ _ h => h.2) fun w hm hS => ?_
   refine tP rfl (fun w => yF fo_65_2 rfl) (tP rfl (fun w => yF fo_65_3 rfl) (tP rfl (fun w => yF fo_65_4 rfl) (tQ rfl hS (fun w hm => yL hm 1 isAgg3 rfl) (tQ rfl hS (fun w hm => yL hm 1 isAgg3 rfl) (tQ rfl hS (fun w hm => yL hm 1 isAgg29 rfl) (gb fun pb1_1 hpb1_1 => ?_))))))
   refine tJg (.e 0 (.e 1 (.e 6 (.e 9 (.p 10 (.e 11 .fin .nil)) (.e 11 (.e 9 (.p 10 .fin) .nil) .nil)) (.e 11 (.e 6 (.e 9 (.p 10 .fin) .nil) .nil) .nil)) (.e 6 (.e 1 (.e 9 (.p 10 (.e 11 .fin .nil)) (.e 11 (.e 9 (.p 10 .fin) .nil) .nil)) (.e 9 (.e 1 (.p 10 (.e 11 .fin .nil)) (.e 11 (.e 1 (.p 10 .fin) .nil) .nil)) (.e 11 (.e 1 (.e 9 (.p 10 .fin) .nil) (.e 9 (.e 1 (.p 10 .fin) .nil) .nil)) .nil))) (.e 11 (.e 1 (.e 6 (.e 9 (.p 10 .fin) .nil) .nil) (.e 6 (.e 1 (.e 9 (.p 10 .fin) .nil) (.e 9 (.e 1 (.p 10 .fin) .nil) .nil)) .nil)) .nil))) (.e 1 (.e 0 (.e 6 (.e 9 (.p 10 (.e 11 .fin .nil)) (.e 11 (.e 9 (.p 10 .fin) .nil) .nil)) (.e 11 (.e 6 (.e 9 (.p 10 .fin) .nil) .nil) .nil)) (.e 6 (.e 0 (.e 9 (.p 10 (.e 11 .fin .nil)) (.e 11 (.e 9 (.p 10 .fin) .nil) .nil)) (.e 9 (.e 0 (.p 10 (.e 11 .fin .nil)) (.e 11 (.e 0 (.p 10 .fin) .nil) .nil)) (.e 11 (.e 0 (.e 9 (.p 10 .fin) .nil) (.e 9 (.e 0 (.p 10 .fin) .nil) .nil)) .nil))) (.e 11 (.e 0 (.e 6 (.e 9 (.p 10 .fin) .nil) .nil) (.e 6 (.e 0 (.e 9 (.p 10 .fin) .nil) (.e 9 (.e 0 (.p 10 .fin) .nil) .nil)) .nil)) .nil))) (.e 6 (.e 0 (.e 1 (.e 9 (.p 10 (.e 11 .fin .nil)) (.e 11 (.e 9 (.p 10 .fin) .nil) .nil)) (.e 9 (.e 1 (.p 10 (.e 11 .fin .nil)) (.e 11 (.e 1 (.p 10 .fin) .nil) .nil)) (.e 11 (.e 1 (.e 9 (.p 10 .fin) .nil) (.e 9 (.e 1 (.p 10 .fin) .nil) .nil)) .nil))) (.e 1 (.e 0 (.e 9 (.p 10 (.e 11 .fin .nil)) (.e 11 (.e 9 (.p 10 .fin) .nil) .nil)) (.e 9 (.e 0 (.p 10 (.e 11 .fin .nil)) (.e 11 (.e 0 (.p 10 .fin) .nil) .nil)) (.e 11 (.e 0 (.e 9 (.p 10 .fin) .nil) (.e 9 (.e 0 (.p 10 .fin) .nil) .nil)) .nil))) (.e 9 (.e 0 (.e 1 (.p 10 (.e 11 .fin .nil)) (.e 11 (.e 1 (.p 10 .fin) .nil) .nil)) (.e 1 (.e 0 (.p 10 (.e 11 .fin .nil)) (.e 11 (.e 0 (.p 10 .fin) .nil) .nil)) (.e 11 (.e 0 (.e 1 (.p 10 .fin) .nil) (.e 1 (.e 0 (.p 10 .fin) .nil) .nil)) .nil))) (.e 11 (.e 0 (.e 1 (.e 9 (.p 10 .fin) .nil) (.e 9 (.e 1 (.p 10 .fin) .nil) .nil)) (.e 1 (.e 0 (.e 9 (.p 10 .fin) .nil) (.e 9 (.e 0 (.p 10 .fin) .nil) .nil)) (.e 9 (.e 0 (.e 1 (.p 10 .fin) .nil) (.e 1 (.e 0 (.p 10 .fin) .nil) .nil)) .nil))) .nil)))) (.e 11 (.e 0 (.e 1 (.e 6 (.e 9 (.p 10 .fin) .nil) .nil) (.e 6 (.e 1 (.e 9 (.p 10 .fin) .nil) (.e 9 (.e 1 (.p 10 .fin) .nil) .nil)) .nil)) (.e 1 (.e 0 (.e 6 (.e 9 (.p 10 .fin) .nil) .nil) (.e 6 (.e 0 (.e 9 (.p 10 .fin) .nil) (.e 9 (.e 0 (.p 10 .fin) .nil) .nil)) .nil)) (.e 6 (.e 0 (.e 1 (.e 9 (.p 10 .fin) .nil) (.e 9 (.e 1 (.p 10 .fin) .nil) .nil)) (.e 1 (.e 0 (.e 9 (.p 10 .fin) .nil) (.e 9 (.e 0 (.p 10 .fin) .nil) .nil)) (.e 9 (.e 0 (.e 1 (.p 10 .fin) .nil) (.e 1 (.e 0 (.p 10 .fin) .nil) .nil)) .nil))) .nil))) .nil)))) (.e 12 .fin .nil) rfl (fun s1_1 a w => ∃ (b1_1 : Nat) (v1_1 : Value) (v1_2 : Value) (v1_3 : Value), St 74 [(1, (pV b0_1)), (2, (pV b0_2)), (3, (pV b1_1)), (17, (.agg #[v1_1, v1_2, (nV b_.jump), (nV b_.on), v1_3]))] w0 (hp w0) [blk b0_1 [v1, v2, (nV b_.jump), (nV b_.on), v3] 65, blk b0_2 [(.slice none 0 0), (.slice none 0 0), (nV 0), (nV 0), (.slice none 0 0)] 65, blk b1_1 [(.slice none 0 0), (.slice none 0 0), (nV 0), (nV 0), (.slice none 0 0)] 65, ow [v1_1] ([] : List Phi_), ow [v1_2] ([] : List Ins_), ow [v1_3] pb1_1] a w) (fun s1_1 => ?_) ?_
   ·
    refine tMo ?_ ?_
    ·
     refine tf rfl rfl (fun a hf => e_build0 (α := Phi_) et_62 hm rfl) ?_
     rintro v2_1 w hm
     refine tAk hm [1, 2] rfl fun hS => tMo ?_ ?_
     ·
      refine tf rfl rfl (fun a hf => e_build0 (α := Ins_) et_63 hm rfl) ?_
      rintro v2_2 w hm
      refine tAk hm [2, 3] rfl fun hS => tMo ?_ ?_
      ·
       refine tf rfl rfl (fun a hf => e_build0 (α := Int) et_29 hm rfl) ?_
       rintro v2_3 w hm
       refine tAk hm [3, 4] rfl fun hS => tMo ?_ ?_
       ·
        obtain ⟨h2_1, h2_1e⟩ := appM_some.1 hpb1_1
        refine tf rfl rfl (fun a hf => e_append 0 et_29 hf hm rfl (hm.now h3) rfl rfl rfl h2_1) ?_
        rintro v2_4 w hm
        rw [h2_1e] at hm
        refine tAk hm [3, 4] rfl fun hS => ?_
        obtain ⟨p2_1, c2_1, rfl, hl2_1⟩ := ro_slice (hm.ow_rep 2 rfl)
        obtain ⟨p2_2, c2_2, rfl, hl2_2⟩ := ro_slice (hm.ow_rep 1 rfl)
        obtain ⟨p2_3, c2_3, rfl, hl2_3⟩ := ro_slice (hm.ow_rep 0 rfl)
        refine tP rfl (fun w => yG rfl (y_build (vs := [(0, (.slice p2_1 ([] : List Phi_).length c2_1)), (1, (.slice p2_2 ([] : List Ins_).length c2_2)), (2, (nV b_.jump)), (3, (nV b_.on)), (4, (.slice p2_3 pb1_1.length c2_3))]) (cs := #[(.slice p2_1 ([] : List Phi_).length c2_1), (.slice p2_2 ([] : List Ins_).length c2_2), (nV b_.jump), (nV b_.on), (.slice p2_3 pb1_1.length c2_3)]) rfl rfl (by kernel_rfl))) (tO (tf rfl rfl (fun a hf => e_alloc hm zeroValue65 rfl rfl) ?_))
        rintro _ w ⟨b2_1, rfl, hm⟩
        exact tAk hm [4, 5] rfl fun hS => tE (gZ fun a hf => ⟨b2_1, (.slice p2_1 ([] : List Phi_).length c2_1), (.slice p2_2 ([] : List Ins_).length c2_2), (.slice p2_3 pb1_1.length c2_3), hf.sb rfl, hm.pk [5, 4, 0, 3, 2, 1] rfl rfl⟩)
       refine tO (tf rfl rfl (fun a hf => e_alloc hm zeroValue65 rfl rfl) ?_)
       rintro _ w ⟨b2_2, rfl, hm⟩
       refine tAk hm [4, 5] rfl fun hS => tO ?_
       obtain ⟨h2_2, h2_2e⟩ := appM_some.1 hpb1_1
       refine tf rfl rfl (fun a hf => e_append 1 et_29 hf hm rfl (hm.now h3) rfl rfl rfl h2_2) ?_
       rintro v2_5 w hm
       rw [h2_2e] at hm
       refine tAk hm [4, 5] rfl fun hS => ?_
       obtain ⟨p2_4, c2_4, rfl, hl2_4⟩ := ro_slice (hm.ow_rep 3 rfl)
       obtain ⟨p2_5, c2_5, rfl, hl2_5⟩ := ro_slice (hm.ow_rep 2 rfl)
       obtain ⟨p2_6, c2_6, rfl, hl2_6⟩ := ro_slice (hm.ow_rep 1 rfl)
       exact tP rfl (fun w => yG rfl (y_build (vs := [(0, (.slice p2_4 ([] : List Phi_).length c2_4)), (1, (.slice p2_5 ([] : List Ins_).length c2_5)), (2, (nV b_.jump)), (3, (nV b_.on)), (4, (.slice p2_6 pb1_1.length c2_6))]) (cs := #[(.slice p2_4 ([] : List Phi_).length c2_4), (.slice p2_5 ([] : List Ins_).length c2_5), (nV b_.jump), (nV b_.on), (.slice p2_6 pb1_1.length c2_6)]) rfl rfl (by kernel_rfl))) (tE (gZ fun a hf => ⟨b2_2, (.slice p2_4 ([] : List Phi_).length c2_4), (.slice p2_5 ([] : List Ins_).length c2_5), (.slice p2_6 pb1_1.length c2_6), hf.sb rfl, hm.pk [5, 4, 0, 3, 2, 1] rfl rfl⟩))
      refine tO (tf rfl rfl (fun a hf => e_alloc hm zeroValue65 rfl rfl) ?_)
      rintro _ w ⟨b2_3, rfl, hm⟩
      refine tAk hm [3, 4] rfl fun hS => tO (tf rfl rfl (fun a hf => e_build0 (α := Int) et_29 hm rfl) ?_)
      rintro v2_6 w hm
      refine tAk hm [4, 5] rfl fun hS => tO ?_
      obtain ⟨h2_3, h2_3e⟩ := appM_some.1 hpb1_1
      refine tf rfl rfl (fun a hf => e_append 0 et_29 hf hm rfl (hm.now h3) rfl rfl rfl h2_3) ?_
      rintro v2_7 w hm
      rw [h2_3e] at hm
      refine tAk hm [4, 5] rfl fun hS => ?_
      obtain ⟨p2_7, c2_7, rfl, hl2_7⟩ := ro_slice (hm.ow_rep 3 rfl)
      obtain ⟨p2_8, c2_8, rfl, hl2_8⟩ := ro_slice (hm.ow_rep 2 rfl)
      obtain ⟨p2_9, c2_9, rfl, hl2_9⟩ := ro_slice (hm.ow_rep 0 rfl)
      exact tP rfl (fun w => yG rfl (y_build (vs := [(0, (.slice p2_7 ([] : List Phi_).length c2_7)), (1, (.slice p2_8 ([] : List Ins_).length c2_8)), (2, (nV b_.jump)), (3, (nV b_.on)), (4, (.slice p2_9 pb1_1.length c2_9))]) (cs := #[(.slice p2_7 ([] : List Phi_).length c2_7), (.slice p2_8 ([] : List Ins_).length c2_8), (nV b_.jump), (nV b_.on), (.slice p2_9 pb1_1.length c2_9)]) rfl rfl (by kernel_rfl))) (tE (gZ fun a hf => ⟨b2_3, (.slice p2_7 ([] : List Phi_).length c2_7), (.slice p2_8 ([] : List Ins_).length c2_8), (.slice p2_9 pb1_1.length c2_9), hf.sb rfl, hm.pk [5, 4, 1, 3, 2, 0] rfl rfl⟩))
     refine tMo ?_ ?_
     ·
      refine tf rfl rfl (fun a hf => e_build0 (α := Int) et_29 hm rfl) ?_
      rintro v2_8 w hm
      refine tAk hm [2, 3] rfl fun hS => tMo ?_ ?_
      ·
       refine tf rfl rfl (fun a hf => e_build0 (α := Ins_) et_63 hm rfl) ?_
       rintro v2_9 w hm
       refine tAk hm [3, 4] rfl fun hS => tMo ?_ ?_
       ·
        obtain ⟨h2_4, h2_4e⟩ := appM_some.1 hpb1_1
        refine tf rfl rfl (fun a hf => e_append 1 et_29 hf hm rfl (hm.now h3) rfl rfl rfl h2_4) ?_
        rintro v2_10 w hm
        rw [h2_4e] at hm
        refine tAk hm [3, 4] rfl fun hS => ?_
        obtain ⟨p2_10, c2_10, rfl, hl2_10⟩ := ro_slice (hm.ow_rep 2 rfl)
        obtain ⟨p2_11, c2_11, rfl, hl2_11⟩ := ro_slice (hm.ow_rep 0 rfl)
        obtain ⟨p2_12, c2_12, rfl, hl2_12⟩ := ro_slice (hm.ow_rep 1 rfl)
        refine tP rfl (fun w => yG rfl (y_build (vs := [(0, (.slice p2_10 ([] : List Phi_).length c2_10)), (1, (.slice p2_11 ([] : List Ins_).length c2_11)), (2, (nV b_.jump)), (3, (nV b_.on)), (4, (.slice p2_12 pb1_1.length c2_12))]) (cs := #[(.slice p2_10 ([] : List Phi_).length c2_10), (.slice p2_11 ([] : List Ins_).length c2_11), (nV b_.jump), (nV b_.on), (.slice p2_12 pb1_1.length c2_12)]) rfl rfl (by kernel_rfl))) (tO (tf rfl rfl (fun a hf => e_alloc hm zeroValue65 rfl rfl) ?_))
        rintro _ w ⟨b2_4, rfl, hm⟩
        exact tAk hm [4, 5] rfl fun hS => tE (gZ fun a hf => ⟨b2_4, (.slice p2_10 ([] : List Phi_).length c2_10), (.slice p2_11 ([] : List Ins_).length c2_11), (.slice p2_12 pb1_1.length c2_12), hf.sb rfl, hm.pk [5, 4, 0, 3, 1, 2] rfl rfl⟩)
       refine tO (tf rfl rfl (fun a hf => e_alloc hm zeroValue65 rfl rfl) ?_)
       rintro _ w ⟨b2_5, rfl, hm⟩
       refine tAk hm [4, 5] rfl fun hS => tO ?_
       obtain ⟨h2_5, h2_5e⟩ := appM_some.1 hpb1_1
       refine tf rfl rfl (fun a hf => e_append 2 et_29 hf hm rfl (hm.now h3) rfl rfl rfl h2_5) ?_
       rintro v2_11 w hm
       rw [h2_5e] at hm
       refine tAk hm [4, 5] rfl fun hS => ?_
       obtain ⟨p2_13, c2_13, rfl, hl2_13⟩ := ro_slice (hm.ow_rep 3 rfl)
       obtain ⟨p2_14, c2_14, rfl, hl2_14⟩ := ro_slice (hm.ow_rep 1 rfl)
       obtain ⟨p2_15, c2_15, rfl, hl2_15⟩ := ro_slice (hm.ow_rep 2 rfl)
       exact tP rfl (fun w => yG rfl (y_build (vs := [(0, (.slice p2_13 ([] : List Phi_).length c2_13)), (1, (.slice p2_14 ([] : List Ins_).length c2_14)), (2, (nV b_.jump)), (3, (nV b_.on)), (4, (.slice p2_15 pb1_1.length c2_15))]) (cs := #[(.slice p2_13 ([] : List Phi_).length c2_13), (.slice p2_14 ([] : List Ins_).length c2_14), (nV b_.jump), (nV b_.on), (.slice p2_15 pb1_1.length c2_15)]) rfl rfl (by kernel_rfl))) (tE (gZ fun a hf => ⟨b2_5, (.slice p2_13 ([] : List Phi_).length c2_13), (.slice p2_14 ([] : List Ins_).length c2_14), (.slice p2_15 pb1_1.length c2_15), hf.sb rfl, hm.pk [5, 4, 0, 3, 1, 2] rfl rfl⟩))
      refine tMo ?_ ?_
      ·
       obtain ⟨h2_6, h2_6e⟩ := appM_some.1 hpb1_1
       refine tf rfl rfl (fun a hf => e_append 0 et_29 hf hm rfl (hm.now h3) rfl rfl rfl h2_6) ?_
       rintro v2_12 w hm
       rw [h2_6e] at hm
       refine tAk hm [2, 3] rfl fun hS => tMo ?_ ?_
       ·
        refine tf rfl rfl (fun a hf => e_build0 (α := Ins_) et_63 hm rfl) ?_
        rintro v2_13 w hm
        refine tAk hm [3, 4] rfl fun hS => ?_
        obtain ⟨p2_16, c2_16, rfl, hl2_16⟩ := ro_slice (hm.ow_rep 2 rfl)
        obtain ⟨p2_17, c2_17, rfl, hl2_17⟩ := ro_slice (hm.ow_rep 0 rfl)
        obtain ⟨p2_18, c2_18, rfl, hl2_18⟩ := ro_slice (hm.ow_rep 1 rfl)
        refine tP rfl (fun w => yG rfl (y_build (vs := [(0, (.slice p2_16 ([] : List Phi_).length c2_16)), (1, (.slice p2_17 ([] : List Ins_).length c2_17)), (2, (nV b_.jump)), (3, (nV b_.on)), (4, (.slice p2_18 pb1_1.length c2_18))]) (cs := #[(.slice p2_16 ([] : List Phi_).length c2_16), (.slice p2_17 ([] : List Ins_).length c2_17), (nV b_.jump), (nV b_.on), (.slice p2_18 pb1_1.length c2_18)]) rfl rfl (by kernel_rfl))) (tO (tf rfl rfl (fun a hf => e_alloc hm zeroValue65 rfl rfl) ?_))
        rintro _ w ⟨b2_6, rfl, hm⟩
        exact tAk hm [4, 5] rfl fun hS => tE (gZ fun a hf => ⟨b2_6, (.slice p2_16 ([] : List Phi_).length c2_16), (.slice p2_17 ([] : List Ins_).length c2_17), (.slice p2_18 pb1_1.length c2_18), hf.sb rfl, hm.pk [5, 4, 0, 3, 1, 2] rfl rfl⟩)
       refine tO (tf rfl rfl (fun a hf => e_alloc hm zeroValue65 rfl rfl) ?_)
       rintro _ w ⟨b2_7, rfl, hm⟩
       refine tAk hm [3, 4] rfl fun hS => tO (tf rfl rfl (fun a hf => e_build0 (α := Ins_) et_63 hm rfl) ?_)
       rintro v2_14 w hm
       refine tAk hm [4, 5] rfl fun hS => ?_
       obtain ⟨p2_19, c2_19, rfl, hl2_19⟩ := ro_slice (hm.ow_rep 3 rfl)
       obtain ⟨p2_20, c2_20, rfl, hl2_20⟩ := ro_slice (hm.ow_rep 0 rfl)
       obtain ⟨p2_21, c2_21, rfl, hl2_21⟩ := ro_slice (hm.ow_rep 2 rfl)
       exact tP rfl (fun w => yG rfl (y_build (vs := [(0, (.slice p2_19 ([] : List Phi_).length c2_19)), (1, (.slice p2_20 ([] : List Ins_).length c2_20)), (2, (nV b_.jump)), (3, (nV b_.on)), (4, (.slice p2_21 pb1_1.length c2_21))]) (cs := #[(.slice p2_19 ([] : List Phi_).length c2_19), (.slice p2_20 ([] : List Ins_).length c2_20), (nV b_.jump), (nV b_.on), (.slice p2_21 pb1_1.length c2_21)]) rfl rfl (by kernel_rfl))) (tE (gZ fun a hf => ⟨b2_7, (.slice p2_19 ([] : List Phi_).length c2_19), (.slice p2_20 ([] : List Ins_).length c2_20), (.slice p2_21 pb1_1.length c2_21), hf.sb rfl, hm.pk [5, 4, 1, 3, 0, 2] rfl rfl⟩))
      refine tO (tf rfl rfl (fun a hf => e_alloc hm zeroValue65 rfl rfl) ?_)
      rintro _ w ⟨b2_8, rfl, hm⟩
      refine tAk hm [3, 4] rfl fun hS => tMo ?_ ?_
      ·
       refine tf rfl rfl (fun a hf => e_build0 (α := Ins_) et_63 hm rfl) ?_
       rintro v2_15 w hm
       refine tAk hm [4, 5] rfl fun hS => tO ?_
       obtain ⟨h2_7, h2_7e⟩ := appM_some.1 hpb1_1
       refine tf rfl rfl (fun a hf => e_append 2 et_29 hf hm rfl (hm.now h3) rfl rfl rfl h2_7) ?_
       rintro v2_16 w hm
       rw [h2_7e] at hm
       refine tAk hm [4, 5] rfl fun hS => ?_
       obtain ⟨p2_22, c2_22, rfl, hl2_22⟩ := ro_slice (hm.ow_rep 3 rfl)
       obtain ⟨p2_23, c2_23, rfl, hl2_23⟩ := ro_slice (hm.ow_rep 0 rfl)
       obtain ⟨p2_24, c2_24, rfl, hl2_24⟩ := ro_slice (hm.ow_rep 2 rfl)
       exact tP rfl (fun w => yG rfl (y_build (vs := [(0, (.slice p2_22 ([] : List Phi_).length c2_22)), (1, (.slice p2_23 ([] : List Ins_).length c2_23)), (2, (nV b_.jump)), (3, (nV b_.on)), (4, (.slice p2_24 pb1_1.length c2_24))]) (cs := #[(.slice p2_22 ([] : List Phi_).length c2_22), (.slice p2_23 ([] : List Ins_).length c2_23), (nV b_.jump), (nV b_.on), (.slice p2_24 pb1_1.length c2_24)]) rfl rfl (by kernel_rfl))) (tE (gZ fun a hf => ⟨b2_8, (.slice p2_22 ([] : List Phi_).length c2_22), (.slice p2_23 ([] : List Ins_).length c2_23), (.slice p2_24 pb1_1.length c2_24), hf.sb rfl, hm.pk [5, 4, 1, 3, 0, 2] rfl rfl⟩))
      refine tO ?_
      obtain ⟨h2_8, h2_8e⟩ := appM_some.1 hpb1_1
      refine tf rfl rfl (fun a hf => e_append 1 et_29 hf hm rfl (hm.now h3) rfl rfl rfl h2_8) ?_
      rintro v2_17 w hm
      rw [h2_8e] at hm
      refine tAk hm [3, 4] rfl fun hS => tO (tf rfl rfl (fun a hf => e_build0 (α := Ins_) et_63 hm rfl) ?_)
      rintro v2_18 w hm
      refine tAk hm [4, 5] rfl fun hS => ?_
      obtain ⟨p2_25, c2_25, rfl, hl2_25⟩ := ro_slice (hm.ow_rep 3 rfl)
      obtain ⟨p2_26, c2_26, rfl, hl2_26⟩ := ro_slice (hm.ow_rep 0 rfl)
      obtain ⟨p2_27, c2_27, rfl, hl2_27⟩ := ro_slice (hm.ow_rep 2 rfl)
      exact tP rfl (fun w => yG rfl (y_build (vs := [(0, (.slice p2_25 ([] : List Phi_).length c2_25)), (1, (.slice p2_26 ([] : List Ins_).length c2_26)), (2, (nV b_.jump)), (3, (nV b_.on)), (4, (.slice p2_27 pb1_1.length c2_27))]) (cs := #[(.slice p2_25 ([] : List Phi_).length c2_25), (.slice p2_26 ([] : List Ins_).length c2_26), (nV b_.jump), (nV b_.on), (.slice p2_27 pb1_1.length c2_27)]) rfl rfl (by kernel_rfl))) (tE (gZ fun a hf => ⟨b2_8, (.slice p2_25 ([] : List Phi_).length c2_25), (.slice p2_26 ([] : List Ins_).length c2_26), (.slice p2_27 pb1_1.length c2_27), hf.sb rfl, hm.pk [5, 4, 1, 3, 0, 2] rfl rfl⟩))
     refine tO (tf rfl rfl (fun a hf => e_alloc hm zeroValue65 rfl rfl) ?_)
     rintro _ w ⟨b2_9, rfl, hm⟩
     refine tAk hm [2, 3] rfl fun hS => tMo ?_ ?_
     ·
      refine tf rfl rfl (fun a hf => e_build0 (α := Ins_) et_63 hm rfl) ?_
      rintro v2_19 w hm
      refine tAk hm [3, 4] rfl fun hS => tO (tf rfl rfl (fun a hf => e_build0 (α := Int) et_29 hm rfl) ?_)
      rintro v2_20 w hm
      refine tAk hm [4, 5] rfl fun hS => tO ?_
      obtain ⟨h2_9, h2_9e⟩ := appM_some.1 hpb1_1
      refine tf rfl rfl (fun a hf => e_append 0 et_29 hf hm rfl (hm.now h3) rfl rfl rfl h2_9) ?_
      rintro v2_21 w hm
      rw [h2_9e] at hm
      refine tAk hm [4, 5] rfl fun hS => ?_
      obtain ⟨p2_28, c2_28, rfl, hl2_28⟩ := ro_slice (hm.ow_rep 3 rfl)
      obtain ⟨p2_29, c2_29, rfl, hl2_29⟩ := ro_slice (hm.ow_rep 1 rfl)
      obtain ⟨p2_30, c2_30, rfl, hl2_30⟩ := ro_slice (hm.ow_rep 0 rfl)
      exact tP rfl (fun w => yG rfl (y_build (vs := [(0, (.slice p2_28 ([] : List Phi_).length c2_28)), (1, (.slice p2_29 ([] : List Ins_).length c2_29)), (2, (nV b_.jump)), (3, (nV b_.on)), (4, (.slice p2_30 pb1_1.length c2_30))]) (cs := #[(.slice p2_28 ([] : List Phi_).length c2_28), (.slice p2_29 ([] : List Ins_).length c2_29), (nV b_.jump), (nV b_.on), (.slice p2_30 pb1_1.length c2_30)]) rfl rfl (by kernel_rfl))) (tE (gZ fun a hf => ⟨b2_9, (.slice p2_28 ([] : List Phi_).length c2_28), (.slice p2_29 ([] : List Ins_).length c2_29), (.slice p2_30 pb1_1.length c2_30), hf.sb rfl, hm.pk [5, 4, 2, 3, 1, 0] rfl rfl⟩))
     refine tO (tf rfl rfl (fun a hf => e_build0 (α := Int) et_29 hm rfl) ?_)
     rintro v2_22 w hm
     refine tAk hm [3, 4] rfl fun hS => tMo ?_ ?_
     ·
      refine tf rfl rfl (fun a hf => e_build0 (α := Ins_) et_63 hm rfl) ?_
      rintro v2_23 w hm
      refine tAk hm [4, 5] rfl fun hS => tO ?_
      obtain ⟨h2_10, h2_10e⟩ := appM_some.1 hpb1_1
      refine tf rfl rfl (fun a hf => e_append 1 et_29 hf hm rfl (hm.now h3) rfl rfl rfl h2_10) ?_
      rintro v2_24 w hm
      rw [h2_10e] at hm
      refine tAk hm [4, 5] rfl fun hS => ?_
      obtain ⟨p2_31, c2_31, rfl, hl2_31⟩ := ro_slice (hm.ow_rep 3 rfl)
      obtain ⟨p2_32, c2_32, rfl, hl2_32⟩ := ro_slice (hm.ow_rep 0 rfl)
      obtain ⟨p2_33, c2_33, rfl, hl2_33⟩ := ro_slice (hm.ow_rep 1 rfl)
      exact tP rfl (fun w => yG rfl (y_build (vs := [(0, (.slice p2_31 ([] : List Phi_).length c2_31)), (1, (.slice p2_32 ([] : List Ins_).length c2_32)), (2, (nV b_.jump)), (3, (nV b_.on)), (4, (.slice p2_33 pb1_1.length c2_33))]) (cs := #[(.slice p2_31 ([] : List Phi_).length c2_31), (.slice p2_32 ([] : List Ins_).length c2_32), (nV b_.jump), (nV b_.on), (.slice p2_33 pb1_1.length c2_33)]) rfl rfl (by kernel_rfl))) (tE (gZ fun a hf => ⟨b2_9, (.slice p2_31 ([] : List Phi_).length c2_31), (.slice p2_32 ([] : List Ins_).length c2_32), (.slice p2_33 pb1_1.length c2_33), hf.sb rfl, hm.pk [5, 4, 2, 3, 0, 1] rfl rfl⟩))
     refine tO ?_
     obtain ⟨h2_11, h2_11e⟩ := appM_some.1 hpb1_1
     refine tf rfl rfl (fun a hf => e_append 0 et_29 hf hm rfl (hm.now h3) rfl rfl rfl h2_11) ?_
     rintro v2_25 w hm
     rw [h2_11e] at hm
     refine tAk hm [3, 4] rfl fun hS => tO (tf rfl rfl (fun a hf => e_build0 (α := Ins_) et_63 hm rfl) ?_)
     rintro v2_26 w hm
     refine tAk hm [4, 5] rfl fun hS => ?_
     obtain ⟨p2_34, c2_34, rfl, hl2_34⟩ := ro_slice (hm.ow_rep 3 rfl)
     obtain ⟨p2_35, c2_35, rfl, hl2_35⟩ := ro_slice (hm.ow_rep 0 rfl)
     obtain ⟨p2_36, c2_36, rfl, hl2_36⟩ := ro_slice (hm.ow_rep 1 rfl)
     exact tP rfl (fun w => yG rfl (y_build (vs := [(0, (.slice p2_34 ([] : List Phi_).length c2_34)), (1, (.slice p2_35 ([] : List Ins_).length c2_35)), (2, (nV b_.jump)), (3, (nV b_.on)), (4, (.slice p2_36 pb1_1.length c2_36))]) (cs := #[(.slice p2_34 ([] : List Phi_).length c2_34), (.slice p2_35 ([] : List Ins_).length c2_35), (nV b_.jump), (nV b_.on), (.slice p2_36 pb1_1.length c2_36)]) rfl rfl (by kernel_rfl))) (tE (gZ fun a hf => ⟨b2_9, (.slice p2_34 ([] : List Phi_).length c2_34), (.slice p2_35 ([] : List Ins_).length c2_35), (.slice p2_36 pb1_1.length c2_36), hf.sb rfl, hm.pk [5, 4, 2, 3, 0, 1] rfl rfl⟩))
    refine tMo ?_ ?_
    ·
     refine tf rfl rfl (fun a hf => e_build0 (α := Ins_) et_63 hm rfl) ?_
     rintro v2_27 w hm
     refine tAk hm [1, 2] rfl fun hS => tMo ?_ ?_
     ·
      refine tf rfl rfl (fun a hf => e_build0 (α := Phi_) et_62 hm rfl) ?_
      rintro v2_28 w hm
      refine tAk hm [2, 3] rfl fun hS => tMo ?_ ?_
      ·
       refine tf rfl rfl (fun a hf => e_build0 (α := Int) et_29 hm rfl) ?_
       rintro v2_29 w hm
       refine tAk hm [3, 4] rfl fun hS => tMo ?_ ?_
       ·
        obtain ⟨h2_12, h2_12e⟩ := appM_some.1 hpb1_1
        refine tf rfl rfl (fun a hf => e_append 0 et_29 hf hm rfl (hm.now h3) rfl rfl rfl h2_12) ?_
        rintro v2_30 w hm
        rw [h2_12e] at hm
        refine tAk hm [3, 4] rfl fun hS => ?_
        obtain ⟨p2_37, c2_37, rfl, hl2_37⟩ := ro_slice (hm.ow_rep 1 rfl)
        obtain ⟨p2_38, c2_38, rfl, hl2_38⟩ := ro_slice (hm.ow_rep 2 rfl)
        obtain ⟨p2_39, c2_39, rfl, hl2_39⟩ := ro_slice (hm.ow_rep 0 rfl)
        refine tP rfl (fun w => yG rfl (y_build (vs := [(0, (.slice p2_37 ([] : List Phi_).length c2_37)), (1, (.slice p2_38 ([] : List Ins_).length c2_38)), (2, (nV b_.jump)), (3, (nV b_.on)), (4, (.slice p2_39 pb1_1.length c2_39))]) (cs := #[(.slice p2_37 ([] : List Phi_).length c2_37), (.slice p2_38 ([] : List Ins_).length c2_38), (nV b_.jump), (nV b_.on), (.slice p2_39 pb1_1.length c2_39)]) rfl rfl (by kernel_rfl))) (tO (tf rfl rfl (fun a hf => e_alloc hm zeroValue65 rfl rfl) ?_))
        rintro _ w ⟨b2_10, rfl, hm⟩
        exact tAk hm [4, 5] rfl fun hS => tE (gZ fun a hf => ⟨b2_10, (.slice p2_37 ([] : List Phi_).length c2_37), (.slice p2_38 ([] : List Ins_).length c2_38), (.slice p2_39 pb1_1.length c2_39), hf.sb rfl, hm.pk [5, 4, 0, 2, 3, 1] rfl rfl⟩)
       refine tO (tf rfl rfl (fun a hf => e_alloc hm zeroValue65 rfl rfl) ?_)
       rintro _ w ⟨b2_11, rfl, hm⟩
       refine tAk hm [4, 5] rfl fun hS => tO ?_
       obtain ⟨h2_13, h2_13e⟩ := appM_some.1 hpb1_1
       refine tf rfl rfl (fun a hf => e_append 1 et_29 hf hm rfl (hm.now h3) rfl rfl rfl h2_13) ?_
       rintro v2_31 w hm
       rw [h2_13e] at hm
       refine tAk hm [4, 5] rfl fun hS => ?_
       obtain ⟨p2_40, c2_40, rfl, hl2_40⟩ := ro_slice (hm.ow_rep 2 rfl)
       obtain ⟨p2_41, c2_41, rfl, hl2_41⟩ := ro_slice (hm.ow_rep 3 rfl)
       obtain ⟨p2_42, c2_42, rfl, hl2_42⟩ := ro_slice (hm.ow_rep 1 rfl)
       exact tP rfl (fun w => yG rfl (y_build (vs := [(0, (.slice p2_40 ([] : List Phi_).length c2_40)), (1, (.slice p2_41 ([] : List Ins_).length c2_41)), (2, (nV b_.jump)), (3, (nV b_.on)), (4, (.slice p2_42 pb1_1.length c2_42))]) (cs := #[(.slice p2_40 ([] : List Phi_).length c2_40), (.slice p2_41 ([] : List Ins_).length c2_41), (nV b_.jump), (nV b_.on), (.slice p2_42 pb1_1.length c2_42)]) rfl rfl (by kernel_rfl))) (tE (gZ fun a hf => ⟨b2_11, (.slice p2_40 ([] : List Phi_).length c2_40), (.slice p2_41 ([] : List Ins_).length c2_41), (.slice p2_42 pb1_1.length c2_42), hf.sb rfl, hm.pk [5, 4, 0, 2, 3, 1] rfl rfl⟩))
      refine tO (tf rfl rfl (fun a hf => e_alloc hm zeroValue65 rfl rfl) ?_)
      rintro _ w ⟨b2_12, rfl, hm⟩
      refine tAk hm [3, 4] rfl fun hS => tO (tf rfl rfl (fun a hf => e_build0 (α := Int) et_29 hm rfl) ?_)
      rintro v2_32 w hm
      refine tAk hm [4, 5] rfl fun hS => tO ?_
      obtain ⟨h2_14, h2_14e⟩ := appM_some.1 hpb1_1
      refine tf rfl rfl (fun a hf => e_append 0 et_29 hf hm rfl (hm.now h3) rfl rfl rfl h2_14) ?_
      rintro v2_33 w hm
      rw [h2_14e] at hm
      refine tAk hm [4, 5] rfl fun hS => ?_
      obtain ⟨p2_43, c2_43, rfl, hl2_43⟩ := ro_slice (hm.ow_rep 2 rfl)
      obtain ⟨p2_44, c2_44, rfl, hl2_44⟩ := ro_slice (hm.ow_rep 3 rfl)
      obtain ⟨p2_45, c2_45, rfl, hl2_45⟩ := ro_slice (hm.ow_rep 0 rfl)
      exact tP rfl (fun w => yG rfl (y_build (vs := [(0, (.slice p2_43 ([] : List Phi_).length c2_43)), (1, (.slice p2_44 ([] : List Ins_).length c2_44)), (2, (nV b_.jump)), (3, (nV b_.on)), (4, (.slice p2_45 pb1_1.length c2_45))]) (cs := #[(.slice p2_43 ([] : List Phi_).length c2_43), (.slice p2_44 ([] : List Ins_).length c2_44), (nV b_.jump), (nV b_.on), (.slice p2_45 pb1_1.length c2_45)]) rfl rfl (by kernel_rfl))) (tE (gZ fun a hf => ⟨b2_12, (.slice p2_43 ([] : List Phi_).length c2_43), (.slice p2_44 ([] : List Ins_).length c2_44), (.slice p2_45 pb1_1.length c2_45), hf.sb rfl, hm.pk [5, 4, 1, 2, 3, 0] rfl rfl⟩))
     refine tMo ?_ ?_
     ·
      refine tf rfl rfl (fun a hf => e_build0 (α := Int) et_29 hm rfl) ?_
      rintro v2_34 w hm
      refine tAk hm [2, 3] rfl fun hS => tMo ?_ ?_
      ·
       refine tf rfl rfl (fun a hf => e_build0 (α := Phi_) et_62 hm rfl) ?_
       rintro v2_35 w hm
       refine tAk hm [3, 4] rfl fun hS => tMo ?_ ?_
       ·
        obtain ⟨h2_15, h2_15e⟩ := appM_some.1 hpb1_1
        refine tf rfl rfl (fun a hf => e_append 1 et_29 hf hm rfl (hm.now h3) rfl rfl rfl h2_15) ?_
        rintro v2_36 w hm
        rw [h2_15e] at hm
        refine tAk hm [3, 4] rfl fun hS => ?_
        obtain ⟨p2_46, c2_46, rfl, hl2_46⟩ := ro_slice (hm.ow_rep 0 rfl)
        obtain ⟨p2_47, c2_47, rfl, hl2_47⟩ := ro_slice (hm.ow_rep 2 rfl)
        obtain ⟨p2_48, c2_48, rfl, hl2_48⟩ := ro_slice (hm.ow_rep 1 rfl)
        refine tP rfl (fun w => yG rfl (y_build (vs := [(0, (.slice p2_46 ([] : List Phi_).length c2_46)), (1, (.slice p2_47 ([] : List Ins_).length c2_47)), (2, (nV b_.jump)), (3, (nV b_.on)), (4, (.slice p2_48 pb1_1.length c2_48))]) (cs := #[(.slice p2_46 ([] : List Phi_).length c2_46), (.slice p2_47 ([] : List Ins_).length c2_47), (nV b_.jump), (nV b_.on), (.slice p2_48 pb1_1.length c2_48)]) rfl rfl (by kernel_rfl))) (tO (tf rfl rfl (fun a hf => e_alloc hm zeroValue65 rfl rfl) ?_))
        rintro _ w ⟨b2_13, rfl, hm⟩
        exact tAk hm [4, 5] rfl fun hS => tE (gZ fun a hf => ⟨b2_13, (.slice p2_46 ([] : List Phi_).length c2_46), (.slice p2_47 ([] : List Ins_).length c2_47), (.slice p2_48 pb1_1.length c2_48), hf.sb rfl, hm.pk [5, 4, 0, 1, 3, 2] rfl rfl⟩)
       refine tO (tf rfl rfl (fun a hf => e_alloc hm zeroValue65 rfl rfl) ?_)
       rintro _ w ⟨b2_14, rfl, hm⟩
       refine tAk hm [4, 5] rfl fun hS => tO ?_
       obtain ⟨h2_16, h2_16e⟩ := appM_some.1 hpb1_1
       refine tf rfl rfl (fun a hf => e_append 2 et_29 hf hm rfl (hm.now h3) rfl rfl rfl h2_16) ?_
       rintro v2_37 w hm
       rw [h2_16e] at hm
       refine tAk hm [4, 5] rfl fun hS => ?_
       obtain ⟨p2_49, c2_49, rfl, hl2_49⟩ := ro_slice (hm.ow_rep 1 rfl)
       obtain ⟨p2_50, c2_50, rfl, hl2_50⟩ := ro_slice (hm.ow_rep 3 rfl)
       obtain ⟨p2_51, c2_51, rfl, hl2_51⟩ := ro_slice (hm.ow_rep 2 rfl)
       exact tP rfl (fun w => yG rfl (y_build (vs := [(0, (.slice p2_49 ([] : List Phi_).length c2_49)), (1, (.slice p2_50 ([] : List Ins_).length c2_50)), (2, (nV b_.jump)), (3, (nV b_.on)), (4, (.slice p2_51 pb1_1.length c2_51))]) (cs := #[(.slice p2_49 ([] : List Phi_).length c2_49), (.slice p2_50 ([] : List Ins_).length c2_50), (nV b_.jump), (nV b_.on), (.slice p2_51 pb1_1.length c2_51)]) rfl rfl (by kernel_rfl))) (tE (gZ fun a hf => ⟨b2_14, (.slice p2_49 ([] : List Phi_).length c2_49), (.slice p2_50 ([] : List Ins_).length c2_50), (.slice p2_51 pb1_1.length c2_51), hf.sb rfl, hm.pk [5, 4, 0, 1, 3, 2] rfl rfl⟩))
      refine tMo ?_ ?_
      ·
       obtain ⟨h2_17, h2_17e⟩ := appM_some.1 hpb1_1
       refine tf rfl rfl (fun a hf => e_append 0 et_29 hf hm rfl (hm.now h3) rfl rfl rfl h2_17) ?_
       rintro v2_38 w hm
       rw [h2_17e] at hm
       refine tAk hm [2, 3] rfl fun hS => tMo ?_ ?_
       ·
        refine tf rfl rfl (fun a hf => e_build0 (α := Phi_) et_62 hm rfl) ?_
        rintro v2_39 w hm
        refine tAk hm [3, 4] rfl fun hS => ?_
        obtain ⟨p2_52, c2_52, rfl, hl2_52⟩ := ro_slice (hm.ow_rep 0 rfl)
        obtain ⟨p2_53, c2_53, rfl, hl2_53⟩ := ro_slice (hm.ow_rep 2 rfl)
        obtain ⟨p2_54, c2_54, rfl, hl2_54⟩ := ro_slice (hm.ow_rep 1 rfl)
        refine tP rfl (fun w => yG rfl (y_build (vs := [(0, (.slice p2_52 ([] : List Phi_).length c2_52)), (1, (.slice p2_53 ([] : List Ins_).length c2_53)), (2, (nV b_.jump)), (3, (nV b_.on)), (4, (.slice p2_54 pb1_1.length c2_54))]) (cs := #[(.slice p2_52 ([] : List Phi_).length c2_52), (.slice p2_53 ([] : List Ins_).length c2_53), (nV b_.jump), (nV b_.on), (.slice p2_54 pb1_1.length c2_54)]) rfl rfl (by kernel_rfl))) (tO (tf rfl rfl (fun a hf => e_alloc hm zeroValue65 rfl rfl) ?_))
        rintro _ w ⟨b2_15, rfl, hm⟩
        exact tAk hm [4, 5] rfl fun hS => tE (gZ fun a hf => ⟨b2_15, (.slice p2_52 ([] : List Phi_).length c2_52), (.slice p2_53 ([] : List Ins_).length c2_53), (.slice p2_54 pb1_1.length c2_54), hf.sb rfl, hm.pk [5, 4, 0, 1, 3, 2] rfl rfl⟩)
       refine tO (tf rfl rfl (fun a hf => e_alloc hm zeroValue65 rfl rfl) ?_)
       rintro _ w ⟨b2_16, rfl, hm⟩
       refine tAk hm [3, 4] rfl fun hS => tO (tf rfl rfl (fun a hf => e_build0 (α := Phi_) et_62 hm rfl) ?_)
       rintro v2_40 w hm
       refine tAk hm [4, 5] rfl fun hS => ?_
       obtain ⟨p2_55, c2_55, rfl, hl2_55⟩ := ro_slice (hm.ow_rep 0 rfl)
       obtain ⟨p2_56, c2_56, rfl, hl2_56⟩ := ro_slice (hm.ow_rep 3 rfl)
       obtain ⟨p2_57, c2_57, rfl, hl2_57⟩ := ro_slice (hm.ow_rep 2 rfl)
       exact tP rfl (fun w => yG rfl (y_build (vs := [(0, (.slice p2_55 ([] : List Phi_).length c2_55)), (1, (.slice p2_56 ([] : List Ins_).length c2_56)), (2, (nV b_.jump)), (3, (nV b_.on)), (4, (.slice p2_57 pb1_1.length c2_57))]) (cs := #[(.slice p2_55 ([] : List Phi_).length c2_55), (.slice p2_56 ([] : List Ins_).length c2_56), (nV b_.jump), (nV b_.on), (.slice p2_57 pb1_1.length c2_57)]) rfl rfl (by kernel_rfl))) (tE (gZ fun a hf => ⟨b2_16, (.slice p2_55 ([] : List Phi_).length c2_55), (.slice p2_56 ([] : List Ins_).length c2_56), (.slice p2_57 pb1_1.length c2_57), hf.sb rfl, hm.pk [5, 4, 1, 0, 3, 2] rfl rfl⟩))
      refine tO (tf rfl rfl (fun a hf => e_alloc hm zeroValue65 rfl rfl) ?_)
      rintro _ w ⟨b2_17, rfl, hm⟩
      refine tAk hm [3, 4] rfl fun hS => tMo ?_ ?_
      ·
       refine tf rfl rfl (fun a hf => e_build0 (α := Phi_) et_62 hm rfl) ?_
       rintro v2_41 w hm
       refine tAk hm [4, 5] rfl fun hS => tO ?_
       obtain ⟨h2_18, h2_18e⟩ := appM_some.1 hpb1_1
       refine tf rfl rfl (fun a hf => e_append 2 et_29 hf hm rfl (hm.now h3) rfl rfl rfl h2_18) ?_
       rintro v2_42 w hm
       rw [h2_18e] at hm
       refine tAk hm [4, 5] rfl fun hS => ?_
       obtain ⟨p2_58, c2_58, rfl, hl2_58⟩ := ro_slice (hm.ow_rep 0 rfl)
       obtain ⟨p2_59, c2_59, rfl, hl2_59⟩ := ro_slice (hm.ow_rep 3 rfl)
       obtain ⟨p2_60, c2_60, rfl, hl2_60⟩ := ro_slice (hm.ow_rep 2 rfl)
       exact tP rfl (fun w => yG rfl (y_build (vs := [(0, (.slice p2_58 ([] : List Phi_).length c2_58)), (1, (.slice p2_59 ([] : List Ins_).length c2_59)), (2, (nV b_.jump)), (3, (nV b_.on)), (4, (.slice p2_60 pb1_1.length c2_60))]) (cs := #[(.slice p2_58 ([] : List Phi_).length c2_58), (.slice p2_59 ([] : List Ins_).length c2_59), (nV b_.jump), (nV b_.on), (.slice p2_60 pb1_1.length c2_60)]) rfl rfl (by kernel_rfl))) (tE (gZ fun a hf => ⟨b2_17, (.slice p2_58 ([] : List Phi_).length c2_58), (.slice p2_59 ([] : List Ins_).length c2_59), (.slice p2_60 pb1_1.length c2_60), hf.sb rfl, hm.pk [5, 4, 1, 0, 3, 2] rfl rfl⟩))
      refine tO ?_
      obtain ⟨h2_19, h2_19e⟩ := appM_some.1 hpb1_1
      refine tf rfl rfl (fun a hf => e_append 1 et_29 hf hm rfl (hm.now h3) rfl rfl rfl h2_19) ?_
      rintro v2_43 w hm
      rw [h2_19e] at hm
      refine tAk hm [3, 4] rfl fun hS => tO (tf rfl rfl (fun a hf => e_build0 (α := Phi_) et_62 hm rfl) ?_)
      rintro v2_44 w hm
      refine tAk hm [4, 5] rfl fun hS => ?_
      obtain ⟨p2_61, c2_61, rfl, hl2_61⟩ := ro_slice (hm.ow_rep 0 rfl)
      obtain ⟨p2_62, c2_62, rfl, hl2_62⟩ := ro_slice (hm.ow_rep 3 rfl)
      obtain ⟨p2_63, c2_63, rfl, hl2_63⟩ := ro_slice (hm.ow_rep 2 rfl)
      exact tP rfl (fun w => yG rfl (y_build (vs := [(0, (.slice p2_61 ([] : List Phi_).length c2_61)), (1, (.slice p2_62 ([] : List Ins_).length c2_62)), (2, (nV b_.jump)), (3, (nV b_.on)), (4, (.slice p2_63 pb1_1.length c2_63))]) (cs := #[(.slice p2_61 ([] : List Phi_).length c2_61), (.slice p2_62 ([] : List Ins_).length c2_62), (nV b_.jump), (nV b_.on), (.slice p2_63 pb1_1.length c2_63)]) rfl rfl (by kernel_rfl))) (tE (gZ fun a hf => ⟨b2_17, (.slice p2_61 ([] : List Phi_).length c2_61), (.slice p2_62 ([] : List Ins_).length c2_62), (.slice p2_63 pb1_1.length c2_63), hf.sb rfl, hm.pk [5, 4, 1, 0, 3, 2] rfl rfl⟩))
     refine tO (tf rfl rfl (fun a hf => e_alloc hm zeroValue65 rfl rfl) ?_)
     rintro _ w ⟨b2_18, rfl, hm⟩
     refine tAk hm [2, 3] rfl fun hS => tMo ?_ ?_
     ·
      refine tf rfl rfl (fun a hf => e_build0 (α := Phi_) et_62 hm rfl) ?_
      rintro v2_45 w hm
      refine tAk hm [3, 4] rfl fun hS => tO (tf rfl rfl (fun a hf => e_build0 (α := Int) et_29 hm rfl) ?_)
      rintro v2_46 w hm
      refine tAk hm [4, 5] rfl fun hS => tO ?_
      obtain ⟨h2_20, h2_20e⟩ := appM_some.1 hpb1_1
      refine tf rfl rfl (fun a hf => e_append 0 et_29 hf hm rfl (hm.now h3) rfl rfl rfl h2_20) ?_
      rintro v2_47 w hm
      rw [h2_20e] at hm
      refine tAk hm [4, 5] rfl fun hS => ?_
      obtain ⟨p2_64, c2_64, rfl, hl2_64⟩ := ro_slice (hm.ow_rep 1 rfl)
      obtain ⟨p2_65, c2_65, rfl, hl2_65⟩ := ro_slice (hm.ow_rep 3 rfl)
      obtain ⟨p2_66, c2_66, rfl, hl2_66⟩ := ro_slice (hm.ow_rep 0 rfl)
      exact tP rfl (fun w => yG rfl (y_build (vs := [(0, (.slice p2_64 ([] : List Phi_).length c2_64)), (1, (.slice p2_65 ([] : List Ins_).length c2_65)), (2, (nV b_.jump)), (3, (nV b_.on)), (4, (.slice p2_66 pb1_1.length c2_66))]) (cs := #[(.slice p2_64 ([] : List Phi_).length c2_64), (.slice p2_65 ([] : List Ins_).length c2_65), (nV b_.jump), (nV b_.on), (.slice p2_66 pb1_1.length c2_66)]) rfl rfl (by kernel_rfl))) (tE (gZ fun a hf => ⟨b2_18, (.slice p2_64 ([] : List Phi_).length c2_64), (.slice p2_65 ([] : List Ins_).length c2_65), (.slice p2_66 pb1_1.length c2_66), hf.sb rfl, hm.pk [5, 4, 2, 1, 3, 0] rfl rfl⟩))
     refine tO (tf rfl rfl (fun a hf => e_build0 (α := Int) et_29 hm rfl) ?_)
     rintro v2_48 w hm
     refine tAk hm [3, 4] rfl fun hS => tMo ?_ ?_
     ·
      refine tf rfl rfl (fun a hf => e_build0 (α := Phi_) et_62 hm rfl) ?_
      rintro v2_49 w hm
      refine tAk hm [4, 5] rfl fun hS => tO ?_
      obtain ⟨h2_21, h2_21e⟩ := appM_some.1 hpb1_1
      refine tf rfl rfl (fun a hf => e_append 1 et_29 hf hm rfl (hm.now h3) rfl rfl rfl h2_21) ?_
      rintro v2_50 w hm
      rw [h2_21e] at hm
      refine tAk hm [4, 5] rfl fun hS => ?_
      obtain ⟨p2_67, c2_67, rfl, hl2_67⟩ := ro_slice (hm.ow_rep 0 rfl)
      obtain ⟨p2_68, c2_68, rfl, hl2_68⟩ := ro_slice (hm.ow_rep 3 rfl)
      obtain ⟨p2_69, c2_69, rfl, hl2_69⟩ := ro_slice (hm.ow_rep 1 rfl)
      exact tP rfl (fun w => yG rfl (y_build (vs := [(0, (.slice p2_67 ([] : List Phi_).length c2_67)), (1, (.slice p2_68 ([] : List Ins_).length c2_68)), (2, (nV b_.jump)), (3, (nV b_.on)), (4, (.slice p2_69 pb1_1.length c2_69))]) (cs := #[(.slice p2_67 ([] : List Phi_).length c2_67), (.slice p2_68 ([] : List Ins_).length c2_68), (nV b_.jump), (nV b_.on), (.slice p2_69 pb1_1.length c2_69)]) rfl rfl (by kernel_rfl))) (tE (gZ fun a hf => ⟨b2_18, (.slice p2_67 ([] : List Phi_).length c2_67), (.slice p2_68 ([] : List Ins_).length c2_68), (.slice p2_69 pb1_1.length c2_69), hf.sb rfl, hm.pk [5, 4, 2, 0, 3, 1] rfl rfl⟩))
     refine tO ?_
     obtain ⟨h2_22, h2_22e⟩ := appM_some.1 hpb1_1
     refine tf rfl rfl (fun a hf => e_append 0 et_29 hf hm rfl (hm.now h3) rfl rfl rfl h2_22) ?_
     rintro v2_51 w hm
     rw [h2_22e] at hm
     refine tAk hm [3, 4] rfl fun hS => tO (tf rfl rfl (fun a hf => e_build0 (α := Phi_) et_62 hm rfl) ?_)
     rintro v2_52 w hm
     refine tAk hm [4, 5] rfl fun hS => ?_
     obtain ⟨p2_70, c2_70, rfl, hl2_70⟩ := ro_slice (hm.ow_rep 0 rfl)
     obtain ⟨p2_71, c2_71, rfl, hl2_71⟩ := ro_slice (hm.ow_rep 3 rfl)
     obtain ⟨p2_72, c2_72, rfl, hl2_72⟩ := ro_slice (hm.ow_rep 1 rfl)
     exact tP rfl (fun w => yG rfl (y_build (vs := [(0, (.slice p2_70 ([] : List Phi_).length c2_70)), (1, (.slice p2_71 ([] : List Ins_).length c2_71)), (2, (nV b_.jump)), (3, (nV b_.on)), (4, (.slice p2_72 pb1_1.length c2_72))]) (cs := #[(.slice p2_70 ([] : List Phi_).length c2_70), (.slice p2_71 ([] : List Ins_).length c2_71), (nV b_.jump), (nV b_.on), (.slice p2_72 pb1_1.length c2_72)]) rfl rfl (by kernel_rfl))) (tE (gZ fun a hf => ⟨b2_18, (.slice p2_70 ([] : List Phi_).length c2_70), (.slice p2_71 ([] : List Ins_).length c2_71), (.slice p2_72 pb1_1.length c2_72), hf.sb rfl, hm.pk [5, 4, 2, 0, 3, 1] rfl rfl⟩))
    refine tMo ?_ ?_
    ·
     refine tf rfl rfl (fun a hf => e_build0 (α := Int) et_29 hm rfl) ?_
     rintro v2_53 w hm
     refine tAk hm [1, 2] rfl fun hS => tMo ?_ ?_
     ·
      refine tf rfl rfl (fun a hf => e_build0 (α := Phi_) et_62 hm rfl) ?_
      rintro v2_54 w hm
      refine tAk hm [2, 3] rfl fun hS => tMo ?_ ?_
      ·
       refine tf rfl rfl (fun a hf => e_build0 (α := Ins_) et_63 hm rfl) ?_
       rintro v2_55 w hm
       refine tAk hm [3, 4] rfl fun hS => tMo ?_ ?_
       ·
        obtain ⟨h2_23, h2_23e⟩ := appM_some.1 hpb1_1
        refine tf rfl rfl (fun a hf => e_append 2 et_29 hf hm rfl (hm.now h3) rfl rfl rfl h2_23) ?_
        rintro v2_56 w hm
        rw [h2_23e] at hm
        refine tAk hm [3, 4] rfl fun hS => ?_
        obtain ⟨p2_73, c2_73, rfl, hl2_73⟩ := ro_slice (hm.ow_rep 1 rfl)
        obtain ⟨p2_74, c2_74, rfl, hl2_74⟩ := ro_slice (hm.ow_rep 0 rfl)
        obtain ⟨p2_75, c2_75, rfl, hl2_75⟩ := ro_slice (hm.ow_rep 2 rfl)
        refine tP rfl (fun w => yG rfl (y_build (vs := [(0, (.slice p2_73 ([] : List Phi_).length c2_73)), (1, (.slice p2_74 ([] : List Ins_).length c2_74)), (2, (nV b_.jump)), (3, (nV b_.on)), (4, (.slice p2_75 pb1_1.length c2_75))]) (cs := #[(.slice p2_73 ([] : List Phi_).length c2_73), (.slice p2_74 ([] : List Ins_).length c2_74), (nV b_.jump), (nV b_.on), (.slice p2_75 pb1_1.length c2_75)]) rfl rfl (by kernel_rfl))) (tO (tf rfl rfl (fun a hf => e_alloc hm zeroValue65 rfl rfl) ?_))
        rintro _ w ⟨b2_19, rfl, hm⟩
        exact tAk hm [4, 5] rfl fun hS => tE (gZ fun a hf => ⟨b2_19, (.slice p2_73 ([] : List Phi_).length c2_73), (.slice p2_74 ([] : List Ins_).length c2_74), (.slice p2_75 pb1_1.length c2_75), hf.sb rfl, hm.pk [5, 4, 0, 2, 1, 3] rfl rfl⟩)
       refine tO (tf rfl rfl (fun a hf => e_alloc hm zeroValue65 rfl rfl) ?_)
       rintro _ w ⟨b2_20, rfl, hm⟩
       refine tAk hm [4, 5] rfl fun hS => tO ?_
       obtain ⟨h2_24, h2_24e⟩ := appM_some.1 hpb1_1
       refine tf rfl rfl (fun a hf => e_append 3 et_29 hf hm rfl (hm.now h3) rfl rfl rfl h2_24) ?_
       rintro v2_57 w hm
       rw [h2_24e] at hm
       refine tAk hm [4, 5] rfl fun hS => ?_
       obtain ⟨p2_76, c2_76, rfl, hl2_76⟩ := ro_slice (hm.ow_rep 2 rfl)
       obtain ⟨p2_77, c2_77, rfl, hl2_77⟩ := ro_slice (hm.ow_rep 1 rfl)
       obtain ⟨p2_78, c2_78, rfl, hl2_78⟩ := ro_slice (hm.ow_rep 3 rfl)
       exact tP rfl (fun w => yG rfl (y_build (vs := [(0, (.slice p2_76 ([] : List Phi_).length c2_76)), (1, (.slice p2_77 ([] : List Ins_).length c2_77)), (2, (nV b_.jump)), (3, (nV b_.on)), (4, (.slice p2_78 pb1_1.length c2_78))]) (cs := #[(.slice p2_76 ([] : List Phi_).length c2_76), (.slice p2_77 ([] : List Ins_).length c2_77), (nV b_.jump), (nV b_.on), (.slice p2_78 pb1_1.length c2_78)]) rfl rfl (by kernel_rfl))) (tE (gZ fun a hf => ⟨b2_20, (.slice p2_76 ([] : List Phi_).length c2_76), (.slice p2_77 ([] : List Ins_).length c2_77), (.slice p2_78 pb1_1.length c2_78), hf.sb rfl, hm.pk [5, 4, 0, 2, 1, 3] rfl rfl⟩))
      refine tMo ?_ ?_
      ·
       obtain ⟨h2_25, h2_25e⟩ := appM_some.1 hpb1_1
       refine tf rfl rfl (fun a hf => e_append 1 et_29 hf hm rfl (hm.now h3) rfl rfl rfl h2_25) ?_
       rintro v2_58 w hm
       rw [h2_25e] at hm
       refine tAk hm [2, 3] rfl fun hS => tMo ?_ ?_
       ·
        refine tf rfl rfl (fun a hf => e_build0 (α := Ins_) et_63 hm rfl) ?_
        rintro v2_59 w hm
        refine tAk hm [3, 4] rfl fun hS => ?_
        obtain ⟨p2_79, c2_79, rfl, hl2_79⟩ := ro_slice (hm.ow_rep 1 rfl)
        obtain ⟨p2_80, c2_80, rfl, hl2_80⟩ := ro_slice (hm.ow_rep 0 rfl)
        obtain ⟨p2_81, c2_81, rfl, hl2_81⟩ := ro_slice (hm.ow_rep 2 rfl)
        refine tP rfl (fun w => yG rfl (y_build (vs := [(0, (.slice p2_79 ([] : List Phi_).length c2_79)), (1, (.slice p2_80 ([] : List Ins_).length c2_80)), (2, (nV b_.jump)), (3, (nV b_.on)), (4, (.slice p2_81 pb1_1.length c2_81))]) (cs := #[(.slice p2_79 ([] : List Phi_).length c2_79), (.slice p2_80 ([] : List Ins_).length c2_80), (nV b_.jump), (nV b_.on), (.slice p2_81 pb1_1.length c2_81)]) rfl rfl (by kernel_rfl))) (tO (tf rfl rfl (fun a hf => e_alloc hm zeroValue65 rfl rfl) ?_))
        rintro _ w ⟨b2_21, rfl, hm⟩
        exact tAk hm [4, 5] rfl fun hS => tE (gZ fun a hf => ⟨b2_21, (.slice p2_79 ([] : List Phi_).length c2_79), (.slice p2_80 ([] : List Ins_).length c2_80), (.slice p2_81 pb1_1.length c2_81), hf.sb rfl, hm.pk [5, 4, 0, 2, 1, 3] rfl rfl⟩)
       refine tO (tf rfl rfl (fun a hf => e_alloc hm zeroValue65 rfl rfl) ?_)
       rintro _ w ⟨b2_22, rfl, hm⟩
       refine tAk hm [3, 4] rfl fun hS => tO (tf rfl rfl (fun a hf => e_build0 (α := Ins_) et_63 hm rfl) ?_)
       rintro v2_60 w hm
       refine tAk hm [4, 5] rfl fun hS => ?_
       obtain ⟨p2_82, c2_82, rfl, hl2_82⟩ := ro_slice (hm.ow_rep 2 rfl)
       obtain ⟨p2_83, c2_83, rfl, hl2_83⟩ := ro_slice (hm.ow_rep 0 rfl)
       obtain ⟨p2_84, c2_84, rfl, hl2_84⟩ := ro_slice (hm.ow_rep 3 rfl)
       exact tP rfl (fun w => yG rfl (y_build (vs := [(0, (.slice p2_82 ([] : List Phi_).length c2_82)), (1, (.slice p2_83 ([] : List Ins_).length c2_83)), (2, (nV b_.jump)), (3, (nV b_.on)), (4, (.slice p2_84 pb1_1.length c2_84))]) (cs := #[(.slice p2_82 ([] : List Phi_).length c2_82), (.slice p2_83 ([] : List Ins_).length c2_83), (nV b_.jump), (nV b_.on), (.slice p2_84 pb1_1.length c2_84)]) rfl rfl (by kernel_rfl))) (tE (gZ fun a hf => ⟨b2_22, (.slice p2_82 ([] : List Phi_).length c2_82), (.slice p2_83 ([] : List Ins_).length c2_83), (.slice p2_84 pb1_1.length c2_84), hf.sb rfl, hm.pk [5, 4, 1, 2, 0, 3] rfl rfl⟩))
      refine tO (tf rfl rfl (fun a hf => e_alloc hm zeroValue65 rfl rfl) ?_)
      rintro _ w ⟨b2_23, rfl, hm⟩
      refine tAk hm [3, 4] rfl fun hS => tMo ?_ ?_
      ·
       refine tf rfl rfl (fun a hf => e_build0 (α := Ins_) et_63 hm rfl) ?_
       rintro v2_61 w hm
       refine tAk hm [4, 5] rfl fun hS => tO ?_
       obtain ⟨h2_26, h2_26e⟩ := appM_some.1 hpb1_1
       refine tf rfl rfl (fun a hf => e_append 3 et_29 hf hm rfl (hm.now h3) rfl rfl rfl h2_26) ?_
       rintro v2_62 w hm
       rw [h2_26e] at hm
       refine tAk hm [4, 5] rfl fun hS => ?_
       obtain ⟨p2_85, c2_85, rfl, hl2_85⟩ := ro_slice (hm.ow_rep 2 rfl)
       obtain ⟨p2_86, c2_86, rfl, hl2_86⟩ := ro_slice (hm.ow_rep 0 rfl)
       obtain ⟨p2_87, c2_87, rfl, hl2_87⟩ := ro_slice (hm.ow_rep 3 rfl)
       exact tP rfl (fun w => yG rfl (y_build (vs := [(0, (.slice p2_85 ([] : List Phi_).length c2_85)), (1, (.slice p2_86 ([] : List Ins_).length c2_86)), (2, (nV b_.jump)), (3, (nV b_.on)), (4, (.slice p2_87 pb1_1.length c2_87))]) (cs := #[(.slice p2_85 ([] : List Phi_).length c2_85), (.slice p2_86 ([] : List Ins_).length c2_86), (nV b_.jump), (nV b_.on), (.slice p2_87 pb1_1.length c2_87)]) rfl rfl (by kernel_rfl))) (tE (gZ fun a hf => ⟨b2_23, (.slice p2_85 ([] : List Phi_).length c2_85), (.slice p2_86 ([] : List Ins_).length c2_86), (.slice p2_87 pb1_1.length c2_87), hf.sb rfl, hm.pk [5, 4, 1, 2, 0, 3] rfl rfl⟩))
      refine tO ?_
      obtain ⟨h2_27, h2_27e⟩ := appM_some.1 hpb1_1
      refine tf rfl rfl (fun a hf => e_append 2 et_29 hf hm rfl (hm.now h3) rfl rfl rfl h2_27) ?_
      rintro v2_63 w hm
      rw [h2_27e] at hm
      refine tAk hm [3, 4] rfl fun hS => tO (tf rfl rfl (fun a hf => e_build0 (α := Ins_) et_63 hm rfl) ?_)
      rintro v2_64 w hm
      refine tAk hm [4, 5] rfl fun hS => ?_
      obtain ⟨p2_88, c2_88, rfl, hl2_88⟩ := ro_slice (hm.ow_rep 2 rfl)
      obtain ⟨p2_89, c2_89, rfl, hl2_89⟩ := ro_slice (hm.ow_rep 0 rfl)
      obtain ⟨p2_90, c2_90, rfl, hl2_90⟩ := ro_slice (hm.ow_rep 3 rfl)
      exact tP rfl (fun w => yG rfl (y_build (vs := [(0, (.slice p2_88 ([] : List Phi_).length c2_88)), (1, (.slice p2_89 ([] : List Ins_).length c2_89)), (2, (nV b_.jump)), (3, (nV b_.on)), (4, (.slice p2_90 pb1_1.length c2_90))]) (cs := #[(.slice p2_88 ([] : List Phi_).length c2_88), (.slice p2_89 ([] : List Ins_).length c2_89), (nV b_.jump), (nV b_.on), (.slice p2_90 pb1_1.length c2_90)]) rfl rfl (by kernel_rfl))) (tE (gZ fun a hf => ⟨b2_23, (.slice p2_88 ([] : List Phi_).length c2_88), (.slice p2_89 ([] : List Ins_).length c2_89), (.slice p2_90 pb1_1.length c2_90), hf.sb rfl, hm.pk [5, 4, 1, 2, 0, 3] rfl rfl⟩))
     refine tMo ?_ ?_
     ·
      refine tf rfl rfl (fun a hf => e_build0 (α := Ins_) et_63 hm rfl) ?_
      rintro v2_65 w hm
      refine tAk hm [2, 3] rfl fun hS => tMo ?_ ?_
      ·
       refine tf rfl rfl (fun a hf => e_build0 (α := Phi_) et_62 hm rfl) ?_
       rintro v2_66 w hm
       refine tAk hm [3, 4] rfl fun hS => tMo ?_ ?_
       ·
        obtain ⟨h2_28, h2_28e⟩ := appM_some.1 hpb1_1
        refine tf rfl rfl (fun a hf => e_append 2 et_29 hf hm rfl (hm.now h3) rfl rfl rfl h2_28) ?_
        rintro v2_67 w hm
        rw [h2_28e] at hm
        refine tAk hm [3, 4] rfl fun hS => ?_
        obtain ⟨p2_91, c2_91, rfl, hl2_91⟩ := ro_slice (hm.ow_rep 0 rfl)
        obtain ⟨p2_92, c2_92, rfl, hl2_92⟩ := ro_slice (hm.ow_rep 1 rfl)
        obtain ⟨p2_93, c2_93, rfl, hl2_93⟩ := ro_slice (hm.ow_rep 2 rfl)
        refine tP rfl (fun w => yG rfl (y_build (vs := [(0, (.slice p2_91 ([] : List Phi_).length c2_91)), (1, (.slice p2_92 ([] : List Ins_).length c2_92)), (2, (nV b_.jump)), (3, (nV b_.on)), (4, (.slice p2_93 pb1_1.length c2_93))]) (cs := #[(.slice p2_91 ([] : List Phi_).length c2_91), (.slice p2_92 ([] : List Ins_).length c2_92), (nV b_.jump), (nV b_.on), (.slice p2_93 pb1_1.length c2_93)]) rfl rfl (by kernel_rfl))) (tO (tf rfl rfl (fun a hf => e_alloc hm zeroValue65 rfl rfl) ?_))
        rintro _ w ⟨b2_24, rfl, hm⟩
        exact tAk hm [4, 5] rfl fun hS => tE (gZ fun a hf => ⟨b2_24, (.slice p2_91 ([] : List Phi_).length c2_91), (.slice p2_92 ([] : List Ins_).length c2_92), (.slice p2_93 pb1_1.length c2_93), hf.sb rfl, hm.pk [5, 4, 0, 1, 2, 3] rfl rfl⟩)
       refine tO (tf rfl rfl (fun a hf => e_alloc hm zeroValue65 rfl rfl) ?_)
       rintro _ w ⟨b2_25, rfl, hm⟩
       refine tAk hm [4, 5] rfl fun hS => tO ?_
       obtain ⟨h2_29, h2_29e⟩ := appM_some.1 hpb1_1
       refine tf rfl rfl (fun a hf => e_append 3 et_29 hf hm rfl (hm.now h3) rfl rfl rfl h2_29) ?_
       rintro v2_68 w hm
       rw [h2_29e] at hm
       refine tAk hm [4, 5] rfl fun hS => ?_
       obtain ⟨p2_94, c2_94, rfl, hl2_94⟩ := ro_slice (hm.ow_rep 1 rfl)
       obtain ⟨p2_95, c2_95, rfl, hl2_95⟩ := ro_slice (hm.ow_rep 2 rfl)
       obtain ⟨p2_96, c2_96, rfl, hl2_96⟩ := ro_slice (hm.ow_rep 3 rfl)
       exact tP rfl (fun w => yG rfl (y_build (vs := [(0, (.slice p2_94 ([] : List Phi_).length c2_94)), (1, (.slice p2_95 ([] : List Ins_).length c2_95)), (2, (nV b_.jump)), (3, (nV b_.on)), (4, (.slice p2_96 pb1_1.length c2_96))]) (cs := #[(.slice p2_94 ([] : List Phi_).length c2_94), (.slice p2_95 ([] : List Ins_).length c2_95), (nV b_.jump), (nV b_.on), (.slice p2_96 pb1_1.length c2_96)]) rfl rfl (by kernel_rfl))) (tE (gZ fun a hf => ⟨b2_25, (.slice p2_94 ([] : List Phi_).length c2_94), (.slice p2_95 ([] : List Ins_).length c2_95), (.slice p2_96 pb1_1.length c2_96), hf.sb rfl, hm.pk [5, 4, 0, 1, 2, 3] rfl rfl⟩))
      refine tMo ?_ ?_
      ·
       obtain ⟨h2_30, h2_30e⟩ := appM_some.1 hpb1_1
       refine tf rfl rfl (fun a hf => e_append 1 et_29 hf hm rfl (hm.now h3) rfl rfl rfl h2_30) ?_
       rintro v2_69 w hm
       rw [h2_30e] at hm
       refine tAk hm [2, 3] rfl fun hS => tMo ?_ ?_
       ·
        refine tf rfl rfl (fun a hf => e_build0 (α := Phi_) et_62 hm rfl) ?_
        rintro v2_70 w hm
        refine tAk hm [3, 4] rfl fun hS => ?_
        obtain ⟨p2_97, c2_97, rfl, hl2_97⟩ := ro_slice (hm.ow_rep 0 rfl)
        obtain ⟨p2_98, c2_98, rfl, hl2_98⟩ := ro_slice (hm.ow_rep 1 rfl)
        obtain ⟨p2_99, c2_99, rfl, hl2_99⟩ := ro_slice (hm.ow_rep 2 rfl)
        refine tP rfl (fun w => yG rfl (y_build (vs := [(0, (.slice p2_97 ([] : List Phi_).length c2_97)), (1, (.slice p2_98 ([] : List Ins_).length c2_98)), (2, (nV b_.jump)), (3, (nV b_.on)), (4, (.slice p2_99 pb1_1.length c2_99))]) (cs := #[(.slice p2_97 ([] : List Phi_).length c2_97), (.slice p2_98 ([] : List Ins_).length c2_98), (nV b_.jump), (nV b_.on), (.slice p2_99 pb1_1.length c2_99)]) rfl rfl (by kernel_rfl))) (tO (tf rfl rfl (fun a hf => e_alloc hm zeroValue65 rfl rfl) ?_))
        rintro _ w ⟨b2_26, rfl, hm⟩
        exact tAk hm [4, 5] rfl fun hS => tE (gZ fun a hf => ⟨b2_26, (.slice p2_97 ([] : List Phi_).length c2_97), (.slice p2_98 ([] : List Ins_).length c2_98), (.slice p2_99 pb1_1.length c2_99), hf.sb rfl, hm.pk [5, 4, 0, 1, 2, 3] rfl rfl⟩)
       refine tO (tf rfl rfl (fun a hf => e_alloc hm zeroValue65 rfl rfl) ?_)
       rintro _ w ⟨b2_27, rfl, hm⟩
       refine tAk hm [3, 4] rfl fun hS => tO (tf rfl rfl (fun a hf => e_build0 (α := Phi_) et_62 hm rfl) ?_)
       rintro v2_71 w hm
       refine tAk hm [4, 5] rfl fun hS => ?_
       obtain ⟨p2_100, c2_100, rfl, hl2_100⟩ := ro_slice (hm.ow_rep 0 rfl)
       obtain ⟨p2_101, c2_101, rfl, hl2_101⟩ := ro_slice (hm.ow_rep 2 rfl)
       obtain ⟨p2_102, c2_102, rfl, hl2_102⟩ := ro_slice (hm.ow_rep 3 rfl)
       exact tP rfl (fun w => yG rfl (y_build (vs := [(0, (.slice p2_100 ([] : List Phi_).length c2_100)), (1, (.slice p2_101 ([] : List Ins_).length c2_101)), (2, (nV b_.jump)), (3, (nV b_.on)), (4, (.slice p2_102 pb1_1.length c2_102))]) (cs := #[(.slice p2_100 ([] : List Phi_).length c2_100), (.slice p2_101 ([] : List Ins_).length c2_101), (nV b_.jump), (nV b_.on), (.slice p2_102 pb1_1.length c2_102)]) rfl rfl (by kernel_rfl))) (tE (gZ fun a hf => ⟨b2_27, (.slice p2_100 ([] : List Phi_).length c2_100), (.slice p2_101 ([] : List Ins_).length c2_101), (.slice p2_102 pb1_1.length c2_102), hf.sb rfl, hm.pk [5, 4, 1, 0, 2, 3] rfl rfl⟩))
      refine tO (tf rfl rfl (fun a hf => e_alloc hm zeroValue65 rfl rfl) ?_)
      rintro _ w ⟨b2_28, rfl, hm⟩
      refine tAk hm [3, 4] rfl fun hS => tMo ?_ ?_
      ·
       refine tf rfl rfl (fun a hf => e_build0 (α := Phi_) et_62 hm rfl) ?_
       rintro v2_72 w hm
       refine tAk hm [4, 5] rfl fun hS => tO ?_
       obtain ⟨h2_31, h2_31e⟩ := appM_some.1 hpb1_1
       refine tf rfl rfl (fun a hf => e_append 3 et_29 hf hm rfl (hm.now h3) rfl rfl rfl h2_31) ?_
       rintro v2_73 w hm
       rw [h2_31e] at hm
       refine tAk hm [4, 5] rfl fun hS => ?_
       obtain ⟨p2_103, c2_103, rfl, hl2_103⟩ := ro_slice (hm.ow_rep 0 rfl)
       obtain ⟨p2_104, c2_104, rfl, hl2_104⟩ := ro_slice (hm.ow_rep 2 rfl)
       obtain ⟨p2_105, c2_105, rfl, hl2_105⟩ := ro_slice (hm.ow_rep 3 rfl)
       exact tP rfl (fun w => yG rfl (y_build (vs := [(0, (.slice p2_103 ([] : List Phi_).length c2_103)), (1, (.slice p2_104 ([] : List Ins_).length c2_104)), (2, (nV b_.jump)), (3, (nV b_.on)), (4, (.slice p2_105 pb1_1.length c2_105))]) (cs := #[(.slice p2_103 ([] : List Phi_).length c2_103), (.slice p2_104 ([] : List Ins_).length c2_104), (nV b_.jump), (nV b_.on), (.slice p2_105 pb1_1.length c2_105)]) rfl rfl (by kernel_rfl))) (tE (gZ fun a hf => ⟨b2_28, (.slice p2_103 ([] : List Phi_).length c2_103), (.slice p2_104 ([] : List Ins_).length c2_104), (.slice p2_105 pb1_1.length c2_105), hf.sb rfl, hm.pk [5, 4, 1, 0, 2, 3] rfl rfl⟩))
      refine tO ?_
      obtain ⟨h2_32, h2_32e⟩ := appM_some.1 hpb1_1
      refine tf rfl rfl (fun a hf => e_append 2 et_29 hf hm rfl (hm.now h3) rfl rfl rfl h2_32) ?_
      rintro v2_74 w hm
      rw [h2_32e] at hm
      refine tAk hm [3, 4] rfl fun hS => tO (tf rfl rfl (fun a hf => e_build0 (α := Phi_) et_62 hm rfl) ?_)
      rintro v2_75 w hm
      refine tAk hm [4, 5] rfl fun hS => ?_
      obtain ⟨p2_106, c2_106, rfl, hl2_106⟩ := ro_slice (hm.ow_rep 0 rfl)
      obtain ⟨p2_107, c2_107, rfl, hl2_107⟩ := ro_slice (hm.ow_rep 2 rfl)
      obtain ⟨p2_108, c2_108, rfl, hl2_108⟩ := ro_slice (hm.ow_rep 3 rfl)
      exact tP rfl (fun w => yG rfl (y_build (vs := [(0, (.slice p2_106 ([] : List Phi_).length c2_106)), (1, (.slice p2_107 ([] : List Ins_).length c2_107)), (2, (nV b_.jump)), (3, (nV b_.on)), (4, (.slice p2_108 pb1_1.length c2_108))]) (cs := #[(.slice p2_106 ([] : List Phi_).length c2_106), (.slice p2_107 ([] : List Ins_).length c2_107), (nV b_.jump), (nV b_.on), (.slice p2_108 pb1_1.length c2_108)]) rfl rfl (by kernel_rfl))) (tE (gZ fun a hf => ⟨b2_28, (.slice p2_106 ([] : List Phi_).length c2_106), (.slice p2_107 ([] : List Ins_).length c2_107), (.slice p2_108 pb1_1.length c2_108), hf.sb rfl, hm.pk [5, 4, 1, 0, 2, 3] rfl rfl⟩))
     refine tMo ?_ ?_
     ·
      obtain ⟨h2_33, h2_33e⟩ := appM_some.1 hpb1_1
      refine tf rfl rfl (fun a hf => e_append 0 et_29 hf hm rfl (hm.now h3) rfl rfl rfl h2_33) ?_
      rintro v2_76 w hm
      rw [h2_33e] at hm
      refine tAk hm [1, 2] rfl fun hS => tMo ?_ ?_
      ·
       refine tf rfl rfl (fun a hf => e_build0 (α := Phi_) et_62 hm rfl) ?_
       rintro v2_77 w hm
       refine tAk hm [2, 3] rfl fun hS => tMo ?_ ?_
       ·
        refine tf rfl rfl (fun a hf => e_build0 (α := Ins_) et_63 hm rfl) ?_
        rintro v2_78 w hm
        refine tAk hm [3, 4] rfl fun hS => ?_
        obtain ⟨p2_109, c2_109, rfl, hl2_109⟩ := ro_slice (hm.ow_rep 1 rfl)
        obtain ⟨p2_110, c2_110, rfl, hl2_110⟩ := ro_slice (hm.ow_rep 0 rfl)
        obtain ⟨p2_111, c2_111, rfl, hl2_111⟩ := ro_slice (hm.ow_rep 2 rfl)
        refine tP rfl (fun w => yG rfl (y_build (vs := [(0, (.slice p2_109 ([] : List Phi_).length c2_109)), (1, (.slice p2_110 ([] : List Ins_).length c2_110)), (2, (nV b_.jump)), (3, (nV b_.on)), (4, (.slice p2_111 pb1_1.length c2_111))]) (cs := #[(.slice p2_109 ([] : List Phi_).length c2_109), (.slice p2_110 ([] : List Ins_).length c2_110), (nV b_.jump), (nV b_.on), (.slice p2_111 pb1_1.length c2_111)]) rfl rfl (by kernel_rfl))) (tO (tf rfl rfl (fun a hf => e_alloc hm zeroValue65 rfl rfl) ?_))
        rintro _ w ⟨b2_29, rfl, hm⟩
        exact tAk hm [4, 5] rfl fun hS => tE (gZ fun a hf => ⟨b2_29, (.slice p2_109 ([] : List Phi_).length c2_109), (.slice p2_110 ([] : List Ins_).length c2_110), (.slice p2_111 pb1_1.length c2_111), hf.sb rfl, hm.pk [5, 4, 0, 2, 1, 3] rfl rfl⟩)
       refine tO (tf rfl rfl (fun a hf => e_alloc hm zeroValue65 rfl rfl) ?_)
       rintro _ w ⟨b2_30, rfl, hm⟩
       refine tAk hm [3, 4] rfl fun hS => tO (tf rfl rfl (fun a hf => e_build0 (α := Ins_) et_63 hm rfl) ?_)
       rintro v2_79 w hm
       refine tAk hm [4, 5] rfl fun hS => ?_
       obtain ⟨p2_112, c2_112, rfl, hl2_112⟩ := ro_slice (hm.ow_rep 2 rfl)
       obtain ⟨p2_113, c2_113, rfl, hl2_113⟩ := ro_slice (hm.ow_rep 0 rfl)
       obtain ⟨p2_114, c2_114, rfl, hl2_114⟩ := ro_slice (hm.ow_rep 3 rfl)
       exact tP rfl (fun w => yG rfl (y_build (vs := [(0, (.slice p2_112 ([] : List Phi_).length c2_112)), (1, (.slice p2_113 ([] : List Ins_).length c2_113)), (2, (nV b_.jump)), (3, (nV b_.on)), (4, (.slice p2_114 pb1_1.length c2_114))]) (cs := #[(.slice p2_112 ([] : List Phi_).length c2_112), (.slice p2_113 ([] : List Ins_).length c2_113), (nV b_.jump), (nV b_.on), (.slice p2_114 pb1_1.length c2_114)]) rfl rfl (by kernel_rfl))) (tE (gZ fun a hf => ⟨b2_30, (.slice p2_112 ([] : List Phi_).length c2_112), (.slice p2_113 ([] : List Ins_).length c2_113), (.slice p2_114 pb1_1.length c2_114), hf.sb rfl, hm.pk [5, 4, 1, 2, 0, 3] rfl rfl⟩))
      refine tMo ?_ ?_
      ·
       refine tf rfl rfl (fun a hf => e_build0 (α := Ins_) et_63 hm rfl) ?_
       rintro v2_80 w hm
       refine tAk hm [2, 3] rfl fun hS => tMo ?_ ?_
       ·
        refine tf rfl rfl (fun a hf => e_build0 (α := Phi_) et_62 hm rfl) ?_
        rintro v2_81 w hm
        refine tAk hm [3, 4] rfl fun hS => ?_
        obtain ⟨p2_115, c2_115, rfl, hl2_115⟩ := ro_slice (hm.ow_rep 0 rfl)
        obtain ⟨p2_116, c2_116, rfl, hl2_116⟩ := ro_slice (hm.ow_rep 1 rfl)
        obtain ⟨p2_117, c2_117, rfl, hl2_117⟩ := ro_slice (hm.ow_rep 2 rfl)
        refine tP rfl (fun w => yG rfl (y_build (vs := [(0, (.slice p2_115 ([] : List Phi_).length c2_115)), (1, (.slice p2_116 ([] : List Ins_).length c2_116)), (2, (nV b_.jump)), (3, (nV b_.on)), (4, (.slice p2_117 pb1_1.length c2_117))]) (cs := #[(.slice p2_115 ([] : List Phi_).length c2_115), (.slice p2_116 ([] : List Ins_).length c2_116), (nV b_.jump), (nV b_.on), (.slice p2_117 pb1_1.length c2_117)]) rfl rfl (by kernel_rfl))) (tO (tf rfl rfl (fun a hf => e_alloc hm zeroValue65 rfl rfl) ?_))
        rintro _ w ⟨b2_31, rfl, hm⟩
        exact tAk hm [4, 5] rfl fun hS => tE (gZ fun a hf => ⟨b2_31, (.slice p2_115 ([] : List Phi_).length c2_115), (.slice p2_116 ([] : List Ins_).length c2_116), (.slice p2_117 pb1_1.length c2_117), hf.sb rfl, hm.pk [5, 4, 0, 1, 2, 3] rfl rfl⟩)
       refine tO (tf rfl rfl (fun a hf => e_alloc hm zeroValue65 rfl rfl) ?_)
       rintro _ w ⟨b2_32, rfl, hm⟩
       refine tAk hm [3, 4] rfl fun hS => tO (tf rfl rfl (fun a hf => e_build0 (α := Phi_) et_62 hm rfl) ?_)
       rintro v2_82 w hm
       refine tAk hm [4, 5] rfl fun hS => ?_
       obtain ⟨p2_118, c2_118, rfl, hl2_118⟩ := ro_slice (hm.ow_rep 0 rfl)
       obtain ⟨p2_119, c2_119, rfl, hl2_119⟩ := ro_slice (hm.ow_rep 2 rfl)
       obtain ⟨p2_120, c2_120, rfl, hl2_120⟩ := ro_slice (hm.ow_rep 3 rfl)
       exact tP rfl (fun w => yG rfl (y_build (vs := [(0, (.slice p2_118 ([] : List Phi_).length c2_118)), (1, (.slice p2_119 ([] : List Ins_).length c2_119)), (2, (nV b_.jump)), (3, (nV b_.on)), (4, (.slice p2_120 pb1_1.length c2_120))]) (cs := #[(.slice p2_118 ([] : List Phi_).length c2_118), (.slice p2_119 ([] : List Ins_).length c2_119), (nV b_.jump), (nV b_.on), (.slice p2_120 pb1_1.length c2_120)]) rfl rfl (by kernel_rfl))) (tE (gZ fun a hf => ⟨b2_32, (.slice p2_118 ([] : List Phi_).length c2_118), (.slice p2_119 ([] : List Ins_).length c2_119), (.slice p2_120 pb1_1.length c2_120), hf.sb rfl, hm.pk [5, 4, 1, 0, 2, 3] rfl rfl⟩))
      refine tO (tf rfl rfl (fun a hf => e_alloc hm zeroValue65 rfl rfl) ?_)
      rintro _ w ⟨b2_33, rfl, hm⟩
      refine tAk hm [2, 3] rfl fun hS => tMo ?_ ?_
      ·
       refine tf rfl rfl (fun a hf => e_build0 (α := Phi_) et_62 hm rfl) ?_
       rintro v2_83 w hm
       refine tAk hm [3, 4] rfl fun hS => tO (tf rfl rfl (fun a hf => e_build0 (α := Ins_) et_63 hm rfl) ?_)
       rintro v2_84 w hm
       refine tAk hm [4, 5] rfl fun hS => ?_
       obtain ⟨p2_121, c2_121, rfl, hl2_121⟩ := ro_slice (hm.ow_rep 1 rfl)
       obtain ⟨p2_122, c2_122, rfl, hl2_122⟩ := ro_slice (hm.ow_rep 0 rfl)
       obtain ⟨p2_123, c2_123, rfl, hl2_123⟩ := ro_slice (hm.ow_rep 3 rfl)
       exact tP rfl (fun w => yG rfl (y_build (vs := [(0, (.slice p2_121 ([] : List Phi_).length c2_121)), (1, (.slice p2_122 ([] : List Ins_).length c2_122)), (2, (nV b_.jump)), (3, (nV b_.on)), (4, (.slice p2_123 pb1_1.length c2_123))]) (cs := #[(.slice p2_121 ([] : List Phi_).length c2_121), (.slice p2_122 ([] : List Ins_).length c2_122), (nV b_.jump), (nV b_.on), (.slice p2_123 pb1_1.length c2_123)]) rfl rfl (by kernel_rfl))) (tE (gZ fun a hf => ⟨b2_33, (.slice p2_121 ([] : List Phi_).length c2_121), (.slice p2_122 ([] : List Ins_).length c2_122), (.slice p2_123 pb1_1.length c2_123), hf.sb rfl, hm.pk [5, 4, 2, 1, 0, 3] rfl rfl⟩))
      refine tO (tf rfl rfl (fun a hf => e_build0 (α := Ins_) et_63 hm rfl) ?_)
      rintro v2_85 w hm
      refine tAk hm [3, 4] rfl fun hS => tO (tf rfl rfl (fun a hf => e_build0 (α := Phi_) et_62 hm rfl) ?_)
      rintro v2_86 w hm
      refine tAk hm [4, 5] rfl fun hS => ?_
      obtain ⟨p2_124, c2_124, rfl, hl2_124⟩ := ro_slice (hm.ow_rep 0 rfl)
      obtain ⟨p2_125, c2_125, rfl, hl2_125⟩ := ro_slice (hm.ow_rep 1 rfl)
      obtain ⟨p2_126, c2_126, rfl, hl2_126⟩ := ro_slice (hm.ow_rep 3 rfl)
      exact tP rfl (fun w => yG rfl (y_build (vs := [(0, (.slice p2_124 ([] : List Phi_).length c2_124)), (1, (.slice p2_125 ([] : List Ins_).length c2_125)), (2, (nV b_.jump)), (3, (nV b_.on)), (4, (.slice p2_126 pb1_1.length c2_126))]) (cs := #[(.slice p2_124 ([] : List Phi_).length c2_124), (.slice p2_125 ([] : List Ins_).length c2_125), (nV b_.jump), (nV b_.on), (.slice p2_126 pb1_1.length c2_126)]) rfl rfl (by kernel_rfl))) (tE (gZ fun a hf => ⟨b2_33, (.slice p2_124 ([] : List Phi_).length c2_124), (.slice p2_125 ([] : List Ins_).length c2_125), (.slice p2_126 pb1_1.length c2_126), hf.sb rfl, hm.pk [5, 4, 2, 0, 1, 3] rfl rfl⟩))
     refine tO (tf rfl rfl (fun a hf => e_alloc hm zeroValue65 rfl rfl) ?_)
     rintro _ w ⟨b2_34, rfl, hm⟩
     refine tAk hm [2, 3] rfl fun hS => tMo ?_ ?_
     ·
      refine tf rfl rfl (fun a hf => e_build0 (α := Phi_) et_62 hm rfl) ?_
      rintro v2_87 w hm
      refine tAk hm [3, 4] rfl fun hS => tMo ?_ ?_
      ·
       refine tf rfl rfl (fun a hf => e_build0 (α := Ins_) et_63 hm rfl) ?_
       rintro v2_88 w hm
       refine tAk hm [4, 5] rfl fun hS => tO ?_
       obtain ⟨h2_34, h2_34e⟩ := appM_some.1 hpb1_1
       refine tf rfl rfl (fun a hf => e_append 3 et_29 hf hm rfl (hm.now h3) rfl rfl rfl h2_34) ?_
       rintro v2_89 w hm
       rw [h2_34e] at hm
       refine tAk hm [4, 5] rfl fun hS => ?_
       obtain ⟨p2_127, c2_127, rfl, hl2_127⟩ := ro_slice (hm.ow_rep 1 rfl)
       obtain ⟨p2_128, c2_128, rfl, hl2_128⟩ := ro_slice (hm.ow_rep 0 rfl)
       obtain ⟨p2_129, c2_129, rfl, hl2_129⟩ := ro_slice (hm.ow_rep 3 rfl)
       exact tP rfl (fun w => yG rfl (y_build (vs := [(0, (.slice p2_127 ([] : List Phi_).length c2_127)), (1, (.slice p2_128 ([] : List Ins_).length c2_128)), (2, (nV b_.jump)), (3, (nV b_.on)), (4, (.slice p2_129 pb1_1.length c2_129))]) (cs := #[(.slice p2_127 ([] : List Phi_).length c2_127), (.slice p2_128 ([] : List Ins_).length c2_128), (nV b_.jump), (nV b_.on), (.slice p2_129 pb1_1.length c2_129)]) rfl rfl (by kernel_rfl))) (tE (gZ fun a hf => ⟨b2_34, (.slice p2_127 ([] : List Phi_).length c2_127), (.slice p2_128 ([] : List Ins_).length c2_128), (.slice p2_129 pb1_1.length c2_129), hf.sb rfl, hm.pk [5, 4, 2, 1, 0, 3] rfl rfl⟩))
      refine tO ?_
      obtain ⟨h2_35, h2_35e⟩ := appM_some.1 hpb1_1
      refine tf rfl rfl (fun a hf => e_append 2 et_29 hf hm rfl (hm.now h3) rfl rfl rfl h2_35) ?_
      rintro v2_90 w hm
      rw [h2_35e] at hm
      refine tAk hm [3, 4] rfl fun hS => tO (tf rfl rfl (fun a hf => e_build0 (α := Ins_) et_63 hm rfl) ?_)
      rintro v2_91 w hm
      refine tAk hm [4, 5] rfl fun hS => ?_
      obtain ⟨p2_130, c2_130, rfl, hl2_130⟩ := ro_slice (hm.ow_rep 1 rfl)
      obtain ⟨p2_131, c2_131, rfl, hl2_131⟩ := ro_slice (hm.ow_rep 0 rfl)
      obtain ⟨p2_132, c2_132, rfl, hl2_132⟩ := ro_slice (hm.ow_rep 3 rfl)
      exact tP rfl (fun w => yG rfl (y_build (vs := [(0, (.slice p2_130 ([] : List Phi_).length c2_130)), (1, (.slice p2_131 ([] : List Ins_).length c2_131)), (2, (nV b_.jump)), (3, (nV b_.on)), (4, (.slice p2_132 pb1_1.length c2_132))]) (cs := #[(.slice p2_130 ([] : List Phi_).length c2_130), (.slice p2_131 ([] : List Ins_).length c2_131), (nV b_.jump), (nV b_.on), (.slice p2_132 pb1_1.length c2_132)]) rfl rfl (by kernel_rfl))) (tE (gZ fun a hf => ⟨b2_34, (.slice p2_130 ([] : List Phi_).length c2_130), (.slice p2_131 ([] : List Ins_).length c2_131), (.slice p2_132 pb1_1.length c2_132), hf.sb rfl, hm.pk [5, 4, 2, 1, 0, 3] rfl rfl⟩))
     refine tMo ?_ ?_
     ·
      refine tf rfl rfl (fun a hf => e_build0 (α := Ins_) et_63 hm rfl) ?_
      rintro v2_92 w hm
      refine tAk hm [3, 4] rfl fun hS => tMo ?_ ?_
      ·
       refine tf rfl rfl (fun a hf => e_build0 (α := Phi_) et_62 hm rfl) ?_
       rintro v2_93 w hm
       refine tAk hm [4, 5] rfl fun hS => tO ?_
       obtain ⟨h2_36, h2_36e⟩ := appM_some.1 hpb1_1
       refine tf rfl rfl (fun a hf => e_append 3 et_29 hf hm rfl (hm.now h3) rfl rfl rfl h2_36) ?_
       rintro v2_94 w hm
       rw [h2_36e] at hm
       refine tAk hm [4, 5] rfl fun hS => ?_
       obtain ⟨p2_133, c2_133, rfl, hl2_133⟩ := ro_slice (hm.ow_rep 0 rfl)
       obtain ⟨p2_134, c2_134, rfl, hl2_134⟩ := ro_slice (hm.ow_rep 1 rfl)
       obtain ⟨p2_135, c2_135, rfl, hl2_135⟩ := ro_slice (hm.ow_rep 3 rfl)
       exact tP rfl (fun w => yG rfl (y_build (vs := [(0, (.slice p2_133 ([] : List Phi_).length c2_133)), (1, (.slice p2_134 ([] : List Ins_).length c2_134)), (2, (nV b_.jump)), (3, (nV b_.on)), (4, (.slice p2_135 pb1_1.length c2_135))]) (cs := #[(.slice p2_133 ([] : List Phi_).length c2_133), (.slice p2_134 ([] : List Ins_).length c2_134), (nV b_.jump), (nV b_.on), (.slice p2_135 pb1_1.length c2_135)]) rfl rfl (by kernel_rfl))) (tE (gZ fun a hf => ⟨b2_34, (.slice p2_133 ([] : List Phi_).length c2_133), (.slice p2_134 ([] : List Ins_).length c2_134), (.slice p2_135 pb1_1.length c2_135), hf.sb rfl, hm.pk [5, 4, 2, 0, 1, 3] rfl rfl⟩))
      refine tO ?_
      obtain ⟨h2_37, h2_37e⟩ := appM_some.1 hpb1_1
      refine tf rfl rfl (fun a hf => e_append 2 et_29 hf hm rfl (hm.now h3) rfl rfl rfl h2_37) ?_
      rintro v2_95 w hm
      rw [h2_37e] at hm
      refine tAk hm [3, 4] rfl fun hS => tO (tf rfl rfl (fun a hf => e_build0 (α := Phi_) et_62 hm rfl) ?_)
      rintro v2_96 w hm
      refine tAk hm [4, 5] rfl fun hS => ?_
      obtain ⟨p2_136, c2_136, rfl, hl2_136⟩ := ro_slice (hm.ow_rep 0 rfl)
      obtain ⟨p2_137, c2_137, rfl, hl2_137⟩ := ro_slice (hm.ow_rep 1 rfl)
      obtain ⟨p2_138, c2_138, rfl, hl2_138⟩ := ro_slice (hm.ow_rep 3 rfl)
      exact tP rfl (fun w => yG rfl (y_build (vs := [(0, (.slice p2_136 ([] : List Phi_).length c2_136)), (1, (.slice p2_137 ([] : List Ins_).length c2_137)), (2, (nV b_.jump)), (3, (nV b_.on)), (4, (.slice p2_138 pb1_1.length c2_138))]) (cs := #[(.slice p2_136 ([] : List Phi_).length c2_136), (.slice p2_137 ([] : List Ins_).length c2_137), (nV b_.jump), (nV b_.on), (.slice p2_138 pb1_1.length c2_138)]) rfl rfl (by kernel_rfl))) (tE (gZ fun a hf => ⟨b2_34, (.slice p2_136 ([] : List Phi_).length c2_136), (.slice p2_137 ([] : List Ins_).length c2_137), (.slice p2_138 pb1_1.length c2_138), hf.sb rfl, hm.pk [5, 4, 2, 0, 1, 3] rfl rfl⟩))
     refine tO ?_
     obtain ⟨h2_38, h2_38e⟩ := appM_some.1 hpb1_1
     refine tf rfl rfl (fun a hf => e_append 1 et_29 hf hm rfl (hm.now h3) rfl rfl rfl h2_38) ?_
     rintro v2_97 w hm
     rw [h2_38e] at hm
     refine tAk hm [2, 3] rfl fun hS => tMo ?_ ?_
     ·
      refine tf rfl rfl (fun a hf => e_build0 (α := Phi_) et_62 hm rfl) ?_
      rintro v2_98 w hm
      refine tAk hm [3, 4] rfl fun hS => tO (tf rfl rfl (fun a hf => e_build0 (α := Ins_) et_63 hm rfl) ?_)
      rintro v2_99 w hm
      refine tAk hm [4, 5] rfl fun hS => ?_
      obtain ⟨p2_139, c2_139, rfl, hl2_139⟩ := ro_slice (hm.ow_rep 1 rfl)
      obtain ⟨p2_140, c2_140, rfl, hl2_140⟩ := ro_slice (hm.ow_rep 0 rfl)
      obtain ⟨p2_141, c2_141, rfl, hl2_141⟩ := ro_slice (hm.ow_rep 3 rfl)
      exact tP rfl (fun w => yG rfl (y_build (vs := [(0, (.slice p2_139 ([] : List Phi_).length c2_139)), (1, (.slice p2_140 ([] : List Ins_).length c2_140)), (2, (nV b_.jump)), (3, (nV b_.on)), (4, (.slice p2_141 pb1_1.length c2_141))]) (cs := #[(.slice p2_139 ([] : List Phi_).length c2_139), (.slice p2_140 ([] : List Ins_).length c2_140), (nV b_.jump), (nV b_.on), (.slice p2_141 pb1_1.length c2_141)]) rfl rfl (by kernel_rfl))) (tE (gZ fun a hf => ⟨b2_34, (.slice p2_139 ([] : List Phi_).length c2_139), (.slice p2_140 ([] : List Ins_).length c2_140), (.slice p2_141 pb1_1.length c2_141), hf.sb rfl, hm.pk [5, 4, 2, 1, 0, 3] rfl rfl⟩))
     refine tO (tf rfl rfl (fun a hf => e_build0 (α := Ins_) et_63 hm rfl) ?_)
     rintro v2_100 w hm
     refine tAk hm [3, 4] rfl fun hS => tO (tf rfl rfl (fun a hf => e_build0 (α := Phi_) et_62 hm rfl) ?_)
     rintro v2_101 w hm
     refine tAk hm [4, 5] rfl fun hS => ?_
     obtain ⟨p2_142, c2_142, rfl, hl2_142⟩ := ro_slice (hm.ow_rep 0 rfl)
     obtain ⟨p2_143, c2_143, rfl, hl2_143⟩ := ro_slice (hm.ow_rep 1 rfl)
     obtain ⟨p2_144, c2_144, rfl, hl2_144⟩ := ro_slice (hm.ow_rep 3 rfl)
     exact tP rfl (fun w => yG rfl (y_build (vs := [(0, (.slice p2_142 ([] : List Phi_).length c2_142)), (1, (.slice p2_143 ([] : List Ins_).length c2_143)), (2, (nV b_.jump)), (3, (nV b_.on)), (4, (.slice p2_144 pb1_1.length c2_144))]) (cs := #[(.slice p2_142 ([] : List Phi_).length c2_142), (.slice p2_143 ([] : List Ins_).length c2_143), (nV b_.jump), (nV b_.on), (.slice p2_144 pb1_1.length c2_144)]) rfl rfl (by kernel_rfl))) (tE (gZ fun a hf => ⟨b2_34, (.slice p2_142 ([] : List Phi_).length c2_142), (.slice p2_143 ([] : List Ins_).length c2_143), (.slice p2_144 pb1_1.length c2_144), hf.sb rfl, hm.pk [5, 4, 2, 0, 1, 3] rfl rfl⟩))
    refine tO (tf rfl rfl (fun a hf => e_alloc hm zeroValue65 rfl rfl) ?_)
    rintro _ w ⟨b2_35, rfl, hm⟩
    refine tAk hm [1, 2] rfl fun hS => tMo ?_ ?_
    ·
     refine tf rfl rfl (fun a hf => e_build0 (α := Phi_) et_62 hm rfl) ?_
     rintro v2_102 w hm
     refine tAk hm [2, 3] rfl fun hS => tMo ?_ ?_
     ·
      refine tf rfl rfl (fun a hf => e_build0 (α := Ins_) et_63 hm rfl) ?_
      rintro v2_103 w hm
      refine tAk hm [3, 4] rfl fun hS => tO (tf rfl rfl (fun a hf => e_build0 (α := Int) et_29 hm rfl) ?_)
      rintro v2_104 w hm
      refine tAk hm [4, 5] rfl fun hS => tO ?_
      obtain ⟨h2_39, h2_39e⟩ := appM_some.1 hpb1_1
      refine tf rfl rfl (fun a hf => e_append 0 et_29 hf hm rfl (hm.now h3) rfl rfl rfl h2_39) ?_
      rintro v2_105 w hm
      rw [h2_39e] at hm
      refine tAk hm [4, 5] rfl fun hS => ?_
      obtain ⟨p2_145, c2_145, rfl, hl2_145⟩ := ro_slice (hm.ow_rep 2 rfl)
      obtain ⟨p2_146, c2_146, rfl, hl2_146⟩ := ro_slice (hm.ow_rep 1 rfl)
      obtain ⟨p2_147, c2_147, rfl, hl2_147⟩ := ro_slice (hm.ow_rep 0 rfl)
      exact tP rfl (fun w => yG rfl (y_build (vs := [(0, (.slice p2_145 ([] : List Phi_).length c2_145)), (1, (.slice p2_146 ([] : List Ins_).length c2_146)), (2, (nV b_.jump)), (3, (nV b_.on)), (4, (.slice p2_147 pb1_1.length c2_147))]) (cs := #[(.slice p2_145 ([] : List Phi_).length c2_145), (.slice p2_146 ([] : List Ins_).length c2_146), (nV b_.jump), (nV b_.on), (.slice p2_147 pb1_1.length c2_147)]) rfl rfl (by kernel_rfl))) (tE (gZ fun a hf => ⟨b2_35, (.slice p2_145 ([] : List Phi_).length c2_145), (.slice p2_146 ([] : List Ins_).length c2_146), (.slice p2_147 pb1_1.length c2_147), hf.sb rfl, hm.pk [5, 4, 3, 2, 1, 0] rfl rfl⟩))
     refine tO (tf rfl rfl (fun a hf => e_build0 (α := Int) et_29 hm rfl) ?_)
     rintro v2_106 w hm
     refine tAk hm [3, 4] rfl fun hS => tMo ?_ ?_
     ·
      refine tf rfl rfl (fun a hf => e_build0 (α := Ins_) et_63 hm rfl) ?_
      rintro v2_107 w hm
      refine tAk hm [4, 5] rfl fun hS => tO ?_
      obtain ⟨h2_40, h2_40e⟩ := appM_some.1 hpb1_1
      refine tf rfl rfl (fun a hf => e_append 1 et_29 hf hm rfl (hm.now h3) rfl rfl rfl h2_40) ?_
      rintro v2_108 w hm
      rw [h2_40e] at hm
      refine tAk hm [4, 5] rfl fun hS => ?_
      obtain ⟨p2_148, c2_148, rfl, hl2_148⟩ := ro_slice (hm.ow_rep 2 rfl)
      obtain ⟨p2_149, c2_149, rfl, hl2_149⟩ := ro_slice (hm.ow_rep 0 rfl)
      obtain ⟨p2_150, c2_150, rfl, hl2_150⟩ := ro_slice (hm.ow_rep 1 rfl)
      exact tP rfl (fun w => yG rfl (y_build (vs := [(0, (.slice p2_148 ([] : List Phi_).length c2_148)), (1, (.slice p2_149 ([] : List Ins_).length c2_149)), (2, (nV b_.jump)), (3, (nV b_.on)), (4, (.slice p2_150 pb1_1.length c2_150))]) (cs := #[(.slice p2_148 ([] : List Phi_).length c2_148), (.slice p2_149 ([] : List Ins_).length c2_149), (nV b_.jump), (nV b_.on), (.slice p2_150 pb1_1.length c2_150)]) rfl rfl (by kernel_rfl))) (tE (gZ fun a hf => ⟨b2_35, (.slice p2_148 ([] : List Phi_).length c2_148), (.slice p2_149 ([] : List Ins_).length c2_149), (.slice p2_150 pb1_1.length c2_150), hf.sb rfl, hm.pk [5, 4, 3, 2, 0, 1] rfl rfl⟩))
     refine tO ?_
     obtain ⟨h2_41, h2_41e⟩ := appM_some.1 hpb1_1
     refine tf rfl rfl (fun a hf => e_append 0 et_29 hf hm rfl (hm.now h3) rfl rfl rfl h2_41) ?_
     rintro v2_109 w hm
     rw [h2_41e] at hm
     refine tAk hm [3, 4] rfl fun hS => tO (tf rfl rfl (fun a hf => e_build0 (α := Ins_) et_63 hm rfl) ?_)
     rintro v2_110 w hm
     refine tAk hm [4, 5] rfl fun hS => ?_
     obtain ⟨p2_151, c2_151, rfl, hl2_151⟩ := ro_slice (hm.ow_rep 2 rfl)
     obtain ⟨p2_152, c2_152, rfl, hl2_152⟩ := ro_slice (hm.ow_rep 0 rfl)
     obtain ⟨p2_153, c2_153, rfl, hl2_153⟩ := ro_slice (hm.ow_rep 1 rfl)
     exact tP rfl (fun w => yG rfl (y_build (vs := [(0, (.slice p2_151 ([] : List Phi_).length c2_151)), (1, (.slice p2_152 ([] : List Ins_).length c2_152)), (2, (nV b_.jump)), (3, (nV b_.on)), (4, (.slice p2_153 pb1_1.length c2_153))]) (cs := #[(.slice p2_151 ([] : List Phi_).length c2_151), (.slice p2_152 ([] : List Ins_).length c2_152), (nV b_.jump), (nV b_.on), (.slice p2_153 pb1_1.length c2_153)]) rfl rfl (by kernel_rfl))) (tE (gZ fun a hf => ⟨b2_35, (.slice p2_151 ([] : List Phi_).length c2_151), (.slice p2_152 ([] : List Ins_).length c2_152), (.slice p2_153 pb1_1.length c2_153), hf.sb rfl, hm.pk [5, 4, 3, 2, 0, 1] rfl rfl⟩))
    refine tMo ?_ ?_
    ·
     refine tf rfl rfl (fun a hf => e_build0 (α := Ins_) et_63 hm rfl) ?_
     rintro v2_111 w hm
     refine tAk hm [2, 3] rfl fun hS => tMo ?_ ?_
     ·
      refine tf rfl rfl (fun a hf => e_build0 (α := Phi_) et_62 hm rfl) ?_
      rintro v2_112 w hm
      refine tAk hm [3, 4] rfl fun hS => tO (tf rfl rfl (fun a hf => e_build0 (α := Int) et_29 hm rfl) ?_)
      rintro v2_113 w hm
      refine tAk hm [4, 5] rfl fun hS => tO ?_
      obtain ⟨h2_42, h2_42e⟩ := appM_some.1 hpb1_1
      refine tf rfl rfl (fun a hf => e_append 0 et_29 hf hm rfl (hm.now h3) rfl rfl rfl h2_42) ?_
      rintro v2_114 w hm
      rw [h2_42e] at hm
      refine tAk hm [4, 5] rfl fun hS => ?_
      obtain ⟨p2_154, c2_154, rfl, hl2_154⟩ := ro_slice (hm.ow_rep 1 rfl)
      obtain ⟨p2_155, c2_155, rfl, hl2_155⟩ := ro_slice (hm.ow_rep 2 rfl)
      obtain ⟨p2_156, c2_156, rfl, hl2_156⟩ := ro_slice (hm.ow_rep 0 rfl)
      exact tP rfl (fun w => yG rfl (y_build (vs := [(0, (.slice p2_154 ([] : List Phi_).length c2_154)), (1, (.slice p2_155 ([] : List Ins_).length c2_155)), (2, (nV b_.jump)), (3, (nV b_.on)), (4, (.slice p2_156 pb1_1.length c2_156))]) (cs := #[(.slice p2_154 ([] : List Phi_).length c2_154), (.slice p2_155 ([] : List Ins_).length c2_155), (nV b_.jump), (nV b_.on), (.slice p2_156 pb1_1.length c2_156)]) rfl rfl (by kernel_rfl))) (tE (gZ fun a hf => ⟨b2_35, (.slice p2_154 ([] : List Phi_).length c2_154), (.slice p2_155 ([] : List Ins_).length c2_155), (.slice p2_156 pb1_1.length c2_156), hf.sb rfl, hm.pk [5, 4, 3, 1, 2, 0] rfl rfl⟩))
     refine tO (tf rfl rfl (fun a hf => e_build0 (α := Int) et_29 hm rfl) ?_)
     rintro v2_115 w hm
     refine tAk hm [3, 4] rfl fun hS => tMo ?_ ?_
     ·
      refine tf rfl rfl (fun a hf => e_build0 (α := Phi_) et_62 hm rfl) ?_
      rintro v2_116 w hm
      refine tAk hm [4, 5] rfl fun hS => tO ?_
      obtain ⟨h2_43, h2_43e⟩ := appM_some.1 hpb1_1
      refine tf rfl rfl (fun a hf => e_append 1 et_29 hf hm rfl (hm.now h3) rfl rfl rfl h2_43) ?_
      rintro v2_117 w hm
      rw [h2_43e] at hm
      refine tAk hm [4, 5] rfl fun hS => ?_
      obtain ⟨p2_157, c2_157, rfl, hl2_157⟩ := ro_slice (hm.ow_rep 0 rfl)
      obtain ⟨p2_158, c2_158, rfl, hl2_158⟩ := ro_slice (hm.ow_rep 2 rfl)
      obtain ⟨p2_159, c2_159, rfl, hl2_159⟩ := ro_slice (hm.ow_rep 1 rfl)
      exact tP rfl (fun w => yG rfl (y_build (vs := [(0, (.slice p2_157 ([] : List Phi_).length c2_157)), (1, (.slice p2_158 ([] : List Ins_).length c2_158)), (2, (nV b_.jump)), (3, (nV b_.on)), (4, (.slice p2_159 pb1_1.length c2_159))]) (cs := #[(.slice p2_157 ([] : List Phi_).length c2_157), (.slice p2_158 ([] : List Ins_).length c2_158), (nV b_.jump), (nV b_.on), (.slice p2_159 pb1_1.length c2_159)]) rfl rfl (by kernel_rfl))) (tE (gZ fun a hf => ⟨b2_35, (.slice p2_157 ([] : List Phi_).length c2_157), (.slice p2_158 ([] : List Ins_).length c2_158), (.slice p2_159 pb1_1.length c2_159), hf.sb rfl, hm.pk [5, 4, 3, 0, 2, 1] rfl rfl⟩))
     refine tO ?_
     obtain ⟨h2_44, h2_44e⟩ := appM_some.1 hpb1_1
     refine tf rfl rfl (fun a hf => e_append 0 et_29 hf hm rfl (hm.now h3) rfl rfl rfl h2_44) ?_
     rintro v2_118 w hm
     rw [h2_44e] at hm
     refine tAk hm [3, 4] rfl fun hS => tO (tf rfl rfl (fun a hf => e_build0 (α := Phi_) et_62 hm rfl) ?_)
     rintro v2_119 w hm
     refine tAk hm [4, 5] rfl fun hS => ?_
     obtain ⟨p2_160, c2_160, rfl, hl2_160⟩ := ro_slice (hm.ow_rep 0 rfl)
     obtain ⟨p2_161, c2_161, rfl, hl2_161⟩ := ro_slice (hm.ow_rep 2 rfl)
     obtain ⟨p2_162, c2_162, rfl, hl2_162⟩ := ro_slice (hm.ow_rep 1 rfl)
     exact tP rfl (fun w => yG rfl (y_build (vs := [(0, (.slice p2_160 ([] : List Phi_).length c2_160)), (1, (.slice p2_161 ([] : List Ins_).length c2_161)), (2, (nV b_.jump)), (3, (nV b_.on)), (4, (.slice p2_162 pb1_1.length c2_162))]) (cs := #[(.slice p2_160 ([] : List Phi_).length c2_160), (.slice p2_161 ([] : List Ins_).length c2_161), (nV b_.jump), (nV b_.on), (.slice p2_162 pb1_1.length c2_162)]) rfl rfl (by kernel_rfl))) (tE (gZ fun a hf => ⟨b2_35, (.slice p2_160 ([] : List Phi_).length c2_160), (.slice p2_161 ([] : List Ins_).length c2_161), (.slice p2_162 pb1_1.length c2_162), hf.sb rfl, hm.pk [5, 4, 3, 0, 2, 1] rfl rfl⟩))
    refine tO (tf rfl rfl (fun a hf => e_build0 (α := Int) et_29 hm rfl) ?_)
    rintro v2_120 w hm
    refine tAk hm [2, 3] rfl fun hS => tMo ?_ ?_
    ·
     refine tf rfl rfl (fun a hf => e_build0 (α := Phi_) et_62 hm rfl) ?_
     rintro v2_121 w hm
     refine tAk hm [3, 4] rfl fun hS => tMo ?_ ?_
     ·
      refine tf rfl rfl (fun a hf => e_build0 (α := Ins_) et_63 hm rfl) ?_
      rintro v2_122 w hm
      refine tAk hm [4, 5] rfl fun hS => tO ?_
      obtain ⟨h2_45, h2_45e⟩ := appM_some.1 hpb1_1
      refine tf rfl rfl (fun a hf => e_append 2 et_29 hf hm rfl (hm.now h3) rfl rfl rfl h2_45) ?_
      rintro v2_123 w hm
      rw [h2_45e] at hm
      refine tAk hm [4, 5] rfl fun hS => ?_
      obtain ⟨p2_163, c2_163, rfl, hl2_163⟩ := ro_slice (hm.ow_rep 1 rfl)
      obtain ⟨p2_164, c2_164, rfl, hl2_164⟩ := ro_slice (hm.ow_rep 0 rfl)
      obtain ⟨p2_165, c2_165, rfl, hl2_165⟩ := ro_slice (hm.ow_rep 2 rfl)
      exact tP rfl (fun w => yG rfl (y_build (vs := [(0, (.slice p2_163 ([] : List Phi_).length c2_163)), (1, (.slice p2_164 ([] : List Ins_).length c2_164)), (2, (nV b_.jump)), (3, (nV b_.on)), (4, (.slice p2_165 pb1_1.length c2_165))]) (cs := #[(.slice p2_163 ([] : List Phi_).length c2_163), (.slice p2_164 ([] : List Ins_).length c2_164), (nV b_.jump), (nV b_.on), (.slice p2_165 pb1_1.length c2_165)]) rfl rfl (by kernel_rfl))) (tE (gZ fun a hf => ⟨b2_35, (.slice p2_163 ([] : List Phi_).length c2_163), (.slice p2_164 ([] : List Ins_).length c2_164), (.slice p2_165 pb1_1.length c2_165), hf.sb rfl, hm.pk [5, 4, 3, 1, 0, 2] rfl rfl⟩))
     refine tO ?_
     obtain ⟨h2_46, h2_46e⟩ := appM_some.1 hpb1_1
     refine tf rfl rfl (fun a hf => e_append 1 et_29 hf hm rfl (hm.now h3) rfl rfl rfl h2_46) ?_
     rintro v2_124 w hm
     rw [h2_46e] at hm
     refine tAk hm [3, 4] rfl fun hS => tO (tf rfl rfl (fun a hf => e_build0 (α := Ins_) et_63 hm rfl) ?_)
     rintro v2_125 w hm
     refine tAk hm [4, 5] rfl fun hS => ?_
     obtain ⟨p2_166, c2_166, rfl, hl2_166⟩ := ro_slice (hm.ow_rep 1 rfl)
     obtain ⟨p2_167, c2_167, rfl, hl2_167⟩ := ro_slice (hm.ow_rep 0 rfl)
     obtain ⟨p2_168, c2_168, rfl, hl2_168⟩ := ro_slice (hm.ow_rep 2 rfl)
     exact tP rfl (fun w => yG rfl (y_build (vs := [(0, (.slice p2_166 ([] : List Phi_).length c2_166)), (1, (.slice p2_167 ([] : List Ins_).length c2_167)), (2, (nV b_.jump)), (3, (nV b_.on)), (4, (.slice p2_168 pb1_1.length c2_168))]) (cs := #[(.slice p2_166 ([] : List Phi_).length c2_166), (.slice p2_167 ([] : List Ins_).length c2_167), (nV b_.jump), (nV b_.on), (.slice p2_168 pb1_1.length c2_168)]) rfl rfl (by kernel_rfl))) (tE (gZ fun a hf => ⟨b2_35, (.slice p2_166 ([] : List Phi_).length c2_166), (.slice p2_167 ([] : List Ins_).length c2_167), (.slice p2_168 pb1_1.length c2_168), hf.sb rfl, hm.pk [5, 4, 3, 1, 0, 2] rfl rfl⟩))
    refine tMo ?_ ?_
    ·
     refine tf rfl rfl (fun a hf => e_build0 (α := Ins_) et_63 hm rfl) ?_
     rintro v2_126 w hm
     refine tAk hm [3, 4] rfl fun hS => tMo ?_ ?_
     ·
      refine tf rfl rfl (fun a hf => e_build0 (α := Phi_) et_62 hm rfl) ?_
      rintro v2_127 w hm
      refine tAk hm [4, 5] rfl fun hS => tO ?_
      obtain ⟨h2_47, h2_47e⟩ := appM_some.1 hpb1_1
      refine tf rfl rfl (fun a hf => e_append 2 et_29 hf hm rfl (hm.now h3) rfl rfl rfl h2_47) ?_
      rintro v2_128 w hm
      rw [h2_47e] at hm
      refine tAk hm [4, 5] rfl fun hS => ?_
      obtain ⟨p2_169, c2_169, rfl, hl2_169⟩ := ro_slice (hm.ow_rep 0 rfl)
      obtain ⟨p2_170, c2_170, rfl, hl2_170⟩ := ro_slice (hm.ow_rep 1 rfl)
      obtain ⟨p2_171, c2_171, rfl, hl2_171⟩ := ro_slice (hm.ow_rep 2 rfl)
      exact tP rfl (fun w => yG rfl (y_build (vs := [(0, (.slice p2_169 ([] : List Phi_).length c2_169)), (1, (.slice p2_170 ([] : List Ins_).length c2_170)), (2, (nV b_.jump)), (3, (nV b_.on)), (4, (.slice p2_171 pb1_1.length c2_171))]) (cs := #[(.slice p2_169 ([] : List Phi_).length c2_169), (.slice p2_170 ([] : List Ins_).length c2_170), (nV b_.jump), (nV b_.on), (.slice p2_171 pb1_1.length c2_171)]) rfl rfl (by kernel_rfl))) (tE (gZ fun a hf => ⟨b2_35, (.slice p2_169 ([] : List Phi_).length c2_169), (.slice p2_170 ([] : List Ins_).length c2_170), (.slice p2_171 pb1_1.length c2_171), hf.sb rfl, hm.pk [5, 4, 3, 0, 1, 2] rfl rfl⟩))
     refine tO ?_
     obtain ⟨h2_48, h2_48e⟩ := appM_some.1 hpb1_1
     refine tf rfl rfl (fun a hf => e_append 1 et_29 hf hm rfl (hm.now h3) rfl rfl rfl h2_48) ?_
     rintro v2_129 w hm
     rw [h2_48e] at hm
     refine tAk hm [3, 4] rfl fun hS => tO (tf rfl rfl (fun a hf => e_build0 (α := Phi_) et_62 hm rfl) ?_)
     rintro v2_130 w hm
     refine tAk hm [4, 5] rfl fun hS => ?_
     obtain ⟨p2_172, c2_172, rfl, hl2_172⟩ := ro_slice (hm.ow_rep 0 rfl)
     obtain ⟨p2_173, c2_173, rfl, hl2_173⟩ := ro_slice (hm.ow_rep 1 rfl)
     obtain ⟨p2_174, c2_174, rfl, hl2_174⟩ := ro_slice (hm.ow_rep 2 rfl)
     exact tP rfl (fun w => yG rfl (y_build (vs := [(0, (.slice p2_172 ([] : List Phi_).length c2_172)), (1, (.slice p2_173 ([] : List Ins_).length c2_173)), (2, (nV b_.jump)), (3, (nV b_.on)), (4, (.slice p2_174 pb1_1.length c2_174))]) (cs := #[(.slice p2_172 ([] : List Phi_).length c2_172), (.slice p2_173 ([] : List Ins_).length c2_173), (nV b_.jump), (nV b_.on), (.slice p2_174 pb1_1.length c2_174)]) rfl rfl (by kernel_rfl))) (tE (gZ fun a hf => ⟨b2_35, (.slice p2_172 ([] : List Phi_).length c2_172), (.slice p2_173 ([] : List Ins_).length c2_173), (.slice p2_174 pb1_1.length c2_174), hf.sb rfl, hm.pk [5, 4, 3, 0, 1, 2] rfl rfl⟩))
    refine tO ?_
    obtain ⟨h2_49, h2_49e⟩ := appM_some.1 hpb1_1
    refine tf rfl rfl (fun a hf => e_append 0 et_29 hf hm rfl (hm.now h3) rfl rfl rfl h2_49) ?_
    rintro v2_131 w hm
    rw [h2_49e] at hm
    refine tAk hm [2, 3] rfl fun hS => tMo ?_ ?_
    ·
     refine tf rfl rfl (fun a hf => e_build0 (α := Phi_) et_62 hm rfl) ?_
     rintro v2_132 w hm
     refine tAk hm [3, 4] rfl fun hS => tO (tf rfl rfl (fun a hf => e_build0 (α := Ins_) et_63 hm rfl) ?_)
     rintro v2_133 w hm
     refine tAk hm [4, 5] rfl fun hS => ?_
     obtain ⟨p2_175, c2_175, rfl, hl2_175⟩ := ro_slice (hm.ow_rep 1 rfl)
     obtain ⟨p2_176, c2_176, rfl, hl2_176⟩ := ro_slice (hm.ow_rep 0 rfl)
     obtain ⟨p2_177, c2_177, rfl, hl2_177⟩ := ro_slice (hm.ow_rep 2 rfl)
     exact tP rfl (fun w => yG rfl (y_build (vs := [(0, (.slice p2_175 ([] : List Phi_).length c2_175)), (1, (.slice p2_176 ([] : List Ins_).length c2_176)), (2, (nV b_.jump)), (3, (nV b_.on)), (4, (.slice p2_177 pb1_1.length c2_177))]) (cs := #[(.slice p2_175 ([] : List Phi_).length c2_175), (.slice p2_176 ([] : List Ins_).length c2_176), (nV b_.jump), (nV b_.on), (.slice p2_177 pb1_1.length c2_177)]) rfl rfl (by kernel_rfl))) (tE (gZ fun a hf => ⟨b2_35, (.slice p2_175 ([] : List Phi_).length c2_175), (.slice p2_176 ([] : List Ins_).length c2_176), (.slice p2_177 pb1_1.length c2_177), hf.sb rfl, hm.pk [5, 4, 3, 1, 0, 2] rfl rfl⟩))
    refine tO (tf rfl rfl (fun a hf => e_build0 (α := Ins_) et_63 hm rfl) ?_)
    rintro v2_134 w hm
    refine tAk hm [3, 4] rfl fun hS => tO (tf rfl rfl (fun a hf => e_build0 (α := Phi_) et_62 hm rfl) ?_)
    rintro v2_135 w hm
    refine tAk hm [4, 5] rfl fun hS => ?_
    obtain ⟨p2_178, c2_178, rfl, hl2_178⟩ := ro_slice (hm.ow_rep 0 rfl)
    obtain ⟨p2_179, c2_179, rfl, hl2_179⟩ := ro_slice (hm.ow_rep 1 rfl)
    obtain ⟨p2_180, c2_180, rfl, hl2_180⟩ := ro_slice (hm.ow_rep 2 rfl)
    exact tP rfl (fun w => yG rfl (y_build (vs := [(0, (.slice p2_178 ([] : List Phi_).length c2_178)), (1, (.slice p2_179 ([] : List Ins_).length c2_179)), (2, (nV b_.jump)), (3, (nV b_.on)), (4, (.slice p2_180 pb1_1.length c2_180))]) (cs := #[(.slice p2_178 ([] : List Phi_).length c2_178), (.slice p2_179 ([] : List Ins_).length c2_179), (nV b_.jump), (nV b_.on), (.slice p2_180 pb1_1.length c2_180)]) rfl rfl (by kernel_rfl))) (tE (gZ fun a hf => ⟨b2_35, (.slice p2_178 ([] : List Phi_).length c2_178), (.slice p2_179 ([] : List Ins_).length c2_179), (.slice p2_180 pb1_1.length c2_180), hf.sb rfl, hm.pk [5, 4, 3, 0, 1, 2] rfl rfl⟩))
   repeat clear hm
   rintro s1_1 a w ⟨b1_1, v1_1, v1_2, v1_3, hf, hm⟩
   refine gv hf (tO (tf0 rfl rfl (fun a hf => e_storeN 2 hf hm rfl sizeOf65 rfl rfl rfl (one_cons (rep_one (hm.ow_rep 3 rfl)) (one_cons (rep_one (hm.ow_rep 4 rfl)) (one_cons rfl (one_cons rfl (one_cons (rep_one (hm.ow_rep 5 rfl)) one_nil))))) rfl rfl) ?_))
   rintro _ w hm
   exact tAn rfl (tE (gZ fun a hf => ⟨b1_1, v1_1, v1_2, v1_3, hf.sb rfl, hm.pk [0, 1, 2, 3, 4, 5] rfl rfl⟩))
  repeat clear hm
  rintro s0_1 a w ⟨b0_3, v0_1, v0_2, v0_3, hf, hm⟩
  refine gv hf (gS (gS (gR (gA rfl (gE ?_)))))
  obtain ⟨p0_1, c0_1, rfl, hl0_1⟩ := ro_slice (hm.ow_rep 3 rfl)
  obtain ⟨p0_2, c0_2, rfl, hl0_2⟩ := ro_slice (hm.ow_rep 4 rfl)
  obtain ⟨p0_3, c0_3, rfl, hl0_3⟩ := ro_slice (hm.ow_rep 5 rfl)
  refine gBk (gNg (fun i1_1 xs1_1 a w => ∃ (v1_4 : Value), St 74 [(1, (pV b0_1)), (2, (pV b0_2)), (3, (pV b0_3)), (4, (nV i1_1))] w0 (hp w0) [blk b0_1 [v1, v2, (nV b_.jump), (nV b_.on), v3] 65, blk b0_2 [(.slice none 0 0), (.slice none 0 0), (nV 0), (nV 0), (.slice none 0 0)] 65, blk b0_3 [v1_4, (.slice p0_2 ([] : List Ins_).length c0_2), (nV b_.jump), (nV b_.on), (.slice p0_3 s0_1.length c0_3)] 65, ow [v1_4] xs1_1, ow [(.slice p0_2 ([] : List Ins_).length c0_2)] ([] : List Ins_), ow [(.slice p0_3 s0_1.length c0_3)] s0_1] a w) (fun a hf => ⟨(.slice p0_1 ([] : List Phi_).length c0_1), hf.sb rfl, hm.pk [0, 1, 2, 3, 4, 5] rfl rfl⟩) ?_ ?_)
  ·
   repeat clear hm
   rintro _ _ i1_1 xs1_1 a w ⟨v1_4, hf, hm⟩ hi0_1 hi0_2 q0_1 _
   refine gv hf (gS (gS (gR (gM rfl (gF fo_65_0 rfl (gL hm 0 isAgg62 rfl ?_))))))
   obtain ⟨p1_1, c1_1, rfl, hl1_1⟩ := ro_slice h1
   refine gY (yV st_62 rfl) (gB rfl (gE (go _ 22 rfl (decide_eq_true (by omega)) (gct rfl (gSk (gS (gBk (gW (.p 0 (.p 2 (.p 4 (.p 9 (.p 11 (.q 1 (.q 3 (.p 5 (.p 6 (.q 7 (.q 10 (.p 12 (.p 13 (.q 14 (.e 8 (.e 15 (.p 16 (.e 17 (.e 18 (.p 19 (.e 20 .fin .nil)) .nil) .nil)) .nil) .nil))))))))))))))) [1, 3, 7, 8, 10, 14, 15, 17] [0, 2, 4, 5, 6, 9, 11, 12, 13, 16, 19] hm [0, 1, 2, 3, 4, 5] [blk b0_1 [(.slice p1_1 b_.phis.length c1_1), v2, (nV b_.jump), (nV b_.on), v3] 65, blk b0_2 [(.slice none 0 0), (.slice none 0 0), (nV 0), (nV 0), (.slice none 0 0)] 65, blk b0_3 [v1_4, (.slice p0_2 ([] : List Ins_).length c0_2), (nV b_.jump), (nV b_.on), (.slice p0_3 s0_1.length c0_3)] 65, ow [v1_4] xs1_1, ow [(.slice p0_2 ([] : List Ins_).length c0_2)] ([] : List Ins_), ow [(.slice p0_3 s0_1.length c0_3)] s0_1] rfl mxo (by kernel_rfl) (fun _ _ _ h => h.2) fun w hm hS => tP rfl (fun w => yF fo_65_0 rfl) (tP rfl (fun w => yF fo_65_0 rfl) (tP rfl (fun w => yM rfl) (tP rfl (fun w => yF fo_65_0 rfl) (tP rfl (fun w => yM rfl) (tQ rfl hS (fun w hm => yL hm 2 isAgg62 rfl) (tQ rfl hS (fun w hm => yL hm 0 isAgg62 rfl) (gg fun x1_1 h1_1 hx1_2 => ?_)))))))))))))))
   obtain ⟨b1_2, o1_1, c1_2, he⟩ := idx_form' h1 hx1_2
   simp only [Value.slice.injEq, Option.some.injEq] at he; obtain ⟨rfl, _, rfl⟩ := he
   obtain ⟨v1_5, hc1_1, h1_2⟩ := rk_Phi_ h1 hx1_2
   refine tP rfl (fun w => yI st_62 h1_1 (idx_lt hx1_2) rfl) (tP rfl (fun w => yF fo_70_0 rfl) (tQ rfl hS (fun w hm => yl isAgg3 ((hc1_1.mono hm.lez).cell (j := 0) rfl) rfl) (tQ rfl hS (fun w hm => yL hm 0 isAgg62 rfl) (tP rfl (fun w => yI st_62 h1_1 (idx_lt hx1_2) rfl) (tP rfl (fun w => yF fo_70_1 rfl) (tQ rfl hS (fun w hm => yl isAgg29 ((hc1_1.mono hm.lez).cell (j := 1) rfl) rfl) (tO (tf rfl rfl (fun a hf => e_build0 (α := Int) et_29 hm rfl) ?_))))))))
   rintro v1_6 w hm
   refine tAk hm [1, 2, 3, 4, 5, 6] rfl fun hS => tO (gb fun ys1_1 hx1_3 => ?_)
   obtain ⟨h1_3, h1_3e⟩ := appM_some.1 hx1_3
   refine tf rfl rfl (fun a hf => e_append 0 et_29 hf hm rfl (hm.now h1_2) rfl rfl rfl h1_3) ?_
   rintro v1_7 w hm
   rw [h1_3e] at hm
   refine tAk hm [1, 2, 3, 4, 5, 6] rfl fun hS => ?_
   obtain ⟨p1_2, c1_3, rfl, hl1_2⟩ := ro_slice (hm.ow_rep 0 rfl)
   refine tP rfl (fun w => yG rfl (y_build (vs := [(0, (nV x1_1.to)), (1, (.slice p1_2 ys1_1.length c1_3))]) (cs := #[(nV x1_1.to), (.slice p1_2 ys1_1.length c1_3)]) rfl rfl (by kernel_rfl))) (tO (tf rfl rfl (fun a hf => e_build (vs := #[(0, (.agg #[(nV x1_1.to), (.slice p1_2 ys1_1.length c1_3)]))]) (cs := [(nV x1_1.to), (.slice p1_2 ys1_1.length c1_3)]) et_62 hf hm rfl rfl (by kernel_rfl) rfl rfl) ?_))
   rintro _ w ⟨b1_3, rfl, hm⟩
   replace hm := hm.els_nil (α := Phi_)
   replace hm : Mem w0 (hp w0) _ [els [] ([] : List Phi_), blk b1_3 [(nV x1_1.to), (.slice p1_2 ys1_1.length c1_3)] 70, ow [(nV x1_1.to), (.slice p1_2 ys1_1.length c1_3)] ((⟨x1_1.to, ys1_1⟩ : Phi_) : Phi_), blk b0_1 [(sV b1_2 o1_1 b_.phis.length c1_1), v2, (nV b_.jump), (nV b_.on), v3] 65, blk b0_2 [(.slice none 0 0), (.slice none 0 0), (nV 0), (nV 0), (.slice none 0 0)] 65, blk b0_3 [v1_4, (.slice p0_2 ([] : List Ins_).length c0_2), (nV b_.jump), (nV b_.on), (.slice p0_3 s0_1.length c0_3)] 65, ow [v1_4] xs1_1, ow [(.slice p0_2 ([] : List Ins_).length c0_2)] ([] : List Ins_), ow [(.slice p0_3 s0_1.length c0_3)] s0_1] := mk_Phi_ x1_1.to hm 2 rfl
   replace hm := (hm.els_cons 0 2 (by decide) rfl rfl).pk (L' := [els [(nV x1_1.to), (.slice p1_2 ys1_1.length c1_3)] ([(⟨x1_1.to, ys1_1⟩ : Phi_)] : List Phi_), blk b1_3 [(nV x1_1.to), (.slice p1_2 ys1_1.length c1_3)] 70, blk b0_1 [(sV b1_2 o1_1 b_.phis.length c1_1), v2, (nV b_.jump), (nV b_.on), v3] 65, blk b0_2 [(.slice none 0 0), (.slice none 0 0), (nV 0), (nV 0), (.slice none 0 0)] 65, blk b0_3 [v1_4, (.slice p0_2 ([] : List Ins_).length c0_2), (nV b_.jump), (nV b_.on), (.slice p0_3 s0_1.length c0_3)] 65, ow [v1_4] xs1_1, ow [(.slice p0_2 ([] : List Ins_).length c0_2)] ([] : List Ins_), ow [(.slice p0_3 s0_1.length c0_3)] s0_1]) [0, 1, 3, 4, 5, 6, 7, 8] rfl rfl
   replace hm := (hm.lit_els 1 0 (by decide) rfl rfl rfl rfl).pk (L' := [ow [(sV b1_3 0 1 1)] ([(⟨x1_1.to, ys1_1⟩ : Phi_)] : List Phi_), blk b0_1 [(sV b1_2 o1_1 b_.phis.length c1_1), v2, (nV b_.jump), (nV b_.on), v3] 65, blk b0_2 [(.slice none 0 0), (.slice none 0 0), (nV 0), (nV 0), (.slice none 0 0)] 65, blk b0_3 [v1_4, (.slice p0_2 ([] : List Ins_).length c0_2), (nV b_.jump), (nV b_.on), (.slice p0_3 s0_1.length c0_3)] 65, ow [v1_4] xs1_1, ow [(.slice p0_2 ([] : List Ins_).length c0_2)] ([] : List Ins_), ow [(.slice p0_3 s0_1.length c0_3)] s0_1]) [1, 2, 3, 4, 5, 6, 7] rfl rfl
   refine tAk hm [1, 2, 3, 4, 5, 6] rfl fun hS => tO (gb fun ys1_2 hx1_4 => ?_)
   obtain ⟨h1_4, h1_4e⟩ := appM_some.1 hx1_4
   replace hm := (hm.both 4 0 (by decide) rfl rfl).pk (L' := [blk b0_1 [(sV b1_2 o1_1 b_.phis.length c1_1), v2, (nV b_.jump), (nV b_.on), v3] 65, blk b0_2 [(.slice none 0 0), (.slice none 0 0), (nV 0), (nV 0), (.slice none 0 0)] 65, blk b0_3 [v1_4, (.slice p0_2 ([] : List Ins_).length c0_2), (nV b_.jump), (nV b_.on), (.slice p0_3 s0_1.length c0_3)] 65, both (ow [v1_4] xs1_1) (ow [(sV b1_3 0 1 1)] ([(⟨x1_1.to, ys1_1⟩ : Phi_)] : List Phi_)), ow [(.slice p0_2 ([] : List Ins_).length c0_2)] ([] : List Ins_), ow [(.slice p0_3 s0_1.length c0_3)] s0_1]) [1, 2, 3, 4, 5, 6] rfl rfl
   refine tf rfl rfl (fun a hf => e_appendD (xs := xs1_1) (ys := ([(⟨x1_1.to, ys1_1⟩ : Phi_)] : List Phi_)) 3 et_62 hf hm rfl rfl rfl rfl h1_4) ?_
   rintro v1_8 w hm
   rw [h1_4e] at hm
   refine tAn rfl (tP rfl (fun w => yF fo_65_0 rfl) (tO (tf0 rfl rfl (fun a hf => e_store1 2 hf hm rfl sizeOf62 rfl rfl rfl (rep_one (hm.ow_rep 3 rfl)) rfl) ?_)))
   rintro _ w hm
   exact tAn rfl (tE (gR (gM rfl (gP (by omega) (by omega) rfl (gA rfl (gE (gZe fun a hf => ⟨v1_8, hf.sb rfl, hm.pk [0, 1, 2, 3, 4, 5] rfl rfl⟩)))))))
  repeat clear hm
  rintro i0_1 xs0_1 a w ⟨v0_4, hf, hm⟩ hi0_3 hi0_4
  refine gv hf (gS (gS (gR (gM rfl (gF fo_65_0 rfl (gL hm 0 isAgg62 rfl ?_))))))
  obtain ⟨p0_4, c0_4, rfl, hl0_4⟩ := ro_slice h1
  refine gY (yV st_62 rfl) (gB rfl (gE (go _ 22 rfl (decide_eq_false (by omega)) (gcf rfl (gXt (gHh (gS (gS (gR (gA rfl (gE ?_)))))))))))
  obtain ⟨p0_5, c0_5, rfl, hl0_5⟩ := ro_slice (hm.ow_rep 3 rfl)
  refine gBk (gNg (fun i1_2 xs1_2 a w => ∃ (v1_9 : Value), St 74 [(1, (pV b0_1)), (2, (pV b0_2)), (3, (pV b0_3)), (5, (nV i1_2))] w0 (hp w0) [blk b0_1 [(.slice p0_4 b_.phis.length c0_4), v2, (nV b_.jump), (nV b_.on), v3] 65, blk b0_2 [(.slice none 0 0), (.slice none 0 0), (nV 0), (nV 0), (.slice none 0 0)] 65, blk b0_3 [(.slice p0_5 xs0_1.length c0_5), v1_9, (nV b_.jump), (nV b_.on), (.slice p0_3 s0_1.length c0_3)] 65, ow [(.slice p0_5 xs0_1.length c0_5)] xs0_1, ow [v1_9] xs1_2, ow [(.slice p0_3 s0_1.length c0_3)] s0_1] a w) (fun a hf => ⟨(.slice p0_2 ([] : List Ins_).length c0_2), hf.sb rfl, hm.pk [0, 1, 2, 3, 4, 5] rfl rfl⟩) ?_ ?_)
  ·
   repeat clear hm
   rintro _ _ i1_2 xs1_2 a w ⟨v1_9, hf, hm⟩ hi0_5 hi0_6 q0_2 _
   refine gv hf (gS (gS (gR (gM rfl (gF fo_65_1 rfl (gL hm 0 isAgg63 rfl ?_))))))
   obtain ⟨p1_3, c1_4, rfl, hl1_3⟩ := ro_slice h2
   refine gY (yV st_63 rfl) (gB rfl (gE (go _ 49 rfl (decide_eq_true (by omega)) (gct rfl (gSk (gS (gBk (gS (gR (gF fo_65_1 rfl (gL hm 0 isAgg63 rfl (gM rfl (gg fun x1_2 h1_5 hx1_6 => ?_)))))))))))))
   obtain ⟨b1_4, o1_2, c1_5, he⟩ := idx_form' h2 hx1_6
   simp only [Value.slice.injEq, Option.some.injEq] at he; obtain ⟨rfl, _, rfl⟩ := he
   obtain ⟨v1_10, hc1_2, h1_6⟩ := rk_Ins_ h2 hx1_6
   refine gI st_63 h1_5 (idx_lt hx1_6) rfl (gY (yn (hc1_2.mono hm.lez) isAgg68 sizeOf68 rfl) (gAl hm zeroValue68 rfl fun b1_5 w hm => gSN hm 0 sizeOf68 (one_cons rfl (one_cons rfl (one_cons (rep_one h1_6) (one_cons rfl one_nil)))) rfl fun w hm => gE (gW (.p 0 (.p 2 (.p 4 (.p 7 (.p 10 (.q 1 (.q 3 (.q 5 (.q 8 (.q 11 (.e 6 (.e 9 (.p 12 (.e 13 (.e 14 (.p 15 (.e 16 .fin .nil)) .nil) .nil)) .nil) .nil))))))))))) [1, 3, 5, 6, 8, 9, 11, 13] [0, 2, 4, 7, 10, 12, 15] hm [0, 1, 2, 3, 4, 5, 6] [blk b1_5 [(nV x1_2.op), (nV x1_2.to), v1_10, (nV x1_2.n_)] 68, blk b0_1 [(.slice p0_4 b_.phis.length c0_4), (sV b1_4 o1_2 b_.ins.length c1_4), (nV b_.jump), (nV b_.on), v3] 65, blk b0_2 [(.slice none 0 0), (.slice none 0 0), (nV 0), (nV 0), (.slice none 0 0)] 65, blk b0_3 [(.slice p0_5 xs0_1.length c0_5), v1_9, (nV b_.jump), (nV b_.on), (.slice p0_3 s0_1.length c0_3)] 65, ow [(.slice p0_5 xs0_1.length c0_5)] xs0_1, ow [v1_9] xs1_2, ow [(.slice p0_3 s0_1.length c0_3)] s0_1] rfl mxo (by kernel_rfl) (fun _ _ _ h => h.2) fun w hm hS => tP rfl (fun w => yF fo_65_1 rfl) (tP rfl (fun w => yF fo_68_0 rfl) (tP rfl (fun w => yF fo_68_1 rfl) (tP rfl (fun w => yF fo_68_2 rfl) (tP rfl (fun w => yF fo_68_3 rfl) (tQ rfl hS (fun w hm => yL hm 3 isAgg63 rfl) (tQ rfl hS (fun w hm => yL hm 0 isAgg3 rfl) (tQ rfl hS (fun w hm => yL hm 0 isAgg3 rfl) (tQ rfl hS (fun w hm => yL hm 0 isAgg29 rfl) (tQ rfl hS (fun w hm => yL hm 0 isAgg3 rfl) (tO (tf rfl rfl (fun a hf => e_build0 (α := Int) et_29 hm rfl) ?_))))))))))))))
   rintro v1_11 w hm
   refine tAk hm [1, 2, 3, 4, 5, 6, 7] rfl fun hS => tO (gb fun ys1_3 hx1_7 => ?_)
   obtain ⟨h1_7, h1_7e⟩ := appM_some.1 hx1_7
   refine tf rfl rfl (fun a hf => e_append 0 et_29 hf hm rfl (hm.now h1_6) rfl rfl rfl h1_7) ?_
   rintro v1_12 w hm
   rw [h1_7e] at hm
   refine tAk hm [1, 2, 3, 4, 5, 6, 7] rfl fun hS => ?_
   obtain ⟨p1_4, c1_6, rfl, hl1_4⟩ := ro_slice (hm.ow_rep 0 rfl)
   refine tP rfl (fun w => yG rfl (y_build (vs := [(0, (nV x1_2.op)), (1, (nV x1_2.to)), (2, (.slice p1_4 ys1_3.length c1_6)), (3, (nV x1_2.n_))]) (cs := #[(nV x1_2.op), (nV x1_2.to), (.slice p1_4 ys1_3.length c1_6), (nV x1_2.n_)]) rfl rfl (by kernel_rfl))) (tO (tf rfl rfl (fun a hf => e_build (vs := #[(0, (.agg #[(nV x1_2.op), (nV x1_2.to), (.slice p1_4 ys1_3.length c1_6), (nV x1_2.n_)]))]) (cs := [(nV x1_2.op), (nV x1_2.to), (.slice p1_4 ys1_3.length c1_6), (nV x1_2.n_)]) et_63 hf hm rfl rfl (by kernel_rfl) rfl rfl) ?_))
   rintro _ w ⟨b1_6, rfl, hm⟩
   replace hm := hm.els_nil (α := Ins_)
   replace hm : Mem w0 (hp w0) _ [els [] ([] : List Ins_), blk b1_6 [(nV x1_2.op), (nV x1_2.to), (.slice p1_4 ys1_3.length c1_6), (nV x1_2.n_)] 68, ow [(nV x1_2.op), (nV x1_2.to), (.slice p1_4 ys1_3.length c1_6), (nV x1_2.n_)] ((⟨x1_2.op, x1_2.to, ys1_3, x1_2.n_⟩ : Ins_) : Ins_), blk b1_5 [(nV x1_2.op), (nV x1_2.to), v1_10, (nV x1_2.n_)] 68, blk b0_1 [(.slice p0_4 b_.phis.length c0_4), (sV b1_4 o1_2 b_.ins.length c1_4), (nV b_.jump), (nV b_.on), v3] 65, blk b0_2 [(.slice none 0 0), (.slice none 0 0), (nV 0), (nV 0), (.slice none 0 0)] 65, blk b0_3 [(.slice p0_5 xs0_1.length c0_5), v1_9, (nV b_.jump), (nV b_.on), (.slice p0_3 s0_1.length c0_3)] 65, ow [(.slice p0_5 xs0_1.length c0_5)] xs0_1, ow [v1_9] xs1_2, ow [(.slice p0_3 s0_1.length c0_3)] s0_1] := mk_Ins_ x1_2.op x1_2.to x1_2.n_ hm 2 rfl
   replace hm := (hm.els_cons 0 2 (by decide) rfl rfl).pk (L' := [els [(nV x1_2.op), (nV x1_2.to), (.slice p1_4 ys1_3.length c1_6), (nV x1_2.n_)] ([(⟨x1_2.op, x1_2.to, ys1_3, x1_2.n_⟩ : Ins_)] : List Ins_), blk b1_6 [(nV x1_2.op), (nV x1_2.to), (.slice p1_4 ys1_3.length c1_6), (nV x1_2.n_)] 68, blk b1_5 [(nV x1_2.op), (nV x1_2.to), v1_10, (nV x1_2.n_)] 68, blk b0_1 [(.slice p0_4 b_.phis.length c0_4), (sV b1_4 o1_2 b_.ins.length c1_4), (nV b_.jump), (nV b_.on), v3] 65, blk b0_2 [(.slice none 0 0), (.slice none 0 0), (nV 0), (nV 0), (.slice none 0 0)] 65, blk b0_3 [(.slice p0_5 xs0_1.length c0_5), v1_9, (nV b_.jump), (nV b_.on), (.slice p0_3 s0_1.length c0_3)] 65, ow [(.slice p0_5 xs0_1.length c0_5)] xs0_1, ow [v1_9] xs1_2, ow [(.slice p0_3 s0_1.length c0_3)] s0_1]) [0, 1, 3, 4, 5, 6, 7, 8, 9] rfl rfl
   replace hm := (hm.lit_els 1 0 (by decide) rfl rfl rfl rfl).pk (L' := [ow [(sV b1_6 0 1 1)] ([(⟨x1_2.op, x1_2.to, ys1_3, x1_2.n_⟩ : Ins_)] : List Ins_), blk b1_5 [(nV x1_2.op), (nV x1_2.to), v1_10, (nV x1_2.n_)] 68, blk b0_1 [(.slice p0_4 b_.phis.length c0_4), (sV b1_4 o1_2 b_.ins.length c1_4), (nV b_.jump), (nV b_.on), v3] 65, blk b0_2 [(.slice none 0 0), (.slice none 0 0), (nV 0), (nV 0), (.slice none 0 0)] 65, blk b0_3 [(.slice p0_5 xs0_1.length c0_5), v1_9, (nV b_.jump), (nV b_.on), (.slice p0_3 s0_1.length c0_3)] 65, ow [(.slice p0_5 xs0_1.length c0_5)] xs0_1, ow [v1_9] xs1_2, ow [(.slice p0_3 s0_1.length c0_3)] s0_1]) [1, 2, 3, 4, 5, 6, 7, 8] rfl rfl
   refine tAk hm [1, 2, 3, 4, 5, 6, 7] rfl fun hS => tO (gb fun ys1_4 hx1_8 => ?_)
   obtain ⟨h1_8, h1_8e⟩ := appM_some.1 hx1_8
   replace hm := (hm.both 6 0 (by decide) rfl rfl).pk (L' := [blk b1_5 [(nV x1_2.op), (nV x1_2.to), v1_10, (nV x1_2.n_)] 68, blk b0_1 [(.slice p0_4 b_.phis.length c0_4), (sV b1_4 o1_2 b_.ins.length c1_4), (nV b_.jump), (nV b_.on), v3] 65, blk b0_2 [(.slice none 0 0), (.slice none 0 0), (nV 0), (nV 0), (.slice none 0 0)] 65, blk b0_3 [(.slice p0_5 xs0_1.length c0_5), v1_9, (nV b_.jump), (nV b_.on), (.slice p0_3 s0_1.length c0_3)] 65, ow [(.slice p0_5 xs0_1.length c0_5)] xs0_1, both (ow [v1_9] xs1_2) (ow [(sV b1_6 0 1 1)] ([(⟨x1_2.op, x1_2.to, ys1_3, x1_2.n_⟩ : Ins_)] : List Ins_)), ow [(.slice p0_3 s0_1.length c0_3)] s0_1]) [1, 2, 3, 4, 5, 6, 7] rfl rfl
   refine tf rfl rfl (fun a hf => e_appendD (xs := xs1_2) (ys := ([(⟨x1_2.op, x1_2.to, ys1_3, x1_2.n_⟩ : Ins_)] : List Ins_)) 5 et_63 hf hm rfl rfl rfl rfl h1_8) ?_
   rintro v1_13 w hm
   rw [h1_8e] at hm
   refine tAn rfl (tP rfl (fun w => yF fo_65_1 rfl) (tO (tf0 rfl rfl (fun a hf => e_store1 3 hf hm rfl sizeOf63 rfl rfl rfl (rep_one (hm.ow_rep 5 rfl)) rfl) ?_)))
   rintro _ w hm
   exact tAn rfl (tE (gR (gM rfl (gP (by omega) (by omega) rfl (gA rfl (gE (gZe fun a hf => ⟨v1_13, hf.sb rfl, hm.pk [1, 2, 3, 4, 5, 6] rfl rfl⟩)))))))
  repeat clear hm
  rintro i0_2 xs0_2 a w ⟨v0_5, hf, hm⟩ hi0_7 hi0_8
  refine gv hf (gS (gS (gR (gM rfl (gF fo_65_1 rfl (gL hm 0 isAgg63 rfl ?_))))))
  obtain ⟨p0_6, c0_6, rfl, hl0_6⟩ := ro_slice h2
  exact gY (yV st_63 rfl) (gB rfl (gE (go _ 49 rfl (decide_eq_false (by omega)) (gcf rfl (gXt (gHh (gS (gR (gY (yn (hm.blk_at 2 rfl) isAgg65 sizeOf65 rfl) (gSN hm 1 sizeOf65 (one_cons rfl (one_cons (rep_one (hm.ow_rep 4 rfl)) (one_cons rfl (one_cons rfl (one_cons rfl one_nil))))) rfl fun w hm => gE (gRt (grc 1 results73 hm rfl isAgg65 sizeOf65 ⟨(.slice p0_5 xs0_1.length c0_5), v0_5, (.slice p0_3 s0_1.length c0_3), rfl, hm.pk [3, 4, 5] rfl rfl⟩))))))))))))

theorem spec_l7Copy_ok (w0 : World) (c_ : Code_) (v1 : Value) (h1 : GT.rep (hp w0) [v1] c_.blocks) :
    ConM Tryd.prog 49 [(.agg #[(nV c_.params), (nV c_.regs), v1])] w0 (spec_l7Copy c_) fun r v w' => ∃ (x1 : Value), v = (.agg #[(nV r.params), (nV r.regs), x1]) ∧ Mem w0 (hp w0) w' [ow [x1] r.blocks] := by
  unfold spec_l7Copy
  refine gcon func49 rfl fun r => ?_
  have hm := Mem.start w0
  refine gS (gR (gBx hm rfl fun b0_1 w hm => gAl hm zeroValue45 rfl fun b0_2 w hm => gE (gS (gR (gF fo_45_0 rfl (gL hm 1 isAgg3 rfl (gF fo_45_1 rfl (gL hm 1 isAgg3 rfl (gY (yG rfl (y_build (vs := [(0, (nV c_.params)), (1, (nV c_.regs))]) (cs := #[(nV c_.params), (nV c_.regs), (.slice none 0 0)]) rfl rfl (by kernel_rfl))) (gAl hm zeroValue45 rfl fun b0_3 w hm => gSN hm 0 sizeOf45 (one_cons rfl (one_cons rfl (one_cons rfl one_nil))) rfl fun w hm => gE (gS (gS (gR (gA rfl (gE (gBk ?_))))))))))))))))
  replace hm := hm.nilow (α := Block_)
  refine gNg (fun i1_1 xs1_1 a w => ∃ (v1_1 : Value), St 29 [(1, (pV b0_1)), (2, (pV b0_2)), (3, (pV b0_3)), (4, (nV i1_1))] w0 (hp w0) [blk b0_1 [(nV c_.params), (nV c_.regs), v1] 45, blk b0_2 [(nV 0), (nV 0), (.slice none 0 0)] 45, blk b0_3 [(nV c_.params), (nV c_.regs), v1_1] 45, ow [v1_1] xs1_1] a w) (fun a hf => ⟨(.slice none 0 0), hf.sb rfl, hm.pk [3, 2, 1, 0] rfl rfl⟩) ?_ ?_
  ·
   repeat clear hm
   rintro _ _ i1_1 xs1_1 a w ⟨v1_1, hf, hm⟩ hi0_1 hi0_2 q0_1 _
   refine gv hf (gS (gS (gR (gM rfl (gF fo_45_2 rfl (gL hm 0 isAgg43 rfl ?_))))))
   obtain ⟨p1_1, c1_1, rfl, hl1_1⟩ := ro_slice h1
   refine gY (yV st_43 rfl) (gB rfl (gE (go _ 14 rfl (decide_eq_true (by omega)) (gct rfl (gSk (gS (gBk (gW (.p 0 (.p 2 (.p 4 (.q 1 (.e 3 (.p 5 (.e 6 (.e 7 (.e 8 (.e 9 (.p 10 (.e 11 .fin .nil)) .nil) .nil) .nil) .nil)) .nil))))) [3, 6, 7, 8] [0, 2, 4, 5, 10] hm [0, 1, 2, 3] [blk b0_1 [(nV c_.params), (nV c_.regs), (.slice p1_1 c_.blocks.length c1_1)] 45, blk b0_2 [(nV 0), (nV 0), (.slice none 0 0)] 45, blk b0_3 [(nV c_.params), (nV c_.regs), v1_1] 45, ow [v1_1] xs1_1] rfl mxo (by kernel_rfl) (fun _ _ _ h => h.2) fun w hm hS => tP rfl (fun w => yF fo_45_2 rfl) (tP rfl (fun w => yF fo_45_2 rfl) (tP rfl (fun w => yM rfl) (tQ rfl hS (fun w hm => yL hm 2 isAgg43 rfl) (tO (tY rfl (yL hm 0 isAgg43 rfl) (tAs hS (gg fun x1_1 h1_1 hx1_2 => ?_)))))))))))))))
   obtain ⟨b1_1, o1_1, c1_2, he⟩ := idx_form' h1 hx1_2
   simp only [Value.slice.injEq, Option.some.injEq] at he; obtain ⟨rfl, _, rfl⟩ := he
   obtain ⟨v1_2, v1_3, v1_4, hc1_1, h1_2, h1_3, h1_4⟩ := rk_Block_ h1 hx1_2
   refine tP rfl (fun w => yI st_43 h1_1 (idx_lt hx1_2) rfl) (tO (tY rfl (yn (hc1_1.mono hm.lez) isAgg65 sizeOf65 rfl) (tAs hS (tO (gb fun r1_1 hx1_3 => tf rfl rfl (fun a hf => e_call hf rfl call73 rfl (spec_l7CopyBlock_ok _ x1_1 v1_2 (hm.now h1_2) v1_3 (hm.now h1_3) v1_4 (hm.now h1_4) _ hx1_3)) ?_)))))
   rintro v1_5 w ⟨v1_6, v1_7, v1_8, rfl, hB⟩
   replace hm := hm.give hB; clear hB
   refine tAk hm [3, 4, 5, 6] rfl fun hS => tO (tf rfl rfl (fun a hf => e_build (vs := #[(0, (.agg #[v1_6, v1_7, (nV r1_1.jump), (nV r1_1.on), v1_8]))]) (cs := [v1_6, v1_7, (nV r1_1.jump), (nV r1_1.on), v1_8]) et_43 hf hm rfl rfl (by kernel_rfl) rfl rfl) ?_)
   rintro _ w ⟨b1_2, rfl, hm⟩
   replace hm := hm.els_nil (α := Block_)
   replace hm := (mk_Block_ r1_1.jump r1_1.on hm 2 3 4 rfl).pk (L' := [els [] ([] : List Block_), blk b1_2 [v1_6, v1_7, (nV r1_1.jump), (nV r1_1.on), v1_8] 65, ow [v1_6, v1_7, (nV r1_1.jump), (nV r1_1.on), v1_8] (r1_1 : Block_), blk b0_1 [(nV c_.params), (nV c_.regs), (sV b1_1 o1_1 c_.blocks.length c1_1)] 45, blk b0_2 [(nV 0), (nV 0), (.slice none 0 0)] 45, blk b0_3 [(nV c_.params), (nV c_.regs), v1_1] 45, ow [v1_1] xs1_1]) [0, 1, 2, 5, 6, 7, 8] rfl rfl
   replace hm := (hm.els_cons 0 2 (by decide) rfl rfl).pk (L' := [els [v1_6, v1_7, (nV r1_1.jump), (nV r1_1.on), v1_8] ([r1_1] : List Block_), blk b1_2 [v1_6, v1_7, (nV r1_1.jump), (nV r1_1.on), v1_8] 65, blk b0_1 [(nV c_.params), (nV c_.regs), (sV b1_1 o1_1 c_.blocks.length c1_1)] 45, blk b0_2 [(nV 0), (nV 0), (.slice none 0 0)] 45, blk b0_3 [(nV c_.params), (nV c_.regs), v1_1] 45, ow [v1_1] xs1_1]) [0, 1, 3, 4, 5, 6] rfl rfl
   replace hm := (hm.lit_els 1 0 (by decide) rfl rfl rfl rfl).pk (L' := [ow [(sV b1_2 0 1 1)] ([r1_1] : List Block_), blk b0_1 [(nV c_.params), (nV c_.regs), (sV b1_1 o1_1 c_.blocks.length c1_1)] 45, blk b0_2 [(nV 0), (nV 0), (.slice none 0 0)] 45, blk b0_3 [(nV c_.params), (nV c_.regs), v1_1] 45, ow [v1_1] xs1_1]) [1, 2, 3, 4, 5] rfl rfl
   refine tAk hm [1, 2, 3, 4] rfl fun hS => tO (gb fun ys1_1 hx1_4 => ?_)
   obtain ⟨h1_5, h1_5e⟩ := appM_some.1 hx1_4
   replace hm := (hm.both 4 0 (by decide) rfl rfl).pk (L' := [blk b0_1 [(nV c_.params), (nV c_.regs), (sV b1_1 o1_1 c_.blocks.length c1_1)] 45, blk b0_2 [(nV 0), (nV 0), (.slice none 0 0)] 45, blk b0_3 [(nV c_.params), (nV c_.regs), v1_1] 45, both (ow [v1_1] xs1_1) (ow [(sV b1_2 0 1 1)] ([r1_1] : List Block_))]) [1, 2, 3, 4] rfl rfl
   refine tf rfl rfl (fun a hf => e_appendD (xs := xs1_1) (ys := ([r1_1] : List Block_)) 3 et_43 hf hm rfl rfl rfl rfl h1_5) ?_
   rintro v1_9 w hm
   rw [h1_5e] at hm
   refine tAn rfl (tP rfl (fun w => yF fo_45_2 rfl) (tO (tf0 rfl rfl (fun a hf => e_store1 2 hf hm rfl sizeOf43 rfl rfl rfl (rep_one (hm.ow_rep 3 rfl)) rfl) ?_)))
   rintro _ w hm
   exact tAn rfl (tE (gR (gM rfl (gP (by omega) (by omega) rfl (gA rfl (gE (gZe fun a hf => ⟨v1_9, hf.sb rfl, hm.pk [0, 1, 2, 3] rfl rfl⟩)))))))
  repeat clear hm
  rintro i0_1 xs0_1 a w ⟨v0_1, hf, hm⟩ hi0_3 hi0_4
  refine gv hf (gS (gS (gR (gM rfl (gF fo_45_2 rfl (gL hm 0 isAgg43 rfl ?_))))))
  obtain ⟨p0_1, c0_1, rfl, hl0_1⟩ := ro_slice h1
  exact gY (yV st_43 rfl) (gB rfl (gE (go _ 14 rfl (decide_eq_false (by omega)) (gcf rfl (gXt (gHh (gS (gR (gY (yn (hm.blk_at 2 rfl) isAgg45 sizeOf45 rfl) (gSN hm 1 sizeOf45 (one_cons rfl (one_cons rfl (one_cons (rep_one (hm.ow_rep 3 rfl)) one_nil))) rfl fun w hm => gE (gRt (grc 1 results49 hm rfl isAgg45 sizeOf45 ⟨v0_1, rfl, hm.pk [3] rfl rfl⟩))))))))))))

theorem spec_l7CopyUnit_ok (w0 : World) (u : Unit_) (v1 : Value) (h1 : GT.rep (hp w0) [v1] u.codes) :
    ConM Tryd.prog 27 [(.agg #[v1])] w0 (spec_l7CopyUnit u) fun r v w' => ∃ (x1 : Value), v = (.agg #[x1]) ∧ Mem w0 (hp w0) w' [ow [x1] r.codes] := by
  unfold spec_l7CopyUnit
  refine gcon func27 rfl fun r => ?_
  have hm := Mem.start w0
  refine gS (gR (gBx hm rfl fun b0_1 w hm => gAl hm zeroValue25 rfl fun b0_2 w hm => gE (gS (gR (gY (yG rfl (y_build (vs := []) (cs := #[(.slice none 0 0)]) rfl rfl (by kernel_rfl))) (gAl hm zeroValue25 rfl fun b0_3 w hm => gSN hm 0 sizeOf25 (one_cons rfl one_nil) rfl fun w hm => gE (gS (gS (gR (gA rfl (gE (gBk ?_))))))))))))
  replace hm := hm.nilow (α := Code_)
  refine gNg (fun i1_1 xs1_1 a w => ∃ (v1_1 : Value), St 25 [(1, (pV b0_1)), (2, (pV b0_2)), (3, (pV b0_3)), (4, (nV i1_1))] w0 (hp w0) [blk b0_1 [v1] 25, blk b0_2 [(.slice none 0 0)] 25, blk b0_3 [v1_1] 25, ow [v1_1] xs1_1] a w) (fun a hf => ⟨(.slice none 0 0), hf.sb rfl, hm.pk [3, 2, 1, 0] rfl rfl⟩) ?_ ?_
  ·
   repeat clear hm
   rintro _ _ i1_1 xs1_1 a w ⟨v1_1, hf, hm⟩ hi0_1 hi0_2 q0_1 _
   refine gv hf (gS (gS (gR (gM rfl (gF fo_25_0 rfl (gL hm 0 isAgg23 rfl ?_))))))
   obtain ⟨p1_1, c1_1, rfl, hl1_1⟩ := ro_slice h1
   refine gY (yV st_23 rfl) (gB rfl (gE (go _ 10 rfl (decide_eq_true (by omega)) (gct rfl (gSk (gS (gBk (gW (.p 0 (.p 2 (.p 4 (.q 1 (.e 3 (.p 5 (.e 6 (.e 7 (.e 8 (.e 9 (.p 10 (.e 11 .fin .nil)) .nil) .nil) .nil) .nil)) .nil))))) [3, 6, 7, 8] [0, 2, 4, 5, 10] hm [0, 1, 2, 3] [blk b0_1 [(.slice p1_1 u.codes.length c1_1)] 25, blk b0_2 [(.slice none 0 0)] 25, blk b0_3 [v1_1] 25, ow [v1_1] xs1_1] rfl mxo (by kernel_rfl) (fun _ _ _ h => h.2) fun w hm hS => tP rfl (fun w => yF fo_25_0 rfl) (tP rfl (fun w => yF fo_25_0 rfl) (tP rfl (fun w => yM rfl) (tQ rfl hS (fun w hm => yL hm 2 isAgg23 rfl) (tO (tY rfl (yL hm 0 isAgg23 rfl) (tAs hS (gg fun x1_1 h1_1 hx1_2 => ?_)))))))))))))))
   obtain ⟨b1_1, o1_1, c1_2, he⟩ := idx_form' h1 hx1_2
   simp only [Value.slice.injEq, Option.some.injEq] at he; obtain ⟨rfl, _, rfl⟩ := he
   obtain ⟨v1_2, hc1_1, h1_2⟩ := rk_Code_ h1 hx1_2
   refine tP rfl (fun w => yI st_23 h1_1 (idx_lt hx1_2) rfl) (tO (tY rfl (yn (hc1_1.mono hm.lez) isAgg45 sizeOf45 rfl) (tAs hS (tO (gb fun r1_1 hx1_3 => tf rfl rfl (fun a hf => e_call hf rfl call49 rfl (spec_l7Copy_ok _ x1_1 v1_2 (hm.now h1_2) _ hx1_3)) ?_)))))
   rintro v1_3 w ⟨v1_4, rfl, hB⟩
   replace hm := hm.give hB; clear hB
   refine tAk hm [1, 2, 3, 4] rfl fun hS => tO (tf rfl rfl (fun a hf => e_build (vs := #[(0, (.agg #[(nV r1_1.params), (nV r1_1.regs), v1_4]))]) (cs := [(nV r1_1.params), (nV r1_1.regs), v1_4]) et_23 hf hm rfl rfl (by kernel_rfl) rfl rfl) ?_)
   rintro _ w ⟨b1_2, rfl, hm⟩
   replace hm := hm.els_nil (α := Code_)
   replace hm : Mem w0 (hp w0) _ [els [] ([] : List Code_), blk b1_2 [(nV r1_1.params), (nV r1_1.regs), v1_4] 45, ow [(nV r1_1.params), (nV r1_1.regs), v1_4] (r1_1 : Code_), blk b0_1 [(sV b1_1 o1_1 u.codes.length c1_1)] 25, blk b0_2 [(.slice none 0 0)] 25, blk b0_3 [v1_1] 25, ow [v1_1] xs1_1] := mk_Code_ r1_1.params r1_1.regs hm 2 rfl
   replace hm := (hm.els_cons 0 2 (by decide) rfl rfl).pk (L' := [els [(nV r1_1.params), (nV r1_1.regs), v1_4] ([r1_1] : List Code_), blk b1_2 [(nV r1_1.params), (nV r1_1.regs), v1_4] 45, blk b0_1 [(sV b1_1 o1_1 u.codes.length c1_1)] 25, blk b0_2 [(.slice none 0 0)] 25, blk b0_3 [v1_1] 25, ow [v1_1] xs1_1]) [0, 1, 3, 4, 5, 6] rfl rfl
   replace hm := (hm.lit_els 1 0 (by decide) rfl rfl rfl rfl).pk (L' := [ow [(sV b1_2 0 1 1)] ([r1_1] : List Code_), blk b0_1 [(sV b1_1 o1_1 u.codes.length c1_1)] 25, blk b0_2 [(.slice none 0 0)] 25, blk b0_3 [v1_1] 25, ow [v1_1] xs1_1]) [1, 2, 3, 4, 5] rfl rfl
   refine tAk hm [1, 2, 3, 4] rfl fun hS => tO (gb fun ys1_1 hx1_4 => ?_)
   obtain ⟨h1_3, h1_3e⟩ := appM_some.1 hx1_4
   replace hm := (hm.both 4 0 (by decide) rfl rfl).pk (L' := [blk b0_1 [(sV b1_1 o1_1 u.codes.length c1_1)] 25, blk b0_2 [(.slice none 0 0)] 25, blk b0_3 [v1_1] 25, both (ow [v1_1] xs1_1) (ow [(sV b1_2 0 1 1)] ([r1_1] : List Code_))]) [1, 2, 3, 4] rfl rfl
   refine tf rfl rfl (fun a hf => e_appendD (xs := xs1_1) (ys := ([r1_1] : List Code_)) 3 et_23 hf hm rfl rfl rfl rfl h1_3) ?_
   rintro v1_5 w hm
   rw [h1_3e] at hm
   refine tAn rfl (tP rfl (fun w => yF fo_25_0 rfl) (tO (tf0 rfl rfl (fun a hf => e_store1 2 hf hm rfl sizeOf23 rfl rfl rfl (rep_one (hm.ow_rep 3 rfl)) rfl) ?_)))
   rintro _ w hm
   exact tAn rfl (tE (gR (gM rfl (gP (by omega) (by omega) rfl (gA rfl (gE (gZe fun a hf => ⟨v1_5, hf.sb rfl, hm.pk [0, 1, 2, 3] rfl rfl⟩)))))))
  repeat clear hm
  rintro i0_1 xs0_1 a w ⟨v0_1, hf, hm⟩ hi0_3 hi0_4
  refine gv hf (gS (gS (gR (gM rfl (gF fo_25_0 rfl (gL hm 0 isAgg23 rfl ?_))))))
  obtain ⟨p0_1, c0_1, rfl, hl0_1⟩ := ro_slice h1
  exact gY (yV st_23 rfl) (gB rfl (gE (go _ 10 rfl (decide_eq_false (by omega)) (gcf rfl (gXt (gHh (gS (gR (gY (yn (hm.blk_at 2 rfl) isAgg25 sizeOf25 rfl) (gSN hm 1 sizeOf25 (one_cons (rep_one (hm.ow_rep 3 rfl)) one_nil) rfl fun w hm => gE (gRt (grc 1 results27 hm rfl isAgg25 sizeOf25 ⟨v0_1, rfl, hm.pk [3] rfl rfl⟩))))))))))))

end Go.Proofs.YtjbcoilagfdidaaDoor
