/- A part of the proof of FnExactReachedMinsSaid. -/
import Derived.Test.YthfeimbpjeijpaaRmModels
import Derived.Test.YthfeimbpjeijpaaChecked
import Derived.Test.YthfeimbpjeijpaaRmLays
import Derived.Test.YthfeimbpjeijpaaWkAd
namespace Go.Proofs.Ythfeimbpjeijpaa
open Go Go.Wk Go.RowKit
set_option maxRecDepth 4000
set_option maxHeartbeats 4000000

open Try
theorem mxo : Try.prog.follows .mixedOrders = true := by kernel_rfl
theorem fo_24_0 : FieldOff Try.prog 24 0 0 := by have h := FieldOff.mk (k := 0) underlying24 rfl sizeOf3; exact h
theorem fo_24_1 : FieldOff Try.prog 24 1 1 := by have h := FieldOff.mk (k := 1) underlying24 rfl sizeOf3; exact h
theorem fo_24_2 : FieldOff Try.prog 24 2 2 := by have h := FieldOff.mk (k := 2) underlying24 rfl sizeOf22; exact h
theorem fo_30_0 : FieldOff Try.prog 30 0 0 := by have h := FieldOff.mk (k := 0) underlying30 rfl sizeOf3; exact h
theorem fo_30_1 : FieldOff Try.prog 30 1 1 := by have h := FieldOff.mk (k := 1) underlying30 rfl sizeOf3; exact h
theorem fo_30_2 : FieldOff Try.prog 30 2 2 := by have h := FieldOff.mk (k := 2) underlying30 rfl sizeOf28; exact h
theorem fo_60_0 : FieldOff Try.prog 60 0 0 := by have h := FieldOff.mk (k := 0) underlying60 rfl sizeOf3; exact h
theorem fo_60_1 : FieldOff Try.prog 60 1 1 := by have h := FieldOff.mk (k := 1) underlying60 rfl sizeOf3; exact h
theorem fo_60_2 : FieldOff Try.prog 60 2 2 := by have h := FieldOff.mk (k := 2) underlying60 rfl sizeOf3; exact h
theorem fo_60_3 : FieldOff Try.prog 60 3 3 := by have h := FieldOff.mk (k := 3) underlying60 rfl sizeOf3; exact h
theorem fo_60_4 : FieldOff Try.prog 60 4 4 := by have h := FieldOff.mk (k := 4) underlying60 rfl sizeOf3; exact h
theorem fo_89_0 : FieldOff Try.prog 89 0 0 := by have h := FieldOff.mk (k := 0) underlying89 rfl sizeOf3; exact h
theorem fo_89_1 : FieldOff Try.prog 89 1 1 := by have h := FieldOff.mk (k := 1) underlying89 rfl sizeOf3; exact h
theorem fo_89_2 : FieldOff Try.prog 89 2 2 := by have h := FieldOff.mk (k := 2) underlying89 rfl sizeOf3; exact h
theorem fo_89_3 : FieldOff Try.prog 89 3 3 := by have h := FieldOff.mk (k := 3) underlying89 rfl sizeOf3; exact h
theorem fo_89_4 : FieldOff Try.prog 89 4 4 := by have h := FieldOff.mk (k := 4) underlying89 rfl sizeOf3; exact h
theorem st_22 : SliceTy Try.prog 22 89 5 := ⟨underlying22, sizeOf89⟩
theorem st_26 : SliceTy Try.prog 26 3 1 := ⟨underlying26, sizeOf3⟩
theorem st_28 : SliceTy Try.prog 28 60 5 := ⟨underlying28, sizeOf60⟩
theorem st_55 : SliceTy Try.prog 55 4 1 := ⟨underlying55, sizeOf4⟩
theorem et_26 : ElemTy Try.prog 26 3 1 (.int .i64 (0)) := ⟨underlying26, ⟨_, (by kernel_rfl : Try.prog.info? 3 = some t3), rfl, by decide, rfl⟩, rfl, by decide⟩
theorem et_28 : ElemTy Try.prog 28 60 5 (.agg #[(.int .i64 (0)), (.int .i64 (0)), (.int .i64 (0)), (.int .i64 (0)), (.int .i64 (0))]) := ⟨underlying28, ⟨_, (by kernel_rfl : Try.prog.info? 60 = some t60), rfl, by decide, rfl⟩, rfl, by decide⟩
theorem et_55 : ElemTy Try.prog 55 4 1 (.bool (false)) := ⟨underlying55, ⟨_, (by kernel_rfl : Try.prog.info? 4 = some t4), rfl, by decide, rfl⟩, rfl, by decide⟩

theorem laws_szMinsS_ok (w0 : World) (a_ : List Mins) (v1 : Value) (h1 : GT.rep (hp w0) [v1] a_) (left : Int) :
    ConM Try.prog 21 [v1, (nV left)] w0 (laws_szMinsS a_ left) fun r v w' => v = (nV r) ∧ Below w0.heap.size w0 w' := by
  unfold laws_szMinsS
  refine gcon func21 rfl fun r => ?_
  have hm := Mem.start w0
  refine gS (gR (gA rfl (gE (gS (gR (gM rfl (gM rfl ?_)))))))
  obtain ⟨p0_1, c0_1, rfl, hl0_1⟩ := ro_slice h1
  refine gY (yV st_22 rfl) (gB rfl (gA rfl (gE (gS (gS (gR (gM rfl (gB rfl (gE (gsd 10 rfl (fun h0_1 => ?_) fun h0_1 => ?_))))))))))
  ·
   exact gct rfl (gS (gR (gA rfl (gE (gRt (gr1 results21 rfl ⟨rfl, hm.below⟩))))))
  exact gcf rfl (gSk (gS (gR (gM rfl (gA rfl (gE (gRt (gr1 results21 rfl ⟨rfl, hm.below⟩))))))))

theorem laws_szMfn_ok (w0 : World) (a_ : Mfn) (v1 : Value) (h1 : GT.rep (hp w0) [v1] a_.ins) (left : Int) :
    ConM Try.prog 5 [(.agg #[(nV a_.params), (nV a_.slots), v1]), (nV left)] w0 (laws_szMfn a_ left) fun r v w' => v = (nV r) ∧ Below w0.heap.size w0 w' := by
  unfold laws_szMfn
  refine gcon func5 rfl fun r => ?_
  have hm := Mem.start w0
  refine gS (gR (gBx hm rfl fun b0_1 w hm => gA rfl (gE (gS (gR (gF fo_24_2 rfl (gL hm 0 isAgg22 rfl (gM rfl (gC hm rfl call21 (laws_szMinsS_ok _ a_.ins v1 (hm.now h1) left) fun r0_1 hx0_1 w hm => gA rfl (gE (gS (gS (gR (gM rfl (gB rfl (gE (gsd 10 rfl (fun h0_1 => ?_) fun h0_1 => ?_)))))))))))))))))
  ·
   exact gct rfl (gS (gR (gA rfl (gE (gRt (gr1 results5 rfl ⟨rfl, hm.below⟩))))))
  exact gcf rfl (gSk (gS (gR (gM rfl (gA rfl (gE (gRt (gr1 results5 rfl ⟨rfl, hm.below⟩))))))))

theorem laws_toMins_ok (w0 : World) (a_ : Mins) :
    ConM Try.prog 49 [(.agg #[(nV a_.op), (nV a_.a_), (nV a_.b), (nV a_.c), (nV a_.n_)])] w0 (laws_toMins a_) fun r v w' => v = (.agg #[(nV r.op), (nV r.a_), (nV r.b), (nV r.c), (nV r.n_)]) ∧ Below w0.heap.size w0 w' := by
  unfold laws_toMins
  refine gcon func49 rfl fun r => ?_
  have hm := Mem.start w0
  refine gS (gR (gBx hm rfl fun b0_1 w hm => gAl hm zeroValue60 rfl fun b0_2 w hm => gE (gS (gR (gAl hm zeroValue60 rfl fun b0_3 w hm => gE (gS (gR (gF fo_89_0 rfl (gL hm 2 isAgg3 rfl (gF fo_60_0 rfl (gS1 hm 0 sizeOf3 rfl rfl fun w hm => gE (gS (gR (gF fo_89_1 rfl (gL hm 2 isAgg3 rfl (gF fo_60_1 rfl (gS1 hm 0 sizeOf3 rfl rfl fun w hm => gE (gS (gR (gF fo_89_2 rfl (gL hm 2 isAgg3 rfl (gF fo_60_2 rfl (gS1 hm 0 sizeOf3 rfl rfl fun w hm => gE (gS ?_))))))))))))))))))))))))
  exact gR (gF fo_89_3 rfl (gL hm 2 isAgg3 rfl (gF fo_60_3 rfl (gS1 hm 0 sizeOf3 rfl rfl fun w hm => gE (gS (gR (gF fo_89_4 rfl (gL hm 2 isAgg3 rfl (gF fo_60_4 rfl (gS1 hm 0 sizeOf3 rfl rfl fun w hm => gE (gS (gR (gY (yn (hm.blk_at 0 rfl) isAgg60 sizeOf60 rfl) (gSN hm 1 sizeOf60 (one_cons rfl (one_cons rfl (one_cons rfl (one_cons rfl (one_cons rfl one_nil))))) rfl fun w hm => gE (gRt (grc 1 results49 hm rfl isAgg60 sizeOf60 ⟨rfl, hm.below⟩))))))))))))))))

theorem laws_toMinsS_ok (w0 : World) (a_ : List Mins) (v1 : Value) (h1 : GT.rep (hp w0) [v1] a_) :
    ConM Try.prog 25 [v1] w0 (laws_toMinsS a_) fun r v w' => ∃ (x1 : Value), v = x1 ∧ Mem w0 (hp w0) w' [ow [x1] r] := by
  unfold laws_toMinsS
  refine gcon func25 rfl fun r => ?_
  have hm := Mem.start w0
  refine gS (gR (gA rfl (gE (gS (gR (gM rfl ?_))))))
  obtain ⟨p0_1, c0_1, rfl, hl0_1⟩ := ro_slice h1
  refine gY (yV st_22 rfl) (gb fun ys0_1 hx0_1 => ?_)
  obtain ⟨⟨h0_11, h0_12⟩, h0_1e⟩ := makeM_some.1 hx0_1
  refine gf rfl (fun a hf => e_make (x0 := ((⟨0, 0, 0, 0, 0⟩ : Mins) : Mins)) et_28 (fun _ => (Flat.own_iff.2 rfl)) hf hm rfl rfl rfl h0_11 (Int.le_refl _) h0_12) ?_
  rintro v0_1 w hm
  rw [h0_1e] at hm
  have h0_1l : (ys0_1.length : Int) = (a_.length : Int) := by rw [← h0_1e]; simp only [List.length_replicate]; omega
  refine gA rfl (gE (gS (gS (gR (gA rfl (gE ?_))))))
  obtain ⟨p0_2, c0_2, rfl, hl0_2⟩ := ro_slice (hm.ow_rep 0 rfl)
  refine gBk (gNf hm (fun i1_1 xs1_1 => [(0, (.slice p0_1 a_.length c0_1)), (3, (.slice p0_2 ys0_1.length c0_2)), (4, (nV i1_1))]) (fun i1_1 xs1_1 => [ow [(.slice p0_2 ys0_1.length c0_2)] xs1_1]) [0] rfl ?_ ?_)
  ·
   repeat clear hm
   intro _ _ i1_1 xs1_1 w hm hi0_1 hi0_2 q0_1 _
   refine gS (gS (gR (gM rfl (gM rfl (gY (yV st_22 rfl) (gB rfl (gE (go _ 11 rfl (decide_eq_true (by omega)) (gct rfl (gSk (gS (gBk (gR (gM rfl (gM rfl (gM rfl (gM rfl (gg fun x1_1 h1_1 hx1_2 => ?_))))))))))))))))))
   obtain ⟨b1_1, o1_1, c1_1, he⟩ := idx_form h1 hx1_2
   simp only [Value.slice.injEq, Option.some.injEq] at he; obtain ⟨rfl, _, rfl⟩ := he
   refine gI st_22 h1_1 (idx_lt hx1_2) rfl (gY (yn (flat_cells (cs := [(nV x1_1.op), (nV x1_1.a_), (nV x1_1.b), (nV x1_1.c), (nV x1_1.n_)]) (hm.now h1) hx1_2 rfl) isAgg89 sizeOf89 rfl) (gC hm rfl call49 (laws_toMins_ok _ x1_1) fun r1_1 hx1_3 w hm => gg fun x1_2 h1_2 hx1_5 => ?_))
   obtain ⟨b1_2, o1_2, c1_2, he⟩ := idx_form (hm.ow_rep 0 rfl) hx1_5
   simp only [Value.slice.injEq, Option.some.injEq] at he; obtain ⟨rfl, _, rfl⟩ := he
   have hL1_1 := rep_slice_len (hm.ow_rep 0 rfl)
   refine gI st_28 h1_2 (idx_lt2 hx1_5 hL1_1) rfl (gf0 rfl (fun a hf => e_setElem (x1 := r1_1) (j := 0) (vs := [(nV r1_1.op), (nV r1_1.a_), (nV r1_1.b), (nV r1_1.c), (nV r1_1.n_)]) 0 hf hm rfl hx1_5 rfl sizeOf60 rfl rfl rfl (one_cons rfl (one_cons rfl (one_cons rfl (one_cons rfl (one_cons rfl one_nil))))) rfl rfl) ?_)
   rintro _ w hm
   have hx1_6 := List.getElem?_set_self (a := r1_1) (idx_lt hx1_5)
   exact gE (gR (gM rfl (gP (by omega) (by omega) rfl (gA rfl (gE (gze hm [0] rfl))))))
  repeat clear hm
  intro i0_1 xs0_1 w hm hi0_3 hi0_4
  exact gS (gS (gR (gM rfl (gM rfl (gY (yV st_22 rfl) (gB rfl (gE (go _ 11 rfl (decide_eq_false (by omega)) (gcf rfl (gXt (gHh (gS (gR (gM rfl (gA rfl (gE (gRt (gr1 results25 rfl ⟨(.slice p0_2 ys0_1.length c0_2), rfl, hm.pk [0] rfl rfl⟩))))))))))))))))))

theorem laws_toMfn_ok (w0 : World) (a_ : Mfn) (v1 : Value) (h1 : GT.rep (hp w0) [v1] a_.ins) :
    ConM Try.prog 7 [(.agg #[(nV a_.params), (nV a_.slots), v1])] w0 (laws_toMfn a_) fun r v w' => ∃ (x1 : Value), v = (.agg #[(nV r.params), (nV r.slots), x1]) ∧ Mem w0 (hp w0) w' [ow [x1] r.ins] := by
  unfold laws_toMfn
  refine gcon func7 rfl fun r => ?_
  have hm := Mem.start w0
  refine gS (gR (gBx hm rfl fun b0_1 w hm => gAl hm zeroValue30 rfl fun b0_2 w hm => gE (gS (gR (gAl hm zeroValue30 rfl fun b0_3 w hm => gE (gS (gR (gF fo_24_0 rfl (gL hm 2 isAgg3 rfl (gF fo_30_0 rfl (gS1 hm 0 sizeOf3 rfl rfl fun w hm => gE (gS (gR (gF fo_24_1 rfl (gL hm 2 isAgg3 rfl (gF fo_30_1 rfl (gS1 hm 0 sizeOf3 rfl rfl fun w hm => gE (gS (gR (gF fo_24_2 rfl (gL hm 2 isAgg22 rfl (gCg rfl call25 (laws_toMinsS_ok _ a_.ins v1 (hm.now h1)) ?_))))))))))))))))))))))
  rintro r0_1 hx0_1 v0_1 w ⟨_, rfl, hB⟩
  replace hm := hm.give hB; clear hB
  exact gF fo_30_2 rfl (gS1 hm 1 sizeOf28 (rep_one (hm.ow_rep 0 rfl)) rfl fun w hm => gE (gS (gR (gY (yn (hm.blk_at 1 rfl) isAgg30 sizeOf30 rfl) (gSN hm 2 sizeOf30 (one_cons rfl (one_cons rfl (one_cons (rep_one (hm.ow_rep 0 rfl)) one_nil))) rfl fun w hm => gE (gRt (grc 2 results7 hm rfl isAgg30 sizeOf30 ⟨v0_1, rfl, hm.pk [0] rfl rfl⟩)))))))

theorem spec_l24Jumps_ok (w0 : World) (x_ : Mins) :
    ConM Try.prog 48 [(.agg #[(nV x_.op), (nV x_.a_), (nV x_.b), (nV x_.c), (nV x_.n_)])] w0 (spec_l24Jumps x_) fun r v w' => v = (.bool (r)) ∧ Below w0.heap.size w0 w' := by
  unfold spec_l24Jumps
  refine gcon func48 rfl fun r => ?_
  have hm := Mem.start w0
  refine gS (gR (gBx hm rfl fun b0_1 w hm => gA rfl (gE (gS (gJ hm (fun s0_1 => [(2, (.bool (s0_1)))]) (fun s0_1 => []) (fun s0_1 => ?_) ?_)))))
  ·
   refine gR (gF fo_60_0 rfl (gL hm 0 isAgg3 rfl (gB rfl (gM rfl (gsd 6 rfl (fun h1_1 => ?_) fun h1_1 => ?_)))))
   ·
    exact gO rfl (gO rfl (gO rfl (gKt rfl (gA rfl (gE (gz hm [] rfl))))))
   exact gF fo_60_0 rfl (gL hm 0 isAgg3 rfl (gB rfl (gKf rfl (gA rfl (gE (gz hm [] rfl))))))
  repeat clear hm
  intro s0_1 w hm
  exact gRt (gr1 results48 rfl ⟨rfl, hm.below⟩)

theorem spec_l1In_ok (w0 : World) (n_ : Int) (low : Int) (high : Int) :
    ConM Try.prog 41 [(nV n_), (nV low), (nV high)] w0 (spec_l1In n_ low high) fun r v w' => v = (.bool (r)) ∧ Below w0.heap.size w0 w' := by
  unfold spec_l1In
  refine gcon func41 rfl fun r => ?_
  have hm := Mem.start w0
  refine gS (gR (gA rfl (gE (gS (gJ hm (fun s0_1 => [(6, (.bool (s0_1)))]) (fun s0_1 => []) (fun s0_1 => ?_) ?_)))))
  ·
   refine gR (gM rfl (gM rfl (gB rfl (gM rfl (gsd 10 rfl (fun h1_1 => ?_) fun h1_1 => ?_)))))
   ·
    exact gM rfl (gM rfl (gB rfl (gKt rfl (gA rfl (gE (gz hm [] rfl))))))
   exact gO rfl (gO rfl (gO rfl (gKf rfl (gA rfl (gE (gz hm [] rfl))))))
  repeat clear hm
  intro s0_1 w hm
  exact gRt (gr1 results41 rfl ⟨rfl, hm.below⟩)

theorem spec_l24Fits_ok (w0 : World) (f : Mfn) (v1 : Value) (h1 : GT.rep (hp w0) [v1] f.ins) :
    ConM Try.prog 22 [(.agg #[(nV f.params), (nV f.slots), v1])] w0 (spec_l24Fits f) fun r v w' => v = (.bool (r)) ∧ Below w0.heap.size w0 w' := by
  unfold spec_l24Fits
  refine gcon func22 rfl fun r => ?_
  have hm := Mem.start w0
  refine gS (gR (gBx hm rfl fun b0_1 w hm => gA rfl (gE (gS (gS (gR (gA rfl (gE (gBk (gNf hm (fun i1_1 xs1_1 => [(1, (pV b0_1)), (3, (nV i1_1))]) (fun i1_1 xs1_1 => [blk b0_1 [(nV f.params), (nV f.slots), v1] 30]) [0] rfl ?_ ?_))))))))))
  ·
   repeat clear hm
   intro r0_1 hq0_1 i1_1 xs1_1 w hm hi0_1 hi0_2 q0_1 ho0_1
   refine gS (gS (gR (gM rfl (gF fo_30_2 rfl (gL hm 0 isAgg28 rfl ?_)))))
   obtain ⟨p1_1, c1_1, rfl, hl1_1⟩ := ro_slice h1
   refine gY (yV st_28 rfl) (gB rfl (gE (go _ 9 rfl (decide_eq_true (by omega)) (gct rfl (gSk (gS (gBk (gS (gJ hm (fun s1_1 => [(1, (pV b0_1)), (3, (nV i1_1)), (31, (.bool (s1_1)))]) (fun s1_1 => [blk b0_1 [(nV f.params), (nV f.slots), (.slice p1_1 f.ins.length c1_1)] 30]) (fun s1_1 => ?_) ?_)))))))))
   ·
    refine gW (.p 0 (.p 2 (.e 1 (.p 3 (.e 4 (.e 5 (.p 6 (.p 7 (.p 9 (.p 13 (.q 8 (.p 10 (.p 11 (.q 12 (.e 14 (.p 15 (.p 16 (.e 17 (.p 18 (.p 19 .fin)) .nil))) .nil))))))))) .nil) .nil)) .nil))) [14] [0, 2, 3, 6, 7, 9, 10, 11, 13, 15, 16, 18, 19] hm [0] [blk b0_1 [(nV f.params), (nV f.slots), (.slice p1_1 f.ins.length c1_1)] 30] rfl mxo (by kernel_rfl) (fun _ _ _ h => h.2) fun w hm hS => tP rfl (fun w => yF fo_30_2 rfl) (tP rfl (fun w => yM rfl) (tO (tY rfl (yL hm 0 isAgg28 rfl) (tAn rfl (gg fun x2_1 h2_1 hx2_2 => ?_)))))
    obtain ⟨b2_1, o2_1, c2_1, he⟩ := idx_form h1 hx2_2
    simp only [Value.slice.injEq, Option.some.injEq] at he; obtain ⟨rfl, _, rfl⟩ := he
    refine tP rfl (fun w => yI st_28 h2_1 (idx_lt hx2_2) rfl) (tO (tY rfl (yn (flat_cells (cs := [(nV x2_1.op), (nV x2_1.a_), (nV x2_1.b), (nV x2_1.c), (nV x2_1.n_)]) (hm.now h1) hx2_2 rfl) isAgg60 sizeOf60 rfl) (tAn rfl (tO (gb fun r2_1 hx2_3 => tf rfl rfl (fun a hf => e_call hf rfl call48 rfl (spec_l24Jumps_ok _ x2_1 _ hx2_3)) ?_)))))
    rintro v2_1 w ⟨rfl, hB⟩
    replace hm := hm.below' hB; clear hB
    refine tAk hm [0] rfl fun hS => tP rfl (fun w => yM rfl) (gs 18 rfl (fun h2_2 => ?_) fun h2_2 => ?_)
    ·
     refine tP rfl (fun w => yF fo_30_2 rfl) (tP rfl (fun w => yM rfl) (tP rfl (fun w => yF fo_30_2 rfl) (tQ rfl hS (fun w hm => yL hm 0 isAgg28 rfl) (tP rfl (fun w => yI st_28 h2_1 (idx_lt hx2_2) rfl) (tP rfl (fun w => yF fo_60_4 rfl) (tQ rfl hS (fun w hm => yl isAgg3 ((flat_cells (cs := [(nV x2_1.op), (nV x2_1.a_), (nV x2_1.b), (nV x2_1.c), (nV x2_1.n_)]) (hm.now h1) hx2_2 rfl).cell (j := 4) rfl) rfl) (tO (tY rfl (yL hm 0 isAgg28 rfl) (tAs hS (tP rfl (fun w => yV st_28 rfl) (tP rfl (fun w => yS (by omega) (by omega) rfl) (tO (gb fun r2_2 hx2_4 => tf rfl rfl (fun a hf => e_call hf rfl call41 rfl (spec_l1In_ok _ x2_1.n_ 0 (((f.ins.length : Int)) - 1) _ hx2_4)) ?_)))))))))))))
     rintro v2_2 w ⟨rfl, hB⟩
     replace hm := hm.below' hB; clear hB
     exact tAn rfl (tP rfl (fun w => yN rfl) (tP rfl (fun w => yKt rfl) (tE (gz hm [0] rfl))))
    exact tPo rfl rfl (tPo rfl rfl (tPo rfl rfl (tQo rfl hS rfl (tPo rfl rfl (tPo rfl rfl (tQo rfl hS rfl (tO (tEo rfl rfl (tAs hS (tPo rfl rfl (tPo rfl rfl (tO (tEo rfl rfl (tAn rfl (tPo rfl rfl (tP rfl (fun w => yKf rfl) (tE (gz hm [0] rfl))))))))))))))))))
   repeat clear hm
   intro s1_1 w hm
   refine gs 31 rfl (fun h1_1 => ?_) fun h1_1 => ?_
   ·
    exact gct rfl (gS (gR (gA rfl (gE (gRt (gLr ho0_1 hq0_1 (gr1 results22 rfl ⟨rfl, hm.below⟩)))))))
   exact gcf rfl (gSk (gR (gM rfl (gP (by omega) (by omega) rfl (gA rfl (gE (gze hm [0] rfl)))))))
  repeat clear hm
  intro i0_1 xs0_1 w hm hi0_3 hi0_4
  refine gS (gS (gR (gM rfl (gF fo_30_2 rfl (gL hm 0 isAgg28 rfl ?_)))))
  obtain ⟨p0_1, c0_1, rfl, hl0_1⟩ := ro_slice h1
  refine gY (yV st_28 rfl) (gB rfl (gE (go _ 9 rfl (decide_eq_false (by omega)) (gcf rfl (gXt (gHh (gS (gS (gR (gF fo_30_2 rfl (gL hm 0 isAgg28 rfl (gY (yV st_28 rfl) (gB rfl (gE (gsd 35 rfl (fun h0_1 => ?_) fun h0_1 => ?_)))))))))))))))
  ·
   exact gct rfl (gS (gR (gA rfl (gE (gRt (gr1 results22 rfl ⟨rfl, hm.below⟩))))))
  refine gcf rfl (gSk (gS (gR (gF fo_30_2 rfl (gL hm 0 isAgg28 rfl (gF fo_30_2 rfl (gL hm 0 isAgg28 rfl (gY (yV st_28 rfl) (gY (yS (by omega) (by omega) rfl) (gg fun x0_1 h0_2 hx0_2 => ?_))))))))))
  obtain ⟨b0_2, o0_1, c0_2, he⟩ := idx_form h1 hx0_2
  simp only [Value.slice.injEq, Option.some.injEq] at he; obtain ⟨rfl, _, rfl⟩ := he
  refine gI st_28 h0_2 (idx_lt hx0_2) rfl (gF fo_60_0 rfl (gY (yl isAgg3 ((flat_cells (cs := [(nV x0_1.op), (nV x0_1.a_), (nV x0_1.b), (nV x0_1.c), (nV x0_1.n_)]) (hm.now h1) hx0_2 rfl).cell (j := 0) rfl) rfl) (gA rfl (gE (gS (gJ hm (fun s0_1 => [(2, (.bool (s0_1)))]) (fun s0_1 => []) (fun s0_1 => ?_) ?_))))))
  ·
   refine gR (gM rfl (gB rfl (gM rfl (gsd 47 rfl (fun h1_2 => ?_) fun h1_2 => ?_))))
   ·
    exact gO rfl (gO rfl (gKt rfl (gA rfl (gE (gz hm [] rfl)))))
   exact gM rfl (gB rfl (gKf rfl (gA rfl (gE (gz hm [] rfl)))))
  repeat clear hm
  intro s0_1 w hm
  exact gRt (gr1 results22 rfl ⟨rfl, hm.below⟩)

theorem spec_l24Reached_ok (w0 : World) (f : Mfn) (v1 : Value) (h1 : GT.rep (hp w0) [v1] f.ins) :
    ConM Try.prog 24 [(.agg #[(nV f.params), (nV f.slots), v1])] w0 (spec_l24Reached f) fun r v w' => ∃ (x1 : Value), v = x1 ∧ Mem w0 (hp w0) w' [ow [x1] r] := by
  unfold spec_l24Reached
  refine gcon func24 rfl fun r => ?_
  have hm := Mem.start w0
  refine gS (gR (gBx hm rfl fun b0_1 w hm => gA rfl (gE (gS (gR (gF fo_30_2 rfl (gL hm 0 isAgg28 rfl ?_)))))))
  obtain ⟨p0_1, c0_1, rfl, hl0_1⟩ := ro_slice h1
  refine gY (yV st_28 rfl) (gb fun ys0_1 hx0_1 => ?_)
  obtain ⟨⟨h0_11, h0_12⟩, h0_1e⟩ := makeM_some.1 hx0_1
  refine gf rfl (fun a hf => e_make (x0 := (false : Bool)) et_55 (fun _ => (Flat.own_iff.2 rfl)) hf hm rfl rfl rfl h0_11 (Int.le_refl _) h0_12) ?_
  rintro v0_1 w hm
  rw [h0_1e] at hm
  have h0_1l : (ys0_1.length : Int) = (f.ins.length : Int) := by rw [← h0_1e]; simp only [List.length_replicate]; omega
  refine gA rfl (gE (gS (gR (gf rfl (fun a hf => e_build (vs := #[(0, (nV 0))]) (cs := [(nV 0)]) et_26 hf hm rfl rfl (by kernel_rfl) rfl rfl) ?_))))
  rintro _ w ⟨b0_2, rfl, hm⟩
  replace hm := hm.lit (xs := ([0] : List Int)) 0 rfl rfl rfl rfl
  refine gA rfl (gE (gS ?_))
  obtain ⟨p0_2, c0_2, rfl, hl0_2⟩ := ro_slice (hm.ow_rep 1 rfl)
  refine gJ hm (fun s0_1 => [(3, (.slice p0_2 ys0_1.length c0_2))]) (fun s0_1 => [ow [(.slice p0_2 ys0_1.length c0_2)] s0_1]) (fun s0_1 => ?_) ?_
  ·
   refine gBk (gMg (fun xs2_1 a w => ∃ (v2_1 : Value), St 53 [(1, (pV b0_1)), (3, (.slice p0_2 ys0_1.length c0_2)), (4, v2_1)] w0 (hp w0) [blk b0_1 [(nV f.params), (nV f.slots), (.slice p0_1 f.ins.length c0_1)] 30, ow [(.slice p0_2 ys0_1.length c0_2)] xs2_1.1, ow [v2_1] xs2_1.2] a w) (fun a hf => ⟨(sV b0_2 0 1 1), hf.sb rfl, hm.pk [2, 1, 0] rfl rfl⟩) ?_)
   repeat clear hm
   rintro r1_1 hq1_1 xs2_1 a w ⟨v2_1, hf, hm⟩ q1_1 ho1_1
   refine gv hf (gS (gS (gR (gM rfl ?_))))
   obtain ⟨p2_1, c2_1, rfl, hl2_1⟩ := ro_slice (hm.ow_rep 2 rfl)
   refine gY (yV st_26 rfl) (gB rfl (gE (gsd 14 rfl (fun h2_1 => ?_) fun h2_1 => ?_)))
   ·
    refine gct rfl (gSk (gJg (fun s2_1 a w => ∃ (v2_2 : Value), St 53 [(1, (pV b0_1)), (3, (.slice p0_2 ys0_1.length c0_2)), (4, v2_2)] w0 (hp w0) [blk b0_1 [(nV f.params), (nV f.slots), (.slice p0_1 f.ins.length c0_1)] 30, ow [(.slice p0_2 ys0_1.length c0_2)] s2_1.1, ow [v2_2] s2_1.2] a w) (fun s2_1 => ?_) ?_))
    ·
     refine gBk (gS (gR (gM rfl (gg fun x3_1 h3_1 hx3_2 => ?_))))
     obtain ⟨b3_1, o3_1, c3_1, he⟩ := idx_form (hm.ow_rep 2 rfl) hx3_2
     simp only [Value.slice.injEq, Option.some.injEq] at he; obtain ⟨rfl, _, rfl⟩ := he
     refine gI st_26 h3_1 (idx_lt hx3_2) rfl (gY (yl isAgg3 ((flat_cells (cs := [(nV x3_1)]) (hm.ow_rep 2 rfl) hx3_2 rfl).cell (j := 0) rfl) rfl) (gA rfl (gE (gS (gR (gM rfl (gb fun x3_2 hx3_3 => ?_)))))))
     obtain ⟨h3_2, h3_2e⟩ := subM_some.1 hx3_3
     have hr3_1 := (hm.ow_rep 2 rfl)
     obtain ⟨v3_1, hy3_1⟩ : ∃ nv, nv = subV (GT.sz (Int)) (sV b3_1 o3_1 xs2_1.2.length c2_1) (1 : Int).toNat ((xs2_1.2.length : Int) : Int).toNat := ⟨_, rfl⟩
     refine gY (yG rfl (yl_eq hy3_1 (y_slcL (α := Int) st_26 hr3_1 rfl rfl rfl h3_2 _))) (gA rfl (gE (gS (gS (gR (gM rfl (gM rfl (gg fun x3_3 h3_4 hx3_5 => ?_))))))))
     obtain ⟨b3_2, o3_2, c3_2, he⟩ := idx_form (hm.ow_rep 1 rfl) hx3_5
     simp only [Value.slice.injEq, Option.some.injEq] at he; obtain ⟨rfl, _, rfl⟩ := he
     have hL3_1 := rep_slice_len (hm.ow_rep 1 rfl)
     refine gI st_55 h3_4 (idx_lt2 hx3_5 hL3_1) rfl (gY (yl isAgg4 ((flat_cells (cs := [(.bool (x3_3))]) (hm.ow_rep 1 rfl) hx3_5 rfl).cell (j := 0) rfl) rfl) (gE (gs 23 rfl (fun h3_5 => ?_) fun h3_5 => ?_)))
     ·
      refine gct rfl (gXt (gHh ?_))
      replace hm := hm.imp (c' := ow [v3_1] x3_2) 2 rfl (fun F h0 => by rw [hy3_1, ← h3_2e]; exact own_subV h0 (by omega) (by omega))
      exact gZ fun a hf => ⟨v3_1, hf.sb rfl, hm.pk [0, 1, 2] rfl rfl⟩
     refine gcf rfl (gSk (gS (gR (gM rfl (gM rfl ?_)))))
     have hL3_2 := rep_slice_len (hm.ow_rep 1 rfl)
     refine gI st_55 h3_4 (idx_lt2 hx3_5 hL3_2) rfl (gf0 rfl (fun a hf => e_setElem (x1 := true) (j := 0) (vs := [(.bool (true))]) 1 hf hm rfl hx3_5 rfl sizeOf4 rfl rfl rfl (one_cons rfl one_nil) rfl rfl) ?_)
     rintro _ w hm
     have hx3_6 := List.getElem?_set_self (a := true) (idx_lt hx3_5)
     refine gE (gS (gR (gF fo_30_2 rfl (gL hm 0 isAgg28 rfl (gM rfl (gg fun x3_4 h3_6 hx3_8 => ?_))))))
     obtain ⟨b3_3, o3_3, c3_3, he⟩ := idx_form h1 hx3_8
     simp only [Value.slice.injEq, Option.some.injEq] at he; obtain ⟨rfl, _, rfl⟩ := he
     refine gI st_28 h3_6 (idx_lt hx3_8) rfl (gY (yn (flat_cells (cs := [(nV x3_4.op), (nV x3_4.a_), (nV x3_4.b), (nV x3_4.c), (nV x3_4.n_)]) (hm.now h1) hx3_8 rfl) isAgg60 sizeOf60 rfl) (gAl hm zeroValue60 rfl fun b3_4 w hm => gSN hm 0 sizeOf60 (one_cons rfl (one_cons rfl (one_cons rfl (one_cons rfl (one_cons rfl one_nil))))) rfl fun w hm => gE (gS (gS (gR (gY (yn (hm.blk_at 0 rfl) isAgg60 sizeOf60 rfl) (gC hm rfl call48 (spec_l24Jumps_ok _ x3_4) fun r3_1 hx3_9 w hm => gE (gJg (fun s3_1 a w => ∃ (v3_3 : Value), St 53 [(1, (pV b0_1)), (3, (sV b3_2 o3_2 ys0_1.length c0_2)), (4, v3_3), (5, (nV x3_1)), (6, (pV b3_4))] w0 (hp w0) [blk b0_1 [(nV f.params), (nV f.slots), (sV b3_3 o3_3 f.ins.length c0_1)] 30, ow [(sV b3_2 o3_2 ys0_1.length c0_2)] (xs2_1.1.set (x3_1).toNat true), ow [v3_3] s3_1, blk b3_4 [(nV x3_4.op), (nV x3_4.a_), (nV x3_4.b), (nV x3_4.c), (nV x3_4.n_)] 60] a w) (fun s3_1 => ?_) ?_))))))))
     ·
      refine gs 33 rfl (fun h4_1 => ?_) fun h4_1 => ?_
      ·
       refine gct rfl (gR (gM rfl (gF fo_60_4 rfl (gL hm 0 isAgg3 rfl (gf rfl (fun a hf => e_build (vs := #[(0, (nV x3_4.n_))]) (cs := [(nV x3_4.n_)]) et_26 hf hm rfl rfl (by kernel_rfl) rfl rfl) ?_)))))
       rintro _ w ⟨b4_1, rfl, hm⟩
       replace hm := hm.lit (xs := ([x3_4.n_] : List Int)) 0 rfl rfl rfl rfl
       replace hm := hm.imp (c' := ow [v3_1] x3_2) 4 rfl (fun F h0 => by rw [hy3_1, ← h3_2e]; exact own_subV h0 (by omega) (by omega))
       refine gb fun ys4_1 hx4_1 => ?_
       obtain ⟨h4_2, h4_2e⟩ := appM_some.1 hx4_1
       refine gf rfl (fun a hf => e_append 4 et_26 hf hm rfl (hm.ow_rep 0 rfl) rfl rfl rfl h4_2) ?_
       rintro v4_1 w hm
       rw [h4_2e] at hm
       exact gA rfl (gE (gZ fun a hf => ⟨v4_1, hf.sb rfl, hm.pk [2, 3, 4, 1] rfl rfl⟩))
      refine gcf rfl (gSk ?_)
      replace hm := hm.imp (c' := ow [v3_1] x3_2) 3 rfl (fun F h0 => by rw [hy3_1, ← h3_2e]; exact own_subV h0 (by omega) (by omega))
      exact gZ fun a hf => ⟨v3_1, hf.sb rfl, hm.pk [1, 2, 3, 0] rfl rfl⟩
     repeat clear hm
     rintro s3_1 a w ⟨v3_3, hf, hm⟩
     refine gv hf (gS (gJ hm (fun s3_2 => [(1, (pV b0_1)), (3, (sV b3_2 o3_2 ys0_1.length c0_2)), (4, v3_3), (5, (nV x3_1)), (46, (.bool (s3_2)))]) (fun s3_2 => [blk b0_1 [(nV f.params), (nV f.slots), (sV b3_3 o3_3 f.ins.length c0_1)] 30, ow [(sV b3_2 o3_2 ys0_1.length c0_2)] (xs2_1.1.set (x3_1).toNat true), ow [v3_3] s3_1]) (fun s3_2 => ?_) ?_))
     ·
      refine gR (gF fo_60_0 rfl (gL hm 3 isAgg3 rfl (gB rfl (gM rfl (gsd 42 rfl (fun h4_3 => ?_) fun h4_3 => ?_)))))
      ·
       exact gF fo_60_0 rfl (gL hm 3 isAgg3 rfl (gB rfl (gKt rfl (gE (gz hm [0, 1, 2] rfl)))))
      exact gO rfl (gO rfl (gO rfl (gKf rfl (gE (gz hm [0, 1, 2] rfl)))))
     repeat clear hm
     intro s3_2 w hm
     refine gJg (fun s3_3 a w => ∃ (v3_4 : Value), St 53 [(1, (pV b0_1)), (3, (sV b3_2 o3_2 ys0_1.length c0_2)), (4, v3_4)] w0 (hp w0) [blk b0_1 [(nV f.params), (nV f.slots), (sV b3_3 o3_3 f.ins.length c0_1)] 30, ow [(sV b3_2 o3_2 ys0_1.length c0_2)] (xs2_1.1.set (x3_1).toNat true), ow [v3_4] s3_3] a w) (fun s3_3 => ?_) ?_
     ·
      refine gs 46 rfl (fun h4_4 => ?_) fun h4_4 => ?_
      ·
       refine gct rfl (gR (gM rfl (gM rfl (gB rfl (gf rfl (fun a hf => e_build (vs := #[(0, (nV (w64 (x3_1 + 1))))]) (cs := [(nV (w64 (x3_1 + 1)))]) et_26 hf hm rfl rfl (by kernel_rfl) rfl rfl) ?_)))))
       rintro _ w ⟨b4_2, rfl, hm⟩
       replace hm := hm.lit (xs := ([w64 (x3_1 + 1)] : List Int)) 0 rfl rfl rfl rfl
       refine gb fun ys4_2 hx4_2 => ?_
       obtain ⟨h4_5, h4_5e⟩ := appM_some.1 hx4_2
       refine gf rfl (fun a hf => e_append 3 et_26 hf hm rfl (hm.ow_rep 0 rfl) rfl rfl rfl h4_5) ?_
       rintro v4_2 w hm
       rw [h4_5e] at hm
       exact gA rfl (gE (gZ fun a hf => ⟨v4_2, hf.sb rfl, hm.pk [1, 2, 3] rfl rfl⟩))
      exact gcf rfl (gSk (gZ fun a hf => ⟨v3_3, hf.sb rfl, hm.pk [0, 1, 2] rfl rfl⟩))
     repeat clear hm
     rintro s3_3 a w ⟨v3_4, hf, hm⟩
     exact gv hf (gZ fun a hf => ⟨v3_4, hf.sb rfl, hm.pk [0, 1, 2] rfl rfl⟩)
    repeat clear hm
    rintro s2_1 a w ⟨v2_2, hf, hm⟩
    exact gv hf (gZe fun a hf => ⟨v2_2, hf.sb rfl, hm.pk [0, 1, 2] rfl rfl⟩)
   exact gcf rfl (gXt (gHh (gLp ho1_1 hq1_1 (gz hm [1] rfl))))
  repeat clear hm
  intro s0_1 w hm
  exact gS (gR (gM rfl (gA rfl (gE (gRt (gr1 results24 rfl ⟨(.slice p0_2 ys0_1.length c0_2), rfl, hm.pk [0] rfl rfl⟩))))))

theorem spec_l12List_ok (w0 : World) (set_ : List Bool) (v1 : Value) (h1 : GT.rep (hp w0) [v1] set_) :
    ConM Try.prog 23 [v1] w0 (spec_l12List set_) fun r v w' => ∃ (x1 : Value), v = x1 ∧ Mem w0 (hp w0) w' [ow [x1] r] := by
  unfold spec_l12List
  refine gcon func23 rfl fun r => ?_
  have hm := Mem.start w0
  refine gS (gR (gA rfl (gE (gS (gR (gf rfl (fun a hf => e_build0 (α := Int) et_26 hm rfl) ?_))))))
  rintro v0_1 w hm
  refine gA rfl (gE (gS (gS (gR (gA rfl (gE ?_))))))
  obtain ⟨p0_1, c0_1, rfl, hl0_1⟩ := ro_slice (hm.ow_rep 0 rfl)
  refine gBk (gNg (fun i1_1 xs1_1 a w => ∃ (v1_1 : Value), St 21 [(0, v1), (3, v1_1), (4, (nV i1_1))] w0 (hp w0) [ow [v1_1] xs1_1] a w) (fun a hf => ⟨(.slice p0_1 ([] : List Int).length c0_1), hf.sb rfl, hm.pk [0] rfl rfl⟩) ?_ ?_)
  ·
   repeat clear hm
   rintro _ _ i1_1 xs1_1 a w ⟨v1_1, hf, hm⟩ hi0_1 hi0_2 q0_1 _
   refine gv hf (gS (gS (gR (gM rfl (gM rfl ?_)))))
   obtain ⟨p1_1, c1_1, rfl, hl1_1⟩ := ro_slice h1
   refine gY (yV st_55 rfl) (gB rfl (gE (go _ 9 rfl (decide_eq_true (by omega)) (gct rfl (gSk (gS (gJg (fun s1_1 a w => ∃ (v1_2 : Value), St 21 [(0, (.slice p1_1 set_.length c1_1)), (3, v1_2), (4, (nV i1_1))] w0 (hp w0) [ow [v1_2] s1_1] a w) (fun s1_1 => ?_) ?_)))))))
   ·
    refine gBk (gS (gR (gM rfl (gM rfl (gg fun x2_1 h2_1 hx2_2 => ?_)))))
    obtain ⟨b2_1, o2_1, c2_1, he⟩ := idx_form h1 hx2_2
    simp only [Value.slice.injEq, Option.some.injEq] at he; obtain ⟨rfl, _, rfl⟩ := he
    refine gI st_55 h2_1 (idx_lt hx2_2) rfl (gY (yl isAgg4 ((flat_cells (cs := [(.bool (x2_1))]) (hm.now h1) hx2_2 rfl).cell (j := 0) rfl) rfl) (gE (gJg (fun s2_1 a w => ∃ (v2_1 : Value), St 21 [(0, (sV b2_1 o2_1 set_.length c1_1)), (3, v2_1), (4, (nV i1_1))] w0 (hp w0) [ow [v2_1] s2_1] a w) (fun s2_1 => ?_) ?_)))
    ·
     refine gs 15 rfl (fun h3_1 => ?_) fun h3_1 => ?_
     ·
      refine gct rfl (gR (gM rfl (gM rfl (gf rfl (fun a hf => e_build (vs := #[(0, (nV i1_1))]) (cs := [(nV i1_1)]) et_26 hf hm rfl rfl (by kernel_rfl) rfl rfl) ?_))))
      rintro _ w ⟨b3_1, rfl, hm⟩
      replace hm := hm.lit (xs := ([i1_1] : List Int)) 0 rfl rfl rfl rfl
      refine gb fun ys3_1 hx3_1 => ?_
      obtain ⟨h3_2, h3_2e⟩ := appM_some.1 hx3_1
      refine gf rfl (fun a hf => e_append 1 et_26 hf hm rfl (hm.ow_rep 0 rfl) rfl rfl rfl h3_2) ?_
      rintro v3_1 w hm
      rw [h3_2e] at hm
      exact gA rfl (gE (gZ fun a hf => ⟨v3_1, hf.sb rfl, hm.pk [1] rfl rfl⟩))
     exact gcf rfl (gSk (gZ fun a hf => ⟨v1_1, hf.sb rfl, hm.pk [0] rfl rfl⟩))
    repeat clear hm
    rintro s2_1 a w ⟨v2_1, hf, hm⟩
    exact gv hf (gZ fun a hf => ⟨v2_1, hf.sb rfl, hm.pk [0] rfl rfl⟩)
   repeat clear hm
   rintro s1_1 a w ⟨v1_2, hf, hm⟩
   exact gv hf (gR (gM rfl (gP (by omega) (by omega) rfl (gA rfl (gE (gZe fun a hf => ⟨v1_2, hf.sb rfl, hm.pk [0] rfl rfl⟩))))))
  repeat clear hm
  rintro i0_1 xs0_1 a w ⟨v0_2, hf, hm⟩ hi0_3 hi0_4
  refine gv hf (gS (gS (gR (gM rfl (gM rfl ?_)))))
  obtain ⟨p0_2, c0_2, rfl, hl0_2⟩ := ro_slice h1
  exact gY (yV st_55 rfl) (gB rfl (gE (go _ 9 rfl (decide_eq_false (by omega)) (gcf rfl (gXt (gHh (gS (gR (gM rfl (gA rfl (gE (gRt (gr1 results23 rfl ⟨v0_2, rfl, hm.pk [0] rfl rfl⟩)))))))))))))

theorem spec_ReachedMins_ok (w0 : World) (f : Mfn) (v1 : Value) (h1 : GT.rep (hp w0) [v1] f.ins) :
    ConM Try.prog 6 [(.agg #[(nV f.params), (nV f.slots), v1])] w0 (spec_ReachedMins f) fun r v w' => ∃ (x1 : Value), v = x1 ∧ Mem w0 (hp w0) w' [ow [x1] r] := by
  unfold spec_ReachedMins
  refine gcon func6 rfl fun r => ?_
  have hm := Mem.start w0
  refine gS (gR (gBx hm rfl fun b0_1 w hm => gA rfl (gE (gS (gS (gR (gY (yn (hm.blk_at 0 rfl) isAgg30 sizeOf30 rfl) (gC hm rfl call22 (spec_l24Fits_ok _ f v1 (hm.now h1)) fun r0_1 hx0_1 w hm => gN rfl (gE (gsn 5 rfl (fun h0_1 => ?_) fun h0_1 => ?_))))))))))
  ·
   refine gct rfl (gS (gR (gf rfl (fun a hf => e_build0 (α := Int) et_26 hm rfl) ?_)))
   rintro v0_2 w hm
   exact gA rfl (gE (gRt (gr1 results6 rfl ⟨v0_2, rfl, hm.pk [0] rfl rfl⟩)))
  refine gcf rfl (gSk (gS (gR (gY (yn (hm.blk_at 0 rfl) isAgg30 sizeOf30 rfl) (gCg rfl call24 (spec_l24Reached_ok _ f v1 (hm.now h1)) ?_)))))
  rintro r0_2 hx0_2 v0_3 w ⟨_, rfl, hB⟩
  replace hm := hm.give hB; clear hB
  refine gCg rfl call23 (spec_l12List_ok _ r0_2 v0_3 (hm.ow_rep 0 rfl)) ?_
  rintro r0_3 hx0_3 v0_5 w ⟨_, rfl, hB⟩
  replace hm := hm.give hB; clear hB
  exact gA rfl (gE (gRt (gr1 results6 rfl ⟨v0_5, rfl, hm.pk [0] rfl rfl⟩)))

theorem impl_jumpOp_ok (w0 : World) (op : Int) :
    ConM Try.prog 29 [(nV op)] w0 (impl_jumpOp op) fun r v w' => v = (.bool (r)) ∧ Below w0.heap.size w0 w' := by
  unfold impl_jumpOp
  refine gcon func29 rfl fun r => ?_
  have hm := Mem.start w0
  refine gS (gR (gA rfl (gE (gS (gJ hm (fun s0_1 => [(2, (.bool (s0_1)))]) (fun s0_1 => []) (fun s0_1 => ?_) ?_)))))
  ·
   refine gR (gM rfl (gB rfl (gM rfl (gsd 5 rfl (fun h1_1 => ?_) fun h1_1 => ?_))))
   ·
    exact gO rfl (gO rfl (gKt rfl (gA rfl (gE (gz hm [] rfl)))))
   exact gM rfl (gB rfl (gKf rfl (gA rfl (gE (gz hm [] rfl)))))
  repeat clear hm
  intro s0_1 w hm
  exact gRt (gr1 results29 rfl ⟨rfl, hm.below⟩)

theorem impl_within_ok (w0 : World) (n_ : Int) (low : Int) (high : Int) :
    ConM Try.prog 52 [(nV n_), (nV low), (nV high)] w0 (impl_within n_ low high) fun r v w' => v = (.bool (r)) ∧ Below w0.heap.size w0 w' := by
  unfold impl_within
  refine gcon func52 rfl fun r => ?_
  have hm := Mem.start w0
  refine gS (gR (gA rfl (gE (gS (gJ hm (fun s0_1 => [(6, (.bool (s0_1)))]) (fun s0_1 => []) (fun s0_1 => ?_) ?_)))))
  ·
   refine gR (gM rfl (gM rfl (gB rfl (gM rfl (gsd 10 rfl (fun h1_1 => ?_) fun h1_1 => ?_)))))
   ·
    exact gM rfl (gM rfl (gB rfl (gKt rfl (gA rfl (gE (gz hm [] rfl))))))
   exact gO rfl (gO rfl (gO rfl (gKf rfl (gA rfl (gE (gz hm [] rfl))))))
  repeat clear hm
  intro s0_1 w hm
  exact gRt (gr1 results52 rfl ⟨rfl, hm.below⟩)

theorem impl_peepable_1_ok (w0 : World) (x_ : Mins) (c0_ : Int) (bf0 : Nat) (hbf0 : w0.heap[bf0]? = some (.cells ([(nV c0_)] : List Value).toArray 3 (0, 0))) :
    ConM Try.prog 51 [(.agg #[(nV x_.op), (nV x_.a_), (nV x_.b), (nV x_.c), (nV x_.n_)]), (pV bf0)] w0 (impl_peepable_1 x_ c0_) fun r v w' => v = (.bool (r)) ∧ Below w0.heap.size w0 w' := by
  unfold impl_peepable_1
  refine gcon func51 rfl fun r => ?_
  have hm := Mem.start w0
  refine gS (gR (gBx hm rfl fun b0_1 w hm => gA rfl (gE (gS (gJ hm (fun s0_1 => [(3, (.bool (s0_1)))]) (fun s0_1 => []) (fun s0_1 => ?_) ?_)))))
  ·
   refine gR (gF fo_60_0 rfl (gL hm 0 isAgg3 rfl (gC hm rfl call29 (impl_jumpOp_ok _ x_.op) fun r1_1 hx1_1 w hm => gM rfl (gs 7 rfl (fun h1_1 => ?_) fun h1_1 => ?_))))
   ·
    exact gF fo_60_4 rfl (gL hm 0 isAgg3 rfl (gY (yl isAgg3 (hm.old_cell hbf0 rfl) rfl) (gB rfl (gC hm rfl call52 (impl_within_ok _ x_.n_ 0 (w64 (c0_ - 1))) fun r1_2 hx1_2 w hm => gN rfl (gKt rfl (gA rfl (gE (gz hm [] rfl))))))))
   exact gO rfl (gO rfl (gO rfl (gO rfl (gO rfl (gO rfl (gKf rfl (gA rfl (gE (gz hm [] rfl)))))))))
  repeat clear hm
  intro s0_1 w hm
  exact gRt (gr1 results51 rfl ⟨rfl, hm.below⟩)

theorem slices_IndexFunc_S_impl_Mins_impl_Mins_ok (w0 : World) (s_ : List Mins) (v1 : Value) (h1 : GT.rep (hp w0) [v1] s_) (f : Mins → Option Bool) (fv1 : Value) (hfn1 : ∀ (w : World) (y0 : Mins) (r : Bool), Below w0.heap.size w0 w → f y0 = some r → FnOk Try.prog fv1 [(.agg #[(nV y0.op), (nV y0.a_), (nV y0.b), (nV y0.c), (nV y0.n_)])] w (fun v w' => v = (.bool (r)) ∧ Below w.heap.size w w')) :
    ConM Try.prog 73 [v1, fv1] w0 (slices_IndexFunc_S_impl_Mins_impl_Mins s_ f) fun r v w' => v = (nV r) ∧ Below w0.heap.size w0 w' := by
  unfold slices_IndexFunc_S_impl_Mins_impl_Mins
  refine gcon func73 rfl fun r => ?_
  have hm := Mem.start w0
  refine gS (gR (gA rfl (gE (gS (gS (gR (gM rfl ?_)))))))
  obtain ⟨p0_1, c0_1, rfl, hl0_1⟩ := ro_slice h1
  refine gY (yV st_28 rfl) (gM rfl (gE (gBk (gNf hm (fun i1_1 xs1_1 => [(0, (.slice p0_1 s_.length c0_1)), (1, fv1), (7, (nV ((s_.length : Int)))), (8, (nV i1_1))]) (fun i1_1 xs1_1 => []) [] rfl ?_ ?_))))
  ·
   repeat clear hm
   intro r0_1 hq0_1 i1_1 xs1_1 w hm hi0_1 hi0_2 q0_1 ho0_1
   refine gS (gR (gB rfl (gE (gS (go _ 9 rfl (decide_eq_true (by omega)) (gct rfl (gSk (gS (gBk (gS (gR (gM rfl (gA rfl (gE (gS (gR (gM rfl (gM rfl (gM rfl (gg fun x1_1 h1_1 hx1_2 => ?_))))))))))))))))))))
   obtain ⟨b1_1, o1_1, c1_1, he⟩ := idx_form h1 hx1_2
   simp only [Value.slice.injEq, Option.some.injEq] at he; obtain ⟨rfl, _, rfl⟩ := he
   refine gI st_28 h1_1 (idx_lt hx1_2) rfl (gY (yn (flat_cells (cs := [(nV x1_1.op), (nV x1_1.a_), (nV x1_1.b), (nV x1_1.c), (nV x1_1.n_)]) (hm.now h1) hx1_2 rfl) isAgg60 sizeOf60 rfl) (gb fun r1_1 hx1_3 => gf rfl (fun a hf => e_callv hf rfl rfl rfl (hfn1 _ x1_1 _ hm.below hx1_3)) ?_))
   rintro v1_1 w ⟨rfl, hB⟩
   replace hm := hm.below' hB; clear hB
   refine gE (gs 16 rfl (fun h1_2 => ?_) fun h1_2 => ?_)
   ·
    exact gct rfl (gS (gR (gM rfl (gA rfl (gE (gRt (gLr ho0_1 hq0_1 (gr1 results73 rfl ⟨rfl, hm.below⟩))))))))
   exact gcf rfl (gSk (gR (gP (by omega) (by omega) rfl (gM rfl (gE (gze hm [] rfl))))))
  repeat clear hm
  intro i0_1 xs0_1 w hm hi0_3 hi0_4
  exact gS (gR (gB rfl (gE (gS (go _ 9 rfl (decide_eq_false (by omega)) (gcf rfl (gXt (gHh (gS (gR (gA rfl (gE (gRt (gr1 results73 rfl ⟨rfl, hm.below⟩))))))))))))))

theorem slices_ContainsFunc_S_impl_Mins_impl_Mins_ok (w0 : World) (s_ : List Mins) (v1 : Value) (h1 : GT.rep (hp w0) [v1] s_) (f : Mins → Option Bool) (fv1 : Value) (hfn1 : ∀ (w : World) (y0 : Mins) (r : Bool), Below w0.heap.size w0 w → f y0 = some r → FnOk Try.prog fv1 [(.agg #[(nV y0.op), (nV y0.a_), (nV y0.b), (nV y0.c), (nV y0.n_)])] w (fun v w' => v = (.bool (r)) ∧ Below w.heap.size w w')) :
    ConM Try.prog 50 [v1, fv1] w0 (slices_ContainsFunc_S_impl_Mins_impl_Mins s_ f) fun r v w' => v = (.bool (r)) ∧ Below w0.heap.size w0 w' := by
  unfold slices_ContainsFunc_S_impl_Mins_impl_Mins
  refine gcon func50 rfl fun r => ?_
  have hm := Mem.start w0
  exact gS (gR (gA rfl (gE (gS (gR (gM rfl (gM rfl (gC hm rfl call73 (slices_IndexFunc_S_impl_Mins_impl_Mins_ok _ s_ v1 (hm.now h1) f fv1 (fun w y0 r hB hq => hfn1 w y0 r (hm.below.trans (hB.mono hm.below.size)) hq)) fun r0_1 hx0_1 w hm => gB rfl (gA rfl (gE (gRt (gr1 results50 rfl ⟨rfl, hm.below⟩))))))))))))

theorem impl_peepable_ok (w0 : World) (f : Mfn) (v1 : Value) (h1 : GT.rep (hp w0) [v1] f.ins) :
    ConM Try.prog 26 [(.agg #[(nV f.params), (nV f.slots), v1])] w0 (impl_peepable f) fun r v w' => v = (.bool (r)) ∧ Below w0.heap.size w0 w' := by
  unfold impl_peepable
  refine gcon func26 rfl fun r => ?_
  have hm := Mem.start w0
  refine gS (gR (gBx hm rfl fun b0_1 w hm => gA rfl (gE (gS (gR (gF fo_30_2 rfl (gL hm 0 isAgg28 rfl ?_)))))))
  obtain ⟨p0_1, c0_1, rfl, hl0_1⟩ := ro_slice h1
  refine gY (yV st_28 rfl) (gAl hm zeroValue3 rfl fun b0_2 w hm => gS1 hm 0 sizeOf3 rfl rfl fun w hm => gE (gS (gJ hm (fun s0_1 => [(2, (.bool (s0_1)))]) (fun s0_1 => []) (fun s0_1 => ?_) ?_)))
  ·
   refine gR (gL hm 0 isAgg3 rfl (gB rfl (gM rfl (gsd 9 rfl (fun h1_1 => ?_) fun h1_1 => ?_))))
   ·
    refine gF fo_30_2 rfl (gL hm 1 isAgg28 rfl (gL hm 0 isAgg3 rfl (gY (yS (by omega) (by omega) rfl) (gg fun x1_1 h1_2 hx1_2 => ?_))))
    obtain ⟨b1_1, o1_1, c1_1, he⟩ := idx_form h1 hx1_2
    simp only [Value.slice.injEq, Option.some.injEq] at he; obtain ⟨rfl, _, rfl⟩ := he
    refine gI st_28 h1_2 (idx_lt hx1_2) rfl (gF fo_60_0 rfl (gY (yl isAgg3 ((flat_cells (cs := [(nV x1_1.op), (nV x1_1.a_), (nV x1_1.b), (nV x1_1.c), (nV x1_1.n_)]) (hm.now h1) hx1_2 rfl).cell (j := 0) rfl) rfl) (gB rfl (gM rfl (gsd 18 rfl (fun h1_3 => ?_) fun h1_3 => ?_)))))
    ·
     exact gO rfl (gO rfl (gO rfl (gO rfl (gO rfl (gO rfl (gO rfl (gO rfl (gKt rfl (gKt rfl (gM rfl (gF fo_30_2 rfl (gL hm 1 isAgg28 rfl (gY (yU rfl) (gC hm rfl call50 (slices_ContainsFunc_S_impl_Mins_impl_Mins_ok _ f.ins (sV b1_1 o1_1 f.ins.length c0_1) (hm.now h1) (fun y0 => impl_peepable_1 y0 (f.ins.length : Int)) (.func (.func 51) #[] #[(pV b0_2)]) (fun w y0 r hB hq => ⟨51, [(pV b0_2)], rfl, call51, impl_peepable_1_ok w y0 (f.ins.length : Int) b0_2 (hm.blk_later 0 rfl hB) r hq⟩)) fun r1_1 hx1_3 w hm => gN rfl (gKt rfl (gA rfl (gE (gz hm [] rfl))))))))))))))))))
    refine gF fo_30_2 rfl (gL hm 1 isAgg28 rfl (gL hm 0 isAgg3 rfl (gY (yS (by omega) (by omega) rfl) (gI st_28 h1_2 (idx_lt hx1_2) rfl (gF fo_60_0 rfl (gY (yl isAgg3 ((flat_cells (cs := [(nV x1_1.op), (nV x1_1.a_), (nV x1_1.b), (nV x1_1.c), (nV x1_1.n_)]) (hm.now h1) hx1_2 rfl).cell (j := 0) rfl) rfl) (gB rfl (gKf rfl (gKt rfl (gM rfl (gsd 29 rfl (fun h1_4 => ?_) fun h1_4 => ?_)))))))))))
    ·
     exact gF fo_30_2 rfl (gL hm 1 isAgg28 rfl (gY (yU rfl) (gC hm rfl call50 (slices_ContainsFunc_S_impl_Mins_impl_Mins_ok _ f.ins (sV b1_1 o1_1 f.ins.length c0_1) (hm.now h1) (fun y0 => impl_peepable_1 y0 (f.ins.length : Int)) (.func (.func 51) #[] #[(pV b0_2)]) (fun w y0 r hB hq => ⟨51, [(pV b0_2)], rfl, call51, impl_peepable_1_ok w y0 (f.ins.length : Int) b0_2 (hm.blk_later 0 rfl hB) r hq⟩)) fun r1_2 hx1_4 w hm => gN rfl (gKt rfl (gA rfl (gE (gz hm [] rfl)))))))
    exact gO rfl (gO rfl (gO rfl (gO rfl (gO rfl (gKf rfl (gA rfl (gE (gz hm [] rfl))))))))
   exact gO rfl (gO rfl (gO rfl (gO rfl (gO rfl (gO rfl (gO rfl (gO rfl (gO rfl (gO rfl (gO rfl (gO rfl (gO rfl (gO rfl (gO rfl (gO rfl (gO rfl (gO rfl (gKf rfl (gM rfl (gO rfl (gO rfl (gO rfl (gO rfl (gO rfl (gKf rfl (gA rfl (gE (gz hm [] rfl))))))))))))))))))))))))))))
  repeat clear hm
  intro s0_1 w hm
  exact gRt (gr1 results26 rfl ⟨rfl, hm.below⟩)

theorem impl_ReachedMins_1_ok (w0 : World) (at_ : Int) (c0_ : Mfn) (v1 : Value) (h1 : GT.rep (hp w0) [v1] c0_.ins) (bf0 : Nat) (hbf0 : w0.heap[bf0]? = some (.cells ([(nV c0_.params), (nV c0_.slots), v1] : List Value).toArray 30 (0, 0))) :
    ConM Try.prog 28 [(nV at_), (pV bf0)] w0 (impl_ReachedMins_1 at_ c0_) fun r v w' => ∃ (x1 : Value), v = x1 ∧ Mem w0 (hp w0) w' [ow [x1] r] := by
  unfold impl_ReachedMins_1
  refine gcon func28 rfl fun r => ?_
  have hm := Mem.start w0
  refine gS (gR (gA rfl (gE (gS (gR (gA rfl (gE (gS (gR (gF fo_30_2 rfl (gY (yl isAgg28 (hm.old_cell hbf0 rfl) rfl) (gM rfl (gg fun x0_1 h0_1 hx0_2 => ?_)))))))))))))
  obtain ⟨b0_1, o0_1, c0_1, he⟩ := idx_form h1 hx0_2
  subst he
  refine gI st_28 h0_1 (idx_lt hx0_2) rfl (gY (yn (flat_cells (cs := [(nV x0_1.op), (nV x0_1.a_), (nV x0_1.b), (nV x0_1.c), (nV x0_1.n_)]) (hm.now h1) hx0_2 rfl) isAgg60 sizeOf60 rfl) (gAl hm zeroValue60 rfl fun b0_2 w hm => gSN hm 0 sizeOf60 (one_cons rfl (one_cons rfl (one_cons rfl (one_cons rfl (one_cons rfl one_nil))))) rfl fun w hm => gE (gS (gS (gR (gF fo_60_0 rfl (gL hm 0 isAgg3 rfl (gC hm rfl call29 (impl_jumpOp_ok _ x0_1.op) fun r0_1 hx0_3 w hm => gE (gJg (fun s0_1 a w => ∃ (v0_2 : Value), St 33 [(0, (nV at_)), (4, v0_2), (5, (pV b0_2))] w0 (hp w0) [ow [v0_2] s0_1, blk b0_2 [(nV x0_1.op), (nV x0_1.a_), (nV x0_1.b), (nV x0_1.c), (nV x0_1.n_)] 60] a w) (fun s0_1 => ?_) ?_)))))))))
  ·
   refine gs 13 rfl (fun h1_1 => ?_) fun h1_1 => ?_
   ·
    refine gct rfl (gR (gM rfl (gF fo_60_4 rfl (gL hm 0 isAgg3 rfl (gf rfl (fun a hf => e_build (vs := #[(0, (nV x0_1.n_))]) (cs := [(nV x0_1.n_)]) et_26 hf hm rfl rfl (by kernel_rfl) rfl rfl) ?_)))))
    rintro _ w ⟨b1_1, rfl, hm⟩
    replace hm := hm.lit (xs := ([x0_1.n_] : List Int)) 0 rfl rfl rfl rfl
    replace hm := hm.nilow (α := Int)
    refine gb fun ys1_1 hx1_1 => ?_
    obtain ⟨h1_2, h1_2e⟩ := appM_some.1 hx1_1
    refine gf rfl (fun a hf => e_append 0 et_26 hf hm rfl (hm.ow_rep 1 rfl) rfl rfl rfl h1_2) ?_
    rintro v1_1 w hm
    rw [h1_2e] at hm
    exact gA rfl (gE (gZ fun a hf => ⟨v1_1, hf.sb rfl, hm.pk [0, 2] rfl rfl⟩))
   refine gcf rfl (gSk ?_)
   replace hm := hm.nilow (α := Int)
   exact gZ fun a hf => ⟨(.slice none 0 0), hf.sb rfl, hm.pk [0, 1] rfl rfl⟩
  repeat clear hm
  rintro s0_1 a w ⟨v0_2, hf, hm⟩
  refine gv hf (gS (gS (gJ hm (fun s0_2 => [(0, (nV at_)), (4, v0_2), (26, (.bool (s0_2)))]) (fun s0_2 => [ow [v0_2] s0_1]) (fun s0_2 => ?_) ?_)))
  ·
   refine gR (gF fo_60_0 rfl (gL hm 1 isAgg3 rfl (gB rfl (gM rfl (gsd 22 rfl (fun h1_3 => ?_) fun h1_3 => ?_)))))
   ·
    exact gF fo_60_0 rfl (gL hm 1 isAgg3 rfl (gB rfl (gKt rfl (gE (gz hm [0] rfl)))))
   exact gO rfl (gO rfl (gO rfl (gKf rfl (gE (gz hm [0] rfl)))))
  repeat clear hm
  intro s0_2 w hm
  refine gJg (fun s0_3 a w => ∃ (v0_3 : Value), St 33 [(4, v0_3)] w0 (hp w0) [ow [v0_3] s0_3] a w) (fun s0_3 => ?_) ?_
  ·
   refine gs 26 rfl (fun h1_4 => ?_) fun h1_4 => ?_
   ·
    refine gct rfl (gR (gM rfl (gM rfl (gB rfl (gf rfl (fun a hf => e_build (vs := #[(0, (nV (w64 (at_ + 1))))]) (cs := [(nV (w64 (at_ + 1)))]) et_26 hf hm rfl rfl (by kernel_rfl) rfl rfl) ?_)))))
    rintro _ w ⟨b1_2, rfl, hm⟩
    replace hm := hm.lit (xs := ([w64 (at_ + 1)] : List Int)) 0 rfl rfl rfl rfl
    refine gb fun ys1_2 hx1_2 => ?_
    obtain ⟨h1_5, h1_5e⟩ := appM_some.1 hx1_2
    refine gf rfl (fun a hf => e_append 1 et_26 hf hm rfl (hm.ow_rep 0 rfl) rfl rfl rfl h1_5) ?_
    rintro v1_2 w hm
    rw [h1_5e] at hm
    exact gA rfl (gE (gZ fun a hf => ⟨v1_2, hf.sb rfl, hm.pk [1] rfl rfl⟩))
   exact gcf rfl (gSk (gZ fun a hf => ⟨v0_2, hf.sb rfl, hm.pk [0] rfl rfl⟩))
  repeat clear hm
  rintro s0_3 a w ⟨v0_3, hf, hm⟩
  exact gv hf (gS (gR (gM rfl (gA rfl (gE (gRt (gr1 results28 rfl ⟨v0_3, rfl, hm.pk [0] rfl rfl⟩)))))))

theorem impl_closure_1_all (c1_ : Int → Option (List Int)) : ∀ (n_ : Int) (c0_ : MapS Bool) (r : (MapS Bool)), impl_closure_1 n_ c0_ c1_ = some r → ∀ (w0 : World) (hz : Heap) (bpc0 : Nat) (v1p : Value) (bpc1 : Nat) (fvc1 : Value) (hfnc1 : ∀ (w : World) (y0 : Int) (r : (List Int)), Mem w0 hz w [] → c1_ y0 = some r → FnOk Try.prog fvc1 [(nV y0)] w (fun v w' => ∃ (x1 : Value), v = x1 ∧ Mem w (hp w) w' [ow [x1] r])) (hbbpc1 : hz bpc1 = some (.cells ([fvc1] : List Value).toArray 62 (0, 0))) (bpc2 : Nat) (hbbpc2 : hz bpc2 = some (.cells ([(.func (.func 53) #[] #[(pV bpc0), (pV bpc1), (pV bpc2)])] : List Value).toArray 92 (0, 0))) (hm0 : Mem w0 hz w0 [blk bpc0 [v1p] 91, owm v1p c0_]), Con Try.prog 53 [(nV n_), (pV bpc0), (pV bpc1), (pV bpc2)] w0 (fun v w' => ∃ (x1 : Value), v = (.tuple #[]) ∧ Mem w0 hz w' [blk bpc0 [x1] 91, owm x1 r]) := by
  refine impl_closure_1.partial_correctness c1_ (motive := fun n_ c0_ r => ∀ (w0 : World) (hz : Heap) (bpc0 : Nat) (v1p : Value) (bpc1 : Nat) (fvc1 : Value) (hfnc1 : ∀ (w : World) (y0 : Int) (r : (List Int)), Mem w0 hz w [] → c1_ y0 = some r → FnOk Try.prog fvc1 [(nV y0)] w (fun v w' => ∃ (x1 : Value), v = x1 ∧ Mem w (hp w) w' [ow [x1] r])) (hbbpc1 : hz bpc1 = some (.cells ([fvc1] : List Value).toArray 62 (0, 0))) (bpc2 : Nat) (hbbpc2 : hz bpc2 = some (.cells ([(.func (.func 53) #[] #[(pV bpc0), (pV bpc1), (pV bpc2)])] : List Value).toArray 92 (0, 0))) (hm0 : Mem w0 hz w0 [blk bpc0 [v1p] 91, owm v1p c0_]), Con Try.prog 53 [(nV n_), (pV bpc0), (pV bpc1), (pV bpc2)] w0 (fun v w' => ∃ (x1 : Value), v = (.tuple #[]) ∧ Mem w0 hz w' [blk bpc0 [x1] 91, owm x1 r])) ?_
  intro rec_ ih_ n_ c0_ r hq w0 hz bpc0 v1p bpc1 fvc1 hfnc1 hbbpc1 bpc2 hbbpc2 hm0
  have impl_closure_1_rec : ∀ (w0 : World) (hz : Heap) (n_ : Int) (c0_ : MapS Bool) (bpc0 : Nat) (v1p : Value) (_ : Int → Option (List Int)) (bpc1 : Nat) (fvc1 : Value) (hfnc1 : ∀ (w : World) (y0 : Int) (r : (List Int)), Mem w0 hz w [] → c1_ y0 = some r → FnOk Try.prog fvc1 [(nV y0)] w (fun v w' => ∃ (x1 : Value), v = x1 ∧ Mem w (hp w) w' [ow [x1] r])) (hbbpc1 : hz bpc1 = some (.cells ([fvc1] : List Value).toArray 62 (0, 0))) (bpc2 : Nat) (hbbpc2 : hz bpc2 = some (.cells ([(.func (.func 53) #[] #[(pV bpc0), (pV bpc1), (pV bpc2)])] : List Value).toArray 92 (0, 0))) (hm0 : Mem w0 hz w0 [blk bpc0 [v1p] 91, owm v1p c0_]) (r : (MapS Bool)) (hq : rec_ n_ c0_ = some r), Con Try.prog 53 [(nV n_), (pV bpc0), (pV bpc1), (pV bpc2)] w0 (fun v w' => ∃ (x1 : Value), v = (.tuple #[]) ∧ Mem w0 hz w' [blk bpc0 [x1] 91, owm x1 r]) := fun w0 hz n_ c0_ bpc0 v1p _ bpc1 fvc1 hfnc1 hbbpc1 bpc2 hbbpc2 hm0 r hq => ih_ n_ c0_ r hq w0 hz bpc0 v1p bpc1 fvc1 hfnc1 hbbpc1 bpc2 hbbpc2 hm0
  refine gconr (ρ := (MapS Bool)) (R := fun r v w' => ∃ (x1 : Value), v = (.tuple #[]) ∧ Mem w0 hz w' [blk bpc0 [x1] 91, owm x1 r]) func53 rfl hq ?_
  have hm := hm0
  refine gS (gR (gL hm 0 isAgg91 rfl (gM rfl (gY (yG rfl (y_lookB (key := n_) (m := (c0_ : MapS Bool)) underlying3 underlying91 zeroValue4 (hm.owm_rep 1 rfl) rfl rfl rfl)) (gN rfl (gE (gJg (fun s0_1 a w => ∃ (v0_1 : Value), St 25 [] w0 hz [blk bpc0 [v0_1] 91, owm v0_1 s0_1] a w) (fun s0_1 => ?_) ?_)))))))
  ·
   refine gsn 10 rfl (fun h1_1 => ?_) fun h1_1 => ?_
   ·
    refine gct rfl (gS (gR (gL hm 0 isAgg91 rfl (gM rfl (gf0 rfl (fun a hf => e_insM (β := Bool) (key := n_) (u := true) (b := false) 1 underlying3 underlying91 hf hm rfl rfl rfl rfl rfl) ?_)))))
    rintro _ w hm
    refine gE (gS (gR (gY (yl isAgg62 (hm.hz_cell hbbpc1 rfl) rfl) (gM rfl (gb fun r1_1 hx1_1 => gf rfl (fun a hf => e_callv hf rfl rfl rfl (hfnc1 _ n_ _ (hm.pk (L' := []) [] rfl rfl) hx1_1)) ?_)))))
    rintro v1_1 w ⟨_, rfl, hB⟩
    replace hm := hm.give hB; clear hB
    obtain ⟨p1_1, c1_1, rfl, hl1_1⟩ := ro_slice (hm.ow_rep 0 rfl)
    refine gY (yV st_26 rfl) (gM rfl (gE (gBk (gNg (fun i2_1 xs2_1 a w => ∃ (v2_1 : Value), St 25 [(3, (pV bpc2)), (15, (.slice p1_1 r1_1.length c1_1)), (16, (nV ((r1_1.length : Int)))), (17, (nV i2_1))] w0 hz [ow [(.slice p1_1 r1_1.length c1_1)] r1_1, blk bpc0 [v2_1] 91, owm v2_1 xs2_1] a w) (fun a hf => ⟨v1p, hf.sb rfl, hm.pk [0, 1, 2] rfl rfl⟩) ?_ ?_))))
    ·
     repeat clear hm
     rintro _ _ i2_1 xs2_1 a w ⟨v2_1, hf, hm⟩ hi1_1 hi1_2 q1_1 _
     refine gv hf (gS (gR (gB rfl (gE (gS (go _ 18 rfl (decide_eq_true (by omega)) (gct rfl (gSk (gS (gBk (gS (gR (gg fun x2_1 h2_1 hx2_2 => ?_)))))))))))))
     obtain ⟨b2_1, o2_1, c2_1, he⟩ := idx_form (hm.ow_rep 0 rfl) hx2_2
     simp only [Value.slice.injEq, Option.some.injEq] at he; obtain ⟨rfl, _, rfl⟩ := he
     refine gI st_26 h2_1 (idx_lt hx2_2) rfl (gY (yl isAgg3 ((flat_cells (cs := [(nV x2_1)]) (hm.ow_rep 0 rfl) hx2_2 rfl).cell (j := 0) rfl) rfl) (gA rfl (gE (gR (gY (yl isAgg92 (hm.hz_cell hbbpc2 rfl) rfl) (gM rfl ?_))))))
     obtain ⟨hz2_1, hle, hm1, hsub, hk2_1⟩ := hm.take2 (L1 := [blk bpc0 [v2_1] 91, owm v2_1 xs2_1]) (L2 := [ow [(sV b2_1 o2_1 r1_1.length c1_1)] r1_1]) [1, 2] [0] (by decide) rfl rfl
     refine gb fun r2_1 hx2_3 => gf rfl (fun a hf => e_callv hf rfl rfl rfl ⟨53, [(pV bpc0), (pV bpc1), (pV bpc2)], rfl, call53, impl_closure_1_rec _ hz2_1 x2_1 xs2_1 bpc0 v2_1 c1_ bpc1 fvc1 (fun w y0 r hM hq => hfnc1 w y0 r (Mem.trans0 hm hle hM) hq) (hle _ _ ((Heap.le_refl _) _ _ hbbpc1)) bpc2 (hle _ _ ((Heap.le_refl _) _ _ hbbpc2)) hm1  _ hx2_3⟩) ?_
     rintro v2_2 w ⟨v2_3, rfl, hB⟩
     replace hm := hk2_1 _ _ hB; clear hB
     exact gE (gR (gP (by omega) (by omega) rfl (gM rfl (gE (gZe fun a hf => ⟨v2_3, hf.sb rfl, hm.pk [2, 0, 1] rfl rfl⟩)))))
    repeat clear hm
    rintro i1_1 xs1_1 a w ⟨v1_3, hf, hm⟩ hi1_3 hi1_4
    exact gv hf (gS (gR (gB rfl (gE (gS (go _ 18 rfl (decide_eq_false (by omega)) (gcf rfl (gXt (gHh (gZ fun a hf => ⟨v1_3, hf.sb rfl, hm.pk [1, 2] rfl rfl⟩))))))))))
   exact gcf rfl (gSk (gZ fun a hf => ⟨v1p, hf.sb rfl, hm.pk [0, 1] rfl rfl⟩))
  repeat clear hm
  rintro s0_1 a w ⟨v0_1, hf, hm⟩
  exact gv hf (gre results53 ⟨v0_1, rfl, hm.pk [0, 1] rfl rfl⟩)

theorem impl_closure_1_ok (w0 : World) (hz : Heap) (n_ : Int) (c0_ : MapS Bool) (bpc0 : Nat) (v1p : Value) (c1_ : Int → Option (List Int)) (bpc1 : Nat) (fvc1 : Value) (hfnc1 : ∀ (w : World) (y0 : Int) (r : (List Int)), Mem w0 hz w [] → c1_ y0 = some r → FnOk Try.prog fvc1 [(nV y0)] w (fun v w' => ∃ (x1 : Value), v = x1 ∧ Mem w (hp w) w' [ow [x1] r])) (hbbpc1 : hz bpc1 = some (.cells ([fvc1] : List Value).toArray 62 (0, 0))) (bpc2 : Nat) (hbbpc2 : hz bpc2 = some (.cells ([(.func (.func 53) #[] #[(pV bpc0), (pV bpc1), (pV bpc2)])] : List Value).toArray 92 (0, 0))) (hm0 : Mem w0 hz w0 [blk bpc0 [v1p] 91, owm v1p c0_]) (r : (MapS Bool)) (hq : impl_closure_1 n_ c0_ c1_ = some r) : Con Try.prog 53 [(nV n_), (pV bpc0), (pV bpc1), (pV bpc2)] w0 (fun v w' => ∃ (x1 : Value), v = (.tuple #[]) ∧ Mem w0 hz w' [blk bpc0 [x1] 91, owm x1 r]) := impl_closure_1_all c1_ n_ c0_ r hq w0 hz bpc0 v1p bpc1 fvc1 hfnc1 hbbpc1 bpc2 hbbpc2 hm0

theorem impl_sortedKeys_bool_ok (w0 : World) (m : MapS Bool) (v1 : Value) (h1 : GT.rep (hp w0) [v1] m) :
    ConM Try.prog 54 [v1] w0 (impl_sortedKeys_bool m) fun r v w' => ∃ (x1 : Value), v = x1 ∧ Mem w0 (hp w0) w' [ow [x1] r] := by
  unfold impl_sortedKeys_bool
  rw [← keys_model]
  refine gcon func54 rfl fun r => ?_
  have hm := Mem.start w0
  refine gS (gR (gA rfl (gE (gS (gR (gA rfl (gE (gS (gS (gR (gM rfl (gf rfl (fun a hf => e_rangeS (m := (m : MapS Bool)) hf hm underlying91 h1 rfl rfl) ?_))))))))))))
  rintro _ w ⟨b0_1, rfl, hm⟩
  refine gE (gBk ?_)
  replace hm := hm.nilow (α := Int)
  refine gRngK (m := (m : MapS Bool)) (fun xs ys h => by simp only [sortI_perm h]) h1 (fun sn1_1 xs1_1 a w => ∃ (v1_1 : Value), St 18 [(3, v1_1), (6, (pV b0_1))] w0 (hp w0) [ow [v1_1] xs1_1, itc (hp w0) v1 b0_1 sn1_1] a w) (fun a hf => ⟨(.slice none 0 0), hf.sb rfl, hm.pk [0, 1] rfl rfl⟩) ?_ ?_
  ·
   repeat clear hm
   rintro sn1_1 xs1_1 a w ⟨v1_1, hf, hm⟩ hmo
   refine gv (m := some ()) (r := ()) hf ?_ rfl
   refine gS (gR (gf rfl (fun a hf => e_nextS 1 hf hm rfl hmo rfl rfl) ?_))
   rintro _ w ⟨bn1_1, p1_1, s1_1, rfl, hb1_1, hg1_1, hm⟩
   refine gSw hb1_1 (gX rfl (gE (gS (gct rfl (gSk (gBk (gS (gR (gY (yG rfl (y_entryS 1 hm rfl hg1_1 rfl rfl)) (gX rfl (gA rfl (gE (gR (gM rfl (gM rfl (gf rfl (fun a hf => e_build (vs := #[(0, (nV p1_1.1))]) (cs := [(nV p1_1.1)]) et_26 hf hm rfl rfl (by kernel_rfl) rfl rfl) ?_))))))))))))))))
   rintro _ w ⟨b1_1, rfl, hm⟩
   replace hm := hm.lit (xs := ([p1_1.1] : List Int)) 0 rfl rfl rfl rfl
   refine gb fun ys1_1 hx1_1 => ?_
   obtain ⟨h1_1, h1_1e⟩ := appM_some.1 hx1_1
   refine gf rfl (fun a hf => e_append 1 et_26 hf hm rfl (hm.ow_rep 0 rfl) rfl rfl rfl h1_1) ?_
   rintro v1_2 w hm
   rw [h1_1e] at hm
   exact gA rfl (gE (gZr hg1_1 hb1_1 fun a hf => ⟨v1_2, hf.sb rfl, hm.pk [1, 2] rfl rfl⟩))
  repeat clear hm
  rintro sn0_1 xs0_1 a w ⟨v0_1, hf, hm⟩ hno hk
  refine gv hf ?_ hk
  refine gS (gR (gY (yG rfl (y_nextE 1 hm rfl hno rfl rfl)) (gX rfl (gE (gS (gcf rfl (gXt (gHh (gS (gR (gM rfl (gf rfl (fun a hf => e_call hf rfl call74 rfl (sort_con lays189 hm 0 rfl)) ?_))))))))))))
  rintro _ w ⟨rfl, hm⟩
  exact gE (gS (gR (gM rfl (gA rfl (gE (gRt (gr1 results54 rfl ⟨v0_1, rfl, hm.pk [0] rfl rfl⟩)))))))

theorem impl_closure_ok (w0 : World) (start : List Int) (v1 : Value) (h1 : GT.rep (hp w0) [v1] start) (leads : Int → Option (List Int)) (fv1 : Value) (hfn1 : ∀ (w : World) (y0 : Int) (r : (List Int)), Below w0.heap.size w0 w → leads y0 = some r → FnOk Try.prog fv1 [(nV y0)] w (fun v w' => ∃ (x1 : Value), v = x1 ∧ Mem w (hp w) w' [ow [x1] r])) (hfc1 : fv1.cells = ([fv1] : List Value).toArray) :
    ConM Try.prog 27 [v1, fv1] w0 (impl_closure start leads) fun r v w' => ∃ (x1 : Value), v = x1 ∧ Mem w0 (hp w0) w' [ow [x1] r] := by
  unfold impl_closure
  refine gcon func27 rfl fun r => ?_
  have hm := Mem.start w0
  refine gS (gR (gf rfl (fun a hf => e_box (cs := [fv1]) hf hm rfl rfl hfc1) ?_))
  rintro _ w ⟨b0_1, rfl, hm⟩
  refine gA rfl (gE (gS (gR (gf rfl (fun a hf => e_mkM (β := Bool) hm rfl) ?_))))
  rintro v0_1 w hm
  refine gAl hm zeroValue91 rfl fun b0_2 w hm => gS1 hm 0 sizeOf91 (owm_one hm 1 rfl) rfl fun w hm => gE (gS (gR (gAl hm zeroValue92 rfl fun b0_3 w hm => gE (gS (gR (gY (yU rfl) (gS1 hm 0 sizeOf92 rfl rfl fun w hm => gE (gS (gS (gR (gM rfl ?_)))))))))))
  obtain ⟨p0_1, c0_1, rfl, hl0_1⟩ := ro_slice h1
  refine gY (yV st_26 rfl) (gM rfl (gE (gBk (gNg (fun i1_1 xs1_1 a w => ∃ (v1_1 : Value), St 23 [(5, (pV b0_2)), (6, (pV b0_3)), (11, (.slice p0_1 start.length c0_1)), (12, (nV ((start.length : Int)))), (13, (nV i1_1))] w0 (hp w0) [blk b0_2 [v1_1] 91, owm v1_1 xs1_1, blk b0_3 [(.func (.func 53) #[] #[(pV b0_2), (pV b0_1), (pV b0_3)])] 92, blk b0_1 [fv1] 62] a w) (fun a hf => ⟨v0_1, hf.sb rfl, hm.pk [1, 2, 0, 3] rfl rfl⟩) ?_ ?_))))
  ·
   repeat clear hm
   rintro _ _ i1_1 xs1_1 a w ⟨v1_1, hf, hm⟩ hi0_1 hi0_2 q0_1 _
   refine gv hf (gS (gR (gB rfl (gE (gS (go _ 14 rfl (decide_eq_true (by omega)) (gct rfl (gSk (gS (gBk (gS (gR (gg fun x1_1 h1_1 hx1_2 => ?_)))))))))))))
   obtain ⟨b1_1, o1_1, c1_1, he⟩ := idx_form h1 hx1_2
   simp only [Value.slice.injEq, Option.some.injEq] at he; obtain ⟨rfl, _, rfl⟩ := he
   refine gI st_26 h1_1 (idx_lt hx1_2) rfl (gY (yl isAgg3 ((flat_cells (cs := [(nV x1_1)]) (hm.now h1) hx1_2 rfl).cell (j := 0) rfl) rfl) (gA rfl (gE (gR (gL hm 2 isAgg92 rfl (gM rfl ?_))))))
   obtain ⟨hz1_1, hle, hm1, hsub, hk1_1⟩ := hm.take2 (L1 := [blk b0_2 [v1_1] 91, owm v1_1 xs1_1]) (L2 := [blk b0_3 [(.func (.func 53) #[] #[(pV b0_2), (pV b0_1), (pV b0_3)])] 92, blk b0_1 [fv1] 62]) [0, 1] [2, 3] (by decide) rfl rfl
   refine gb fun r1_1 hx1_3 => gf rfl (fun a hf => e_callv hf rfl rfl rfl ⟨53, [(pV b0_2), (pV b0_1), (pV b0_3)], rfl, call53, impl_closure_1_ok _ hz1_1 x1_1 xs1_1 b0_2 v1_1 leads b0_1 fv1 (fun w y0 r hM hq => hfn1 w y0 r (Mem.trans0 hm hle hM).below hq) (fz_blk (hsub 1 _ rfl)) b0_3 (fz_blk (hsub 0 _ rfl)) hm1  _ hx1_3⟩) ?_
   rintro v1_2 w ⟨v1_3, rfl, hB⟩
   replace hm := hk1_1 _ _ hB; clear hB
   exact gE (gR (gP (by omega) (by omega) rfl (gM rfl (gE (gZe fun a hf => ⟨v1_3, hf.sb rfl, hm.pk [0, 1, 2, 3] rfl rfl⟩)))))
  repeat clear hm
  rintro i0_1 xs0_1 a w ⟨v0_2, hf, hm⟩ hi0_3 hi0_4
  refine gv hf (gS (gR (gB rfl (gE (gS (go _ 14 rfl (decide_eq_false (by omega)) (gcf rfl (gXt (gHh (gS (gR (gL hm 0 isAgg91 rfl (gCg rfl call54 (impl_sortedKeys_bool_ok _ xs0_1 v0_2 (hm.owm_rep 1 rfl)) ?_)))))))))))))
  rintro r0_2 hx0_1 v0_3 w ⟨_, rfl, hB⟩
  replace hm := hm.give hB; clear hB
  exact gA rfl (gE (gRt (gr1 results27 rfl ⟨v0_3, rfl, hm.pk [0] rfl rfl⟩)))

theorem impl_ReachedMins_ok (w0 : World) (f : Mfn) (v1 : Value) (h1 : GT.rep (hp w0) [v1] f.ins) :
    ConM Try.prog 8 [(.agg #[(nV f.params), (nV f.slots), v1])] w0 (impl_ReachedMins f) fun r v w' => ∃ (x1 : Value), v = x1 ∧ Mem w0 (hp w0) w' [ow [x1] r] := by
  unfold impl_ReachedMins
  refine gcon func8 rfl fun r => ?_
  have hm := Mem.start w0
  refine gS (gR (gBx hm rfl fun b0_1 w hm => gA rfl (gE (gS (gS (gR (gY (yn (hm.blk_at 0 rfl) isAgg30 sizeOf30 rfl) (gC hm rfl call26 (impl_peepable_ok _ f v1 (hm.now h1)) fun r0_1 hx0_1 w hm => gN rfl (gE (gsn 5 rfl (fun h0_1 => ?_) fun h0_1 => ?_))))))))))
  ·
   refine gct rfl (gS (gR (gA rfl (gE (gRt ?_)))))
   replace hm := hm.nilow (α := Int)
   exact gr1 results8 rfl ⟨(.slice none 0 0), rfl, hm.pk [0] rfl rfl⟩
  refine gcf rfl (gSk (gS (gR (gf rfl (fun a hf => e_build (vs := #[(0, (nV 0))]) (cs := [(nV 0)]) et_26 hf hm rfl rfl (by kernel_rfl) rfl rfl) ?_))))
  rintro _ w ⟨b0_2, rfl, hm⟩
  replace hm := hm.lit (xs := ([0] : List Int)) 0 rfl rfl rfl rfl
  refine gY (yU rfl) (gCg rfl call27 (impl_closure_ok _ ([0] : List Int) (sV b0_2 0 1 1) (hm.ow_rep 0 rfl) (fun y0 => impl_ReachedMins_1 y0 f) (.func (.func 28) #[] #[(pV b0_1)]) (fun w y0 r hB hq => ⟨28, [(pV b0_1)], rfl, call28, impl_ReachedMins_1_ok w y0 f v1 (rep_later (hm.now h1) hB) b0_1 (hm.blk_later 1 rfl hB) r hq⟩) rfl) ?_)
  rintro r0_2 hx0_2 v0_2 w ⟨_, rfl, hB⟩
  replace hm := hm.give hB; clear hB
  exact gA rfl (gE (gRt (gr1 results8 rfl ⟨v0_2, rfl, hm.pk [0] rfl rfl⟩)))

theorem laws_eqIntS_ok (w0 : World) (a_ : List Int) (v1 : Value) (h1 : GT.rep (hp w0) [v1] a_) (b_ : List Int) (v2 : Value) (h2 : GT.rep (hp w0) [v2] b_) :
    ConM Try.prog 9 [v1, v2] w0 (laws_eqIntS a_ b_) fun r v w' => v = (.bool (r)) ∧ Below w0.heap.size w0 w' := by
  unfold laws_eqIntS
  refine gcon func9 rfl fun r => ?_
  have hm := Mem.start w0
  refine gS (gR (gA rfl (gE (gS (gS (gR (gM rfl ?_)))))))
  obtain ⟨p0_1, c0_1, rfl, hl0_1⟩ := ro_slice h1
  refine gY (yV st_26 rfl) (gM rfl ?_)
  obtain ⟨p0_2, c0_2, rfl, hl0_2⟩ := ro_slice h2
  refine gY (yV st_26 rfl) (gB rfl (gE (gsd 10 rfl (fun h0_1 => ?_) fun h0_1 => ?_)))
  ·
   exact gct rfl (gS (gR (gA rfl (gE (gRt (gr1 results9 rfl ⟨rfl, hm.below⟩))))))
  refine gcf rfl (gSk (gS (gS (gR (gA rfl (gE (gBk (gNf hm (fun i1_1 xs1_1 => [(0, (.slice p0_1 a_.length c0_1)), (1, (.slice p0_2 b_.length c0_2)), (5, (nV i1_1))]) (fun i1_1 xs1_1 => []) [] rfl ?_ ?_))))))))
  ·
   repeat clear hm
   intro r0_1 hq0_1 i1_1 xs1_1 w hm hi0_1 hi0_2 q0_1 ho0_1
   refine gS (gS (gR (gM rfl (gM rfl (gY (yV st_26 rfl) (gB rfl (gE (go _ 14 rfl (decide_eq_true (by omega)) (gct rfl (gSk (gS (gBk (gS (gW (.p 0 (.p 1 (.p 2 (.p 4 (.p 5 (.p 6 (.q 3 (.e 7 (.p 8 .fin) .nil)))))))) [7] [0, 1, 2, 4, 5, 6, 8] hm [] [] rfl mxo (by kernel_rfl) (fun _ _ _ h => h.2) fun w hm hS => tP rfl (fun w => yM rfl) (tP rfl (fun w => yM rfl) (gg fun x1_1 h1_1 hx1_2 => ?_))))))))))))))))
   obtain ⟨b1_1, o1_1, c1_1, he⟩ := idx_form h1 hx1_2
   simp only [Value.slice.injEq, Option.some.injEq] at he; obtain ⟨rfl, _, rfl⟩ := he
   refine tP rfl (fun w => yI st_26 h1_1 (idx_lt hx1_2) rfl) (tP rfl (fun w => yM rfl) (tP rfl (fun w => yM rfl) (gg fun x1_2 h1_2 hx1_4 => ?_)))
   obtain ⟨b1_2, o1_2, c1_2, he⟩ := idx_form h2 hx1_4
   simp only [Value.slice.injEq, Option.some.injEq] at he; obtain ⟨rfl, _, rfl⟩ := he
   refine tP rfl (fun w => yI st_26 h1_2 (idx_lt hx1_4) rfl) (tQ rfl hS (fun w hm => yl isAgg3 ((flat_cells (cs := [(nV x1_1)]) (hm.now h1) hx1_2 rfl).cell (j := 0) rfl) rfl) (tO (tY rfl (yl isAgg3 ((flat_cells (cs := [(nV x1_2)]) (hm.now h2) hx1_4 rfl).cell (j := 0) rfl) rfl) (tAs hS (tP rfl (fun w => yB rfl) (tE (gsd 25 rfl (fun h1_3 => ?_) fun h1_3 => ?_)))))))
   ·
    exact gct rfl (gS (gR (gA rfl (gE (gRt (gLr ho0_1 hq0_1 (gr1 results9 rfl ⟨rfl, hm.below⟩)))))))
   exact gcf rfl (gSk (gR (gM rfl (gP (by omega) (by omega) rfl (gA rfl (gE (gze hm [] rfl)))))))
  repeat clear hm
  intro i0_1 xs0_1 w hm hi0_3 hi0_4
  exact gS (gS (gR (gM rfl (gM rfl (gY (yV st_26 rfl) (gB rfl (gE (go _ 14 rfl (decide_eq_false (by omega)) (gcf rfl (gXt (gHh (gS (gR (gA rfl (gE (gRt (gr1 results9 rfl ⟨rfl, hm.below⟩)))))))))))))))))

theorem laws_eqMins_ok (w0 : World) (a_ : Mins) (b_ : Mins) :
    ConM Try.prog 55 [(.agg #[(nV a_.op), (nV a_.a_), (nV a_.b), (nV a_.c), (nV a_.n_)]), (.agg #[(nV b_.op), (nV b_.a_), (nV b_.b), (nV b_.c), (nV b_.n_)])] w0 (laws_eqMins a_ b_) fun r v w' => v = (.bool (r)) ∧ Below w0.heap.size w0 w' := by
  unfold laws_eqMins
  refine gcon func55 rfl fun r => ?_
  have hm := Mem.start w0
  refine gS (gR (gBx hm rfl fun b0_1 w hm => gBx hm rfl fun b0_2 w hm => gA rfl (gE (gS (gS (gR (gF fo_60_0 rfl (gL hm 1 isAgg3 rfl (gF fo_60_0 rfl (gL hm 0 isAgg3 rfl (gB rfl (gE (gsd 9 rfl (fun h0_1 => ?_) fun h0_1 => ?_)))))))))))))
  ·
   exact gct rfl (gS (gR (gA rfl (gE (gRt (gr1 results55 rfl ⟨rfl, hm.below⟩))))))
  refine gcf rfl (gSk (gS (gS (gR (gF fo_60_1 rfl (gL hm 1 isAgg3 rfl (gF fo_60_1 rfl (gL hm 0 isAgg3 rfl (gB rfl (gE (gsd 14 rfl (fun h0_2 => ?_) fun h0_2 => ?_)))))))))))
  ·
   exact gct rfl (gS (gR (gA rfl (gE (gRt (gr1 results55 rfl ⟨rfl, hm.below⟩))))))
  refine gcf rfl (gSk (gS (gS (gR (gF fo_60_2 rfl (gL hm 1 isAgg3 rfl (gF fo_60_2 rfl (gL hm 0 isAgg3 rfl (gB rfl (gE (gsd 19 rfl (fun h0_3 => ?_) fun h0_3 => ?_)))))))))))
  ·
   exact gct rfl (gS (gR (gA rfl (gE (gRt (gr1 results55 rfl ⟨rfl, hm.below⟩))))))
  refine gcf rfl (gSk (gS (gS (gR (gF fo_60_3 rfl (gL hm 1 isAgg3 rfl (gF fo_60_3 rfl (gL hm 0 isAgg3 rfl (gB rfl (gE (gsd 24 rfl (fun h0_4 => ?_) fun h0_4 => ?_)))))))))))
  ·
   exact gct rfl (gS (gR (gA rfl (gE (gRt (gr1 results55 rfl ⟨rfl, hm.below⟩))))))
  refine gcf rfl (gSk (gS (gS (gR (gF fo_60_4 rfl (gL hm 1 isAgg3 rfl (gF fo_60_4 rfl (gL hm 0 isAgg3 rfl (gB rfl (gE (gsd 29 rfl (fun h0_5 => ?_) fun h0_5 => ?_)))))))))))
  ·
   exact gct rfl (gS (gR (gA rfl (gE (gRt (gr1 results55 rfl ⟨rfl, hm.below⟩))))))
  exact gcf rfl (gSk (gS (gR (gA rfl (gE (gRt (gr1 results55 rfl ⟨rfl, hm.below⟩)))))))

theorem laws_eqMinsS_ok (w0 : World) (a_ : List Mins) (v1 : Value) (h1 : GT.rep (hp w0) [v1] a_) (b_ : List Mins) (v2 : Value) (h2 : GT.rep (hp w0) [v2] b_) :
    ConM Try.prog 30 [v1, v2] w0 (laws_eqMinsS a_ b_) fun r v w' => v = (.bool (r)) ∧ Below w0.heap.size w0 w' := by
  unfold laws_eqMinsS
  refine gcon func30 rfl fun r => ?_
  have hm := Mem.start w0
  refine gS (gR (gA rfl (gE (gS (gS (gR (gM rfl ?_)))))))
  obtain ⟨p0_1, c0_1, rfl, hl0_1⟩ := ro_slice h1
  refine gY (yV st_28 rfl) (gM rfl ?_)
  obtain ⟨p0_2, c0_2, rfl, hl0_2⟩ := ro_slice h2
  refine gY (yV st_28 rfl) (gB rfl (gE (gsd 10 rfl (fun h0_1 => ?_) fun h0_1 => ?_)))
  ·
   exact gct rfl (gS (gR (gA rfl (gE (gRt (gr1 results30 rfl ⟨rfl, hm.below⟩))))))
  refine gcf rfl (gSk (gS (gS (gR (gA rfl (gE (gBk (gNf hm (fun i1_1 xs1_1 => [(0, (.slice p0_1 a_.length c0_1)), (1, (.slice p0_2 b_.length c0_2)), (5, (nV i1_1))]) (fun i1_1 xs1_1 => []) [] rfl ?_ ?_))))))))
  ·
   repeat clear hm
   intro r0_1 hq0_1 i1_1 xs1_1 w hm hi0_1 hi0_2 q0_1 ho0_1
   refine gS (gS (gR (gM rfl (gM rfl (gY (yV st_28 rfl) (gB rfl (gE (go _ 14 rfl (decide_eq_true (by omega)) (gct rfl (gSk (gS (gBk (gS (gW (.p 0 (.p 1 (.p 2 (.p 4 (.p 5 (.p 6 (.q 3 (.e 7 (.e 8 (.p 9 .fin) .nil) .nil)))))))) [7] [0, 1, 2, 4, 5, 6, 9] hm [] [] rfl mxo (by kernel_rfl) (fun _ _ _ h => h.2) fun w hm hS => tP rfl (fun w => yM rfl) (tP rfl (fun w => yM rfl) (gg fun x1_1 h1_1 hx1_2 => ?_))))))))))))))))
   obtain ⟨b1_1, o1_1, c1_1, he⟩ := idx_form h1 hx1_2
   simp only [Value.slice.injEq, Option.some.injEq] at he; obtain ⟨rfl, _, rfl⟩ := he
   refine tP rfl (fun w => yI st_28 h1_1 (idx_lt hx1_2) rfl) (tP rfl (fun w => yM rfl) (tP rfl (fun w => yM rfl) (gg fun x1_2 h1_2 hx1_4 => ?_)))
   obtain ⟨b1_2, o1_2, c1_2, he⟩ := idx_form h2 hx1_4
   simp only [Value.slice.injEq, Option.some.injEq] at he; obtain ⟨rfl, _, rfl⟩ := he
   refine tP rfl (fun w => yI st_28 h1_2 (idx_lt hx1_4) rfl) (tQ rfl hS (fun w hm => yn (flat_cells (cs := [(nV x1_1.op), (nV x1_1.a_), (nV x1_1.b), (nV x1_1.c), (nV x1_1.n_)]) (hm.now h1) hx1_2 rfl) isAgg60 sizeOf60 rfl) (tO (tY rfl (yn (flat_cells (cs := [(nV x1_2.op), (nV x1_2.a_), (nV x1_2.b), (nV x1_2.c), (nV x1_2.n_)]) (hm.now h2) hx1_4 rfl) isAgg60 sizeOf60 rfl) (tAs hS (tO (gb fun r1_1 hx1_5 => tf rfl rfl (fun a hf => e_call hf rfl call55 rfl (laws_eqMins_ok _ x1_1 x1_2 _ hx1_5)) ?_))))))
   rintro v1_1 w ⟨rfl, hB⟩
   replace hm := hm.below' hB; clear hB
   refine tAn rfl (tP rfl (fun w => yN rfl) (tE (gsn 26 rfl (fun h1_3 => ?_) fun h1_3 => ?_)))
   ·
    exact gct rfl (gS (gR (gA rfl (gE (gRt (gLr ho0_1 hq0_1 (gr1 results30 rfl ⟨rfl, hm.below⟩)))))))
   exact gcf rfl (gSk (gR (gM rfl (gP (by omega) (by omega) rfl (gA rfl (gE (gze hm [] rfl)))))))
  repeat clear hm
  intro i0_1 xs0_1 w hm hi0_3 hi0_4
  exact gS (gS (gR (gM rfl (gM rfl (gY (yV st_28 rfl) (gB rfl (gE (go _ 14 rfl (decide_eq_false (by omega)) (gcf rfl (gXt (gHh (gS (gR (gA rfl (gE (gRt (gr1 results30 rfl ⟨rfl, hm.below⟩)))))))))))))))))

theorem laws_eqMfn_ok (w0 : World) (a_ : Mfn) (v1 : Value) (h1 : GT.rep (hp w0) [v1] a_.ins) (b_ : Mfn) (v2 : Value) (h2 : GT.rep (hp w0) [v2] b_.ins) :
    ConM Try.prog 10 [(.agg #[(nV a_.params), (nV a_.slots), v1]), (.agg #[(nV b_.params), (nV b_.slots), v2])] w0 (laws_eqMfn a_ b_) fun r v w' => v = (.bool (r)) ∧ Below w0.heap.size w0 w' := by
  unfold laws_eqMfn
  refine gcon func10 rfl fun r => ?_
  have hm := Mem.start w0
  refine gS (gR (gBx hm rfl fun b0_1 w hm => gBx hm rfl fun b0_2 w hm => gA rfl (gE (gS (gS (gR (gF fo_30_0 rfl (gL hm 1 isAgg3 rfl (gF fo_30_0 rfl (gL hm 0 isAgg3 rfl (gB rfl (gE (gsd 9 rfl (fun h0_1 => ?_) fun h0_1 => ?_)))))))))))))
  ·
   exact gct rfl (gS (gR (gA rfl (gE (gRt (gr1 results10 rfl ⟨rfl, hm.below⟩))))))
  refine gcf rfl (gSk (gS (gS (gR (gF fo_30_1 rfl (gL hm 1 isAgg3 rfl (gF fo_30_1 rfl (gL hm 0 isAgg3 rfl (gB rfl (gE (gsd 14 rfl (fun h0_2 => ?_) fun h0_2 => ?_)))))))))))
  ·
   exact gct rfl (gS (gR (gA rfl (gE (gRt (gr1 results10 rfl ⟨rfl, hm.below⟩))))))
  refine gcf rfl (gSk (gS (gS (gR (gF fo_30_2 rfl (gL hm 1 isAgg28 rfl (gF fo_30_2 rfl (gL hm 0 isAgg28 rfl (gC hm rfl call30 (laws_eqMinsS_ok _ a_.ins v1 (hm.now h1) b_.ins v2 (hm.now h2)) fun r0_1 hx0_1 w hm => gN rfl (gE (gsn 20 rfl (fun h0_3 => ?_) fun h0_3 => ?_)))))))))))
  ·
   exact gct rfl (gS (gR (gA rfl (gE (gRt (gr1 results10 rfl ⟨rfl, hm.below⟩))))))
  exact gcf rfl (gSk (gS (gR (gA rfl (gE (gRt (gr1 results10 rfl ⟨rfl, hm.below⟩)))))))

theorem laws_markMinsS_ok (w0 : World) (hz : Heap) (a_ : List Mins) (v1 : Value) (k_ : Int) (hm0 : Mem w0 hz w0 [ow [v1] a_]) :
    ConM Try.prog 31 [v1, (nV k_)] w0 (laws_markMinsS a_ k_) fun r v w' => v = (nV r.1) ∧ Mem w0 hz w' [ow [v1] r.2] := by
  unfold laws_markMinsS
  refine gcon func31 rfl fun r => ?_
  have hm := hm0
  refine gS (gR (gA rfl (gE (gS (gS (gR (gA rfl (gE ?_))))))))
  obtain ⟨p0_1, c0_1, rfl, hl0_1⟩ := ro_slice (hm.ow_rep 0 rfl)
  refine gBk (gNf hm (fun i1_1 xs1_1 => [(0, (.slice p0_1 a_.length c0_1)), (1, (nV xs1_1.2)), (5, (nV i1_1))]) (fun i1_1 xs1_1 => [ow [(.slice p0_1 a_.length c0_1)] xs1_1.1]) [0] rfl ?_ ?_)
  ·
   repeat clear hm
   intro _ _ i1_1 xs1_1 w hm hi0_1 hi0_2 q0_1 _
   refine gS (gS (gR (gM rfl (gM rfl ?_))))
   have hl1_1 := rep_len (hm.ow_rep 0 rfl)
   refine gY (yV st_28 rfl) (gB rfl (gE (go _ 9 rfl (decide_eq_true (by omega)) (gct rfl (gSk (gS (gBk (gS (gR (gM rfl (gM rfl (gM rfl (gg fun x1_1 h1_1 hx1_2 => ?_)))))))))))))
   obtain ⟨b1_1, o1_1, c1_1, he⟩ := idx_form (hm.ow_rep 0 rfl) hx1_2
   simp only [Value.slice.injEq, Option.some.injEq] at he; obtain ⟨rfl, _, rfl⟩ := he
   have hL1_1 := rep_slice_len (hm.ow_rep 0 rfl)
   refine gI st_28 h1_1 (idx_lt2 hx1_2 hL1_1) rfl (gF fo_60_0 rfl (gf0 rfl (fun a hf => e_setElem (x1 := (⟨xs1_1.2, x1_1.a_, x1_1.b, x1_1.c, x1_1.n_⟩ : Mins)) (j := 0) (vs := [(nV xs1_1.2)]) 0 hf hm rfl hx1_2 rfl sizeOf3 rfl rfl rfl (one_cons rfl one_nil) rfl rfl) ?_))
   rintro _ w hm
   have hx1_3 := List.getElem?_set_self (a := (⟨xs1_1.2, x1_1.a_, x1_1.b, x1_1.c, x1_1.n_⟩ : Mins)) (idx_lt hx1_2)
   refine gE (gS (gR (gM rfl (gB rfl (gA rfl (gE (gS (gR (gM rfl (gM rfl (gM rfl ?_)))))))))))
   have hL1_2 := rep_slice_len (hm.ow_rep 0 rfl)
   refine gI st_28 h1_1 (idx_lt2 hx1_3 hL1_2) rfl (gF fo_60_1 rfl (gf0 rfl (fun a hf => e_setElem (x1 := (⟨xs1_1.2, w64 (xs1_1.2 + 1), x1_1.b, x1_1.c, x1_1.n_⟩ : Mins)) (j := 1) (vs := [(nV (w64 (xs1_1.2 + 1)))]) 0 hf hm rfl hx1_3 rfl sizeOf3 rfl rfl rfl (one_cons rfl one_nil) rfl rfl) ?_))
   rintro _ w hm
   have hx1_4 := List.getElem?_set_self (a := (⟨xs1_1.2, w64 (xs1_1.2 + 1), x1_1.b, x1_1.c, x1_1.n_⟩ : Mins)) (idx_lt hx1_2)
   simp only [List.set_set] at hm
   refine gE (gS (gR (gM rfl (gB rfl (gA rfl (gE (gS (gR (gM rfl (gM rfl (gM rfl ?_)))))))))))
   have hL1_3 := rep_slice_len (hm.ow_rep 0 rfl)
   refine gI st_28 h1_1 (idx_lt2 hx1_4 hL1_3) rfl (gF fo_60_2 rfl (gf0 rfl (fun a hf => e_setElem (x1 := (⟨xs1_1.2, w64 (xs1_1.2 + 1), w64 ((w64 (xs1_1.2 + 1)) + 1), x1_1.c, x1_1.n_⟩ : Mins)) (j := 2) (vs := [(nV (w64 ((w64 (xs1_1.2 + 1)) + 1)))]) 0 hf hm rfl hx1_4 rfl sizeOf3 rfl rfl rfl (one_cons rfl one_nil) rfl rfl) ?_))
   rintro _ w hm
   have hx1_5 := List.getElem?_set_self (a := (⟨xs1_1.2, w64 (xs1_1.2 + 1), w64 ((w64 (xs1_1.2 + 1)) + 1), x1_1.c, x1_1.n_⟩ : Mins)) (idx_lt hx1_2)
   simp only [List.set_set] at hm
   refine gE (gS (gR (gM rfl (gB rfl (gA rfl (gE (gS (gR (gM rfl (gM rfl (gM rfl ?_)))))))))))
   have hL1_4 := rep_slice_len (hm.ow_rep 0 rfl)
   refine gI st_28 h1_1 (idx_lt2 hx1_5 hL1_4) rfl (gF fo_60_3 rfl (gf0 rfl (fun a hf => e_setElem (x1 := (⟨xs1_1.2, w64 (xs1_1.2 + 1), w64 ((w64 (xs1_1.2 + 1)) + 1), w64 ((w64 ((w64 (xs1_1.2 + 1)) + 1)) + 1), x1_1.n_⟩ : Mins)) (j := 3) (vs := [(nV (w64 ((w64 ((w64 (xs1_1.2 + 1)) + 1)) + 1)))]) 0 hf hm rfl hx1_5 rfl sizeOf3 rfl rfl rfl (one_cons rfl one_nil) rfl rfl) ?_))
   rintro _ w hm
   have hx1_6 := List.getElem?_set_self (a := (⟨xs1_1.2, w64 (xs1_1.2 + 1), w64 ((w64 (xs1_1.2 + 1)) + 1), w64 ((w64 ((w64 (xs1_1.2 + 1)) + 1)) + 1), x1_1.n_⟩ : Mins)) (idx_lt hx1_2)
   simp only [List.set_set] at hm
   refine gE (gS (gR (gM rfl (gB rfl (gA rfl (gE (gS (gR (gM rfl (gM rfl (gM rfl ?_)))))))))))
   have hL1_5 := rep_slice_len (hm.ow_rep 0 rfl)
   refine gI st_28 h1_1 (idx_lt2 hx1_6 hL1_5) rfl (gF fo_60_4 rfl (gf0 rfl (fun a hf => e_setElem (x1 := (⟨xs1_1.2, w64 (xs1_1.2 + 1), w64 ((w64 (xs1_1.2 + 1)) + 1), w64 ((w64 ((w64 (xs1_1.2 + 1)) + 1)) + 1), w64 ((w64 ((w64 ((w64 (xs1_1.2 + 1)) + 1)) + 1)) + 1)⟩ : Mins)) (j := 4) (vs := [(nV (w64 ((w64 ((w64 ((w64 (xs1_1.2 + 1)) + 1)) + 1)) + 1)))]) 0 hf hm rfl hx1_6 rfl sizeOf3 rfl rfl rfl (one_cons rfl one_nil) rfl rfl) ?_))
   rintro _ w hm
   have hx1_7 := List.getElem?_set_self (a := (⟨xs1_1.2, w64 (xs1_1.2 + 1), w64 ((w64 (xs1_1.2 + 1)) + 1), w64 ((w64 ((w64 (xs1_1.2 + 1)) + 1)) + 1), w64 ((w64 ((w64 ((w64 (xs1_1.2 + 1)) + 1)) + 1)) + 1)⟩ : Mins)) (idx_lt hx1_2)
   simp only [List.set_set] at hm
   exact gE (gR (gM rfl (gB rfl (gA rfl (gE (gR (gM rfl (gP (by omega) (by omega) rfl (gA rfl (gE (gze hm [0] rfl)))))))))))
  repeat clear hm
  intro i0_1 xs0_1 w hm hi0_3 hi0_4
  refine gS (gS (gR (gM rfl (gM rfl ?_))))
  have hl0_2 := rep_len (hm.ow_rep 0 rfl)
  exact gY (yV st_28 rfl) (gB rfl (gE (go _ 9 rfl (decide_eq_false (by omega)) (gcf rfl (gXt (gHh (gS (gR (gM rfl (gA rfl (gE (gRt (gr1 results31 rfl ⟨rfl, hm.pk [0] rfl rfl⟩)))))))))))))

theorem laws_markMfn_ok (w0 : World) (hz : Heap) (a_ : Mfn) (v1 : Value) (k_ : Int) (hm0 : Mem w0 hz w0 [ow [v1] a_.ins]) :
    ConM Try.prog 11 [(.agg #[(nV a_.params), (nV a_.slots), v1]), (nV k_)] w0 (laws_markMfn a_ k_) fun r v w' => v = (nV r.1) ∧ Mem w0 hz w' [ow [v1] r.2] := by
  unfold laws_markMfn
  refine gcon func11 rfl fun r => ?_
  have hm := hm0
  refine gS (gR (gBx hm rfl fun b0_1 w hm => gA rfl (gE (gS (gR (gF fo_30_2 rfl (gL hm 0 isAgg28 rfl (gM rfl ?_))))))))
  obtain ⟨hz0_1, hle, hm1, hsub, hk0_1⟩ := hm.take2 (L1 := [ow [v1] a_.ins]) (L2 := [blk b0_1 [(nV a_.params), (nV a_.slots), v1] 30]) [1] [0] (by decide) rfl rfl
  refine gCg rfl call31 (laws_markMinsS_ok _ hz0_1 a_.ins v1 k_ hm1 ) ?_
  rintro r0_1 hx0_1 v0_1 w ⟨rfl, hB⟩
  replace hm := hk0_1 _ _ hB; clear hB
  exact gA rfl (gE (gS (gR (gM rfl (gA rfl (gE (gRt (gr1 results11 rfl ⟨rfl, hm.pk [0] rfl rfl⟩))))))))

theorem laws_markIntS_ok (w0 : World) (hz : Heap) (a_ : List Int) (v1 : Value) (k_ : Int) (hm0 : Mem w0 hz w0 [ow [v1] a_]) :
    ConM Try.prog 12 [v1, (nV k_)] w0 (laws_markIntS a_ k_) fun r v w' => v = (nV r.1) ∧ Mem w0 hz w' [ow [v1] r.2] := by
  unfold laws_markIntS
  refine gcon func12 rfl fun r => ?_
  have hm := hm0
  refine gS (gR (gA rfl (gE (gS (gS (gR (gA rfl (gE ?_))))))))
  obtain ⟨p0_1, c0_1, rfl, hl0_1⟩ := ro_slice (hm.ow_rep 0 rfl)
  refine gBk (gNf hm (fun i1_1 xs1_1 => [(0, (.slice p0_1 a_.length c0_1)), (1, (nV xs1_1.2)), (5, (nV i1_1))]) (fun i1_1 xs1_1 => [ow [(.slice p0_1 a_.length c0_1)] xs1_1.1]) [0] rfl ?_ ?_)
  ·
   repeat clear hm
   intro _ _ i1_1 xs1_1 w hm hi0_1 hi0_2 q0_1 _
   refine gS (gS (gR (gM rfl (gM rfl ?_))))
   have hl1_1 := rep_len (hm.ow_rep 0 rfl)
   refine gY (yV st_26 rfl) (gB rfl (gE (go _ 9 rfl (decide_eq_true (by omega)) (gct rfl (gSk (gS (gBk (gS (gR (gM rfl (gM rfl (gM rfl (gg fun x1_1 h1_1 hx1_2 => ?_)))))))))))))
   obtain ⟨b1_1, o1_1, c1_1, he⟩ := idx_form (hm.ow_rep 0 rfl) hx1_2
   simp only [Value.slice.injEq, Option.some.injEq] at he; obtain ⟨rfl, _, rfl⟩ := he
   have hL1_1 := rep_slice_len (hm.ow_rep 0 rfl)
   refine gI st_26 h1_1 (idx_lt2 hx1_2 hL1_1) rfl (gf0 rfl (fun a hf => e_setElem (x1 := xs1_1.2) (j := 0) (vs := [(nV xs1_1.2)]) 0 hf hm rfl hx1_2 rfl sizeOf3 rfl rfl rfl (one_cons rfl one_nil) rfl rfl) ?_)
   rintro _ w hm
   have hx1_3 := List.getElem?_set_self (a := xs1_1.2) (idx_lt hx1_2)
   exact gE (gR (gM rfl (gB rfl (gA rfl (gE (gR (gM rfl (gP (by omega) (by omega) rfl (gA rfl (gE (gze hm [0] rfl)))))))))))
  repeat clear hm
  intro i0_1 xs0_1 w hm hi0_3 hi0_4
  refine gS (gS (gR (gM rfl (gM rfl ?_))))
  have hl0_2 := rep_len (hm.ow_rep 0 rfl)
  exact gY (yV st_26 rfl) (gB rfl (gE (go _ 9 rfl (decide_eq_false (by omega)) (gcf rfl (gXt (gHh (gS (gR (gM rfl (gA rfl (gE (gRt (gr1 results12 rfl ⟨rfl, hm.pk [0] rfl rfl⟩)))))))))))))

theorem laws_heldIntS_ok (w0 : World) (a_ : List Int) (v1 : Value) (h1 : GT.rep (hp w0) [v1] a_) (k_ : Int) :
    ConM Try.prog 13 [v1, (nV k_)] w0 (laws_heldIntS a_ k_) fun r v w' => v = (nV r) ∧ Below w0.heap.size w0 w' := by
  unfold laws_heldIntS
  refine gcon func13 rfl fun r => ?_
  have hm := Mem.start w0
  refine gS (gR (gA rfl (gE (gS (gS (gR (gA rfl (gE (gBk (gNf hm (fun i1_1 xs1_1 => [(0, v1), (1, (nV xs1_1)), (5, (nV i1_1))]) (fun i1_1 xs1_1 => []) [] rfl ?_ ?_))))))))))
  ·
   repeat clear hm
   intro r0_1 hq0_1 i1_1 xs1_1 w hm hi0_1 hi0_2 q0_1 ho0_1
   refine gS (gS (gR (gM rfl (gM rfl ?_))))
   obtain ⟨p1_1, c1_1, rfl, hl1_1⟩ := ro_slice h1
   refine gY (yV st_26 rfl) (gB rfl (gE (go _ 9 rfl (decide_eq_true (by omega)) (gct rfl (gSk (gS (gBk (gS (gS (gR (gM rfl (gM rfl (gg fun x1_1 h1_1 hx1_2 => ?_)))))))))))))
   obtain ⟨b1_1, o1_1, c1_2, he⟩ := idx_form h1 hx1_2
   simp only [Value.slice.injEq, Option.some.injEq] at he; obtain ⟨rfl, _, rfl⟩ := he
   refine gI st_26 h1_1 (idx_lt hx1_2) rfl (gY (yl isAgg3 ((flat_cells (cs := [(nV x1_1)]) (hm.now h1) hx1_2 rfl).cell (j := 0) rfl) rfl) (gM rfl (gB rfl (gE (gsd 17 rfl (fun h1_2 => ?_) fun h1_2 => ?_)))))
   ·
    exact gct rfl (gS (gR (gA rfl (gE (gRt (gLr ho0_1 hq0_1 (gr1 results13 rfl ⟨rfl, hm.below⟩)))))))
   exact gcf rfl (gSk (gR (gM rfl (gB rfl (gA rfl (gE (gR (gM rfl (gP (by omega) (by omega) rfl (gA rfl (gE (gze hm [] rfl))))))))))))
  repeat clear hm
  intro i0_1 xs0_1 w hm hi0_3 hi0_4
  refine gS (gS (gR (gM rfl (gM rfl ?_))))
  obtain ⟨p0_1, c0_1, rfl, hl0_1⟩ := ro_slice h1
  exact gY (yV st_26 rfl) (gB rfl (gE (go _ 9 rfl (decide_eq_false (by omega)) (gcf rfl (gXt (gHh (gS (gR (gM rfl (gA rfl (gE (gRt (gr1 results13 rfl ⟨rfl, hm.below⟩)))))))))))))

theorem laws_FnExactReachedMins_ok (w0 : World) (aF : Mfn) (v1 : Value) (h1 : GT.rep (hp w0) [v1] aF.ins) :
    ConM Try.prog 3 [(.agg #[(nV aF.params), (nV aF.slots), v1])] w0 (laws_FnExactReachedMins aF) fun r v w' => v = (.bool (r)) ∧ Below w0.heap.size w0 w' := by
  unfold laws_FnExactReachedMins
  refine gcon func3 rfl fun r => ?_
  have hm := Mem.start w0
  refine gS (gR (gBx hm rfl fun b0_1 w hm => gA rfl (gE (gS (gR (gA rfl (gE (gS (gR (gY (yn (hm.blk_at 0 rfl) isAgg24 sizeOf24 rfl) (gM rfl (gC hm rfl call5 (laws_szMfn_ok _ aF v1 (hm.now h1) 1048576) fun r0_1 hx0_1 w hm => gA rfl (gE (gS (gS (gR (gM rfl (gB rfl (gE (gsd 15 rfl (fun h0_1 => ?_) fun h0_1 => ?_))))))))))))))))))))
  ·
   exact gct rfl (gS (gR (gA rfl (gE (gRt (gr1 results3 rfl ⟨rfl, hm.below⟩))))))
  refine gcf rfl (gSk (gS (gR (gY (yn (hm.blk_at 0 rfl) isAgg24 sizeOf24 rfl) (gCg rfl call7 (laws_toMfn_ok _ aF v1 (hm.now h1)) ?_)))))
  rintro r0_2 hx0_2 v0_2 w ⟨v0_3, rfl, hB⟩
  replace hm := hm.give hB; clear hB
  refine gCg rfl call6 (spec_ReachedMins_ok _ r0_2 v0_3 (hm.ow_rep 0 rfl)) ?_
  rintro r0_3 hx0_3 v0_4 w ⟨_, rfl, hB⟩
  replace hm := hm.give hB; clear hB
  refine gA rfl (gE (gS (gR (gY (yn (hm.blk_at 2 rfl) isAgg24 sizeOf24 rfl) (gCg rfl call7 (laws_toMfn_ok _ aF v1 (hm.now h1)) ?_)))))
  rintro r0_4 hx0_4 v0_6 w ⟨v0_7, rfl, hB⟩
  replace hm := hm.give hB; clear hB
  refine gAl hm zeroValue30 rfl fun b0_2 w hm => gSN hm 0 sizeOf30 (one_cons rfl (one_cons rfl (one_cons (rep_one (hm.ow_rep 1 rfl)) one_nil))) rfl fun w hm => gE (gS (gR (gY (yn (hm.blk_at 0 rfl) isAgg30 sizeOf30 rfl) (gCg rfl call8 (impl_ReachedMins_ok _ r0_4 v0_7 (hm.ow_rep 1 rfl)) ?_))))
  rintro r0_5 hx0_5 v0_8 w ⟨_, rfl, hB⟩
  replace hm := hm.give hB; clear hB
  refine gA rfl (gE (gS (gS (gR (gM rfl (gM rfl (gC hm rfl call9 (laws_eqIntS_ok _ r0_5 v0_8 (hm.ow_rep 0 rfl) r0_3 v0_4 (hm.ow_rep 3 rfl)) fun r0_6 hx0_6 w hm => gN rfl (gE (gsn 26 rfl (fun h0_2 => ?_) fun h0_2 => ?_)))))))))
  ·
   exact gct rfl (gS (gR (gA rfl (gE (gRt (gr1 results3 rfl ⟨rfl, hm.below⟩))))))
  refine gcf rfl (gSk (gS (gS (gW (.q 0 (.e 1 (.e 2 (.e 3 (.p 4 .fin) .nil) .nil) .nil)) [1, 2] [4] hm [0, 1, 2, 3, 4, 5] [ow [v0_8] r0_5, blk b0_2 [(nV r0_4.params), (nV r0_4.slots), v0_7] 30, ow [v0_7] r0_4.ins, ow [v0_4] r0_3, ow [v0_3] r0_2.ins, blk b0_1 [(nV aF.params), (nV aF.slots), v1] 24] rfl mxo (by kernel_rfl) (fun _ _ _ h => h.2) fun w hm hS => tQ rfl hS (fun w hm => yn (hm.blk_at 1 rfl) isAgg30 sizeOf30 rfl) (tO (tY rfl (yn (hm.blk_at 5 rfl) isAgg24 sizeOf24 rfl) (tAs hS (tO (gb fun r0_7 hx0_7 => tf rfl rfl (fun a hf => e_call hf rfl call7 rfl (laws_toMfn_ok _ aF v1 (hm.now h1) _ hx0_7)) ?_)))))))))
  rintro v0_11 w ⟨v0_12, rfl, hB⟩
  replace hm := hm.give hB; clear hB
  refine tAk hm [1, 2, 3, 4, 5, 6] rfl fun hS => tO (gb fun r0_8 hx0_8 => tf rfl rfl (fun a hf => e_call hf rfl call10 rfl (laws_eqMfn_ok _ r0_4 v0_7 (hm.ow_rep 3 rfl) r0_7 v0_12 (hm.ow_rep 0 rfl) _ hx0_8)) ?_)
  rintro v0_13 w ⟨rfl, hB⟩
  replace hm := hm.below' hB; clear hB
  refine tAn rfl (tP rfl (fun w => yN rfl) (tE (gsn 31 rfl (fun h0_3 => ?_) fun h0_3 => ?_)))
  ·
   exact gct rfl (gS (gR (gA rfl (gE (gRt (gr1 results3 rfl ⟨rfl, hm.below⟩))))))
  refine gcf rfl (gSk (gS (gR (gA rfl (gE (gS (gR (gY (yn (hm.blk_at 2 rfl) isAgg30 sizeOf30 rfl) (gM rfl ?_)))))))))
  obtain ⟨hz0_6, hle, hm1, hsub, hk0_1⟩ := hm.take2 (L1 := [ow [v0_7] r0_4.ins]) (L2 := [ow [v0_12] r0_7.ins, ow [v0_8] r0_5, blk b0_2 [(nV r0_4.params), (nV r0_4.slots), v0_7] 30, ow [v0_4] r0_3, ow [v0_3] r0_2.ins, blk b0_1 [(nV aF.params), (nV aF.slots), v1] 24]) [3] [0, 1, 2, 4, 5, 6] (by decide) rfl rfl
  refine gCg rfl call11 (laws_markMfn_ok _ hz0_6 r0_4 v0_7 1 hm1 ) ?_
  rintro r0_9 hx0_9 v0_14 w ⟨rfl, hB⟩
  replace hm := hk0_1 _ _ hB; clear hB
  refine gA rfl (gE (gS (gS (gJ hm (fun s0_1 => [(1, (pV b0_1)), (4, v0_4), (6, v0_8), (42, (.bool (s0_1)))]) (fun s0_1 => [blk b0_1 [(nV aF.params), (nV aF.slots), v1] 24, ow [v0_4] r0_3, ow [v0_8] r0_5]) (fun s0_1 => ?_) ?_))))
  ·
   refine gR (gM rfl (gB rfl (gM rfl (gsd 37 rfl (fun h1_1 => ?_) fun h1_1 => ?_))))
   ·
    exact gO rfl (gO rfl (gO rfl (gO rfl (gKt rfl (gE (gz hm [6, 4, 2] rfl))))))
   exact gM rfl (gM rfl (gC hm rfl call9 (laws_eqIntS_ok _ r0_5 v0_8 (hm.ow_rep 2 rfl) r0_3 v0_4 (hm.ow_rep 4 rfl)) fun r1_1 hx1_1 w hm => gN rfl (gKf rfl (gE (gz hm [6, 4, 2] rfl)))))
  repeat clear hm
  intro s0_1 w hm
  refine gs 42 rfl (fun h0_4 => ?_) fun h0_4 => ?_
  ·
   exact gct rfl (gS (gR (gA rfl (gE (gRt (gr1 results3 rfl ⟨rfl, hm.below⟩))))))
  refine gcf rfl (gSk (gS (gR (gA rfl (gE (gS (gR (gM rfl (gM rfl ?_)))))))))
  obtain ⟨hz0_8, hle, hm1, hsub, hk0_2⟩ := hm.take2 (L1 := [ow [v0_8] r0_5]) (L2 := [blk b0_1 [(nV aF.params), (nV aF.slots), v1] 24, ow [v0_4] r0_3]) [2] [0, 1] (by decide) rfl rfl
  refine gCg rfl call12 (laws_markIntS_ok _ hz0_8 r0_5 v0_8 1 hm1 ) ?_
  rintro r0_10 hx0_10 v0_15 w ⟨rfl, hB⟩
  replace hm := hk0_2 _ _ hB; clear hB
  refine gA rfl (gE (gS (gR (gA rfl (gE (gS (gR (gM rfl (gM rfl (gC hm rfl call13 (laws_heldIntS_ok _ r0_10.2 v0_8 (hm.ow_rep 0 rfl) 1) fun r0_11 hx0_11 w hm => gA rfl (gE (gS (gS (gR (gM rfl (gB rfl (gE (gsd 50 rfl (fun h0_5 => ?_) fun h0_5 => ?_))))))))))))))))))
  ·
   exact gct rfl (gS (gR (gA rfl (gE (gRt (gr1 results3 rfl ⟨rfl, hm.below⟩))))))
  refine gcf rfl (gSk (gS (gS (gR (gM rfl (gM rfl (gB rfl (gE (gsd 53 rfl (fun h0_6 => ?_) fun h0_6 => ?_)))))))))
  ·
   exact gct rfl (gS (gR (gA rfl (gE (gRt (gr1 results3 rfl ⟨rfl, hm.below⟩))))))
  refine gcf rfl (gSk (gS (gR (gY (yn (hm.blk_at 1 rfl) isAgg24 sizeOf24 rfl) (gCg rfl call7 (laws_toMfn_ok _ aF v1 (hm.now h1)) ?_)))))
  rintro r0_12 hx0_12 v0_17 w ⟨v0_18, rfl, hB⟩
  replace hm := hm.give hB; clear hB
  refine gCg rfl call8 (impl_ReachedMins_ok _ r0_12 v0_18 (hm.ow_rep 0 rfl)) ?_
  rintro r0_13 hx0_13 v0_19 w ⟨_, rfl, hB⟩
  replace hm := hm.give hB; clear hB
  refine gA rfl (gE (gS (gS (gR (gM rfl (gM rfl (gC hm rfl call9 (laws_eqIntS_ok _ r0_13 v0_19 (hm.ow_rep 0 rfl) r0_3 v0_4 (hm.ow_rep 4 rfl)) fun r0_14 hx0_14 w hm => gN rfl (gE (gsn 60 rfl (fun h0_7 => ?_) fun h0_7 => ?_)))))))))
  ·
   exact gct rfl (gS (gR (gA rfl (gE (gRt (gr1 results3 rfl ⟨rfl, hm.below⟩))))))
  refine gcf rfl (gSk (gS (gR (gA rfl (gE (gS (gR (gM rfl (gM rfl (gC hm rfl call13 (laws_heldIntS_ok _ r0_10.2 v0_8 (hm.ow_rep 2 rfl) 1) fun r0_15 hx0_15 w hm => gA rfl (gE (gS (gS (gR (gM rfl (gB rfl (gE (gsd 65 rfl (fun h0_8 => ?_) fun h0_8 => ?_))))))))))))))))))
  ·
   exact gct rfl (gS (gR (gA rfl (gE (gRt (gr1 results3 rfl ⟨rfl, hm.below⟩))))))
  refine gcf rfl (gSk (gS (gS (gR (gM rfl (gM rfl (gB rfl (gE (gsd 68 rfl (fun h0_9 => ?_) fun h0_9 => ?_)))))))))
  ·
   exact gct rfl (gS (gR (gA rfl (gE (gRt (gr1 results3 rfl ⟨rfl, hm.below⟩))))))
  exact gcf rfl (gSk (gS (gR (gA rfl (gE (gRt (gr1 results3 rfl ⟨rfl, hm.below⟩)))))))

end Go.Proofs.Ythfeimbpjeijpaa
