/- A part of the proof of FnExactIdleInsSaid. -/
import Derived.Test.YthfeimbpjeijpaaGreatLdWalksA
namespace Go.Proofs.YthfeimbpjeijpaaGreat
open Go Go.Wk Go.RowKit
set_option maxRecDepth 4000
set_option maxHeartbeats 4000000

open Tryz
theorem laws_eqBlock_ok (w0 : World) (a_ : Block_) (v1 : Value) (h1 : GT.rep (hp w0) [v1] a_.phis) (v2 : Value) (h2 : GT.rep (hp w0) [v2] a_.ins) (v3 : Value) (h3 : GT.rep (hp w0) [v3] a_.next_) (b_ : Block_) (v4 : Value) (h4 : GT.rep (hp w0) [v4] b_.phis) (v5 : Value) (h5 : GT.rep (hp w0) [v5] b_.ins) (v6 : Value) (h6 : GT.rep (hp w0) [v6] b_.next_) :
    ConM Tryz.prog 140 [(.agg #[v1, v2, (nV a_.jump), (nV a_.on), v3]), (.agg #[v4, v5, (nV b_.jump), (nV b_.on), v6])] w0 (laws_eqBlock a_ b_) fun r v w' => v = (.bool (r)) ∧ Below w0.heap.size w0 w' := by
  unfold laws_eqBlock
  refine gcon func140 rfl fun r => ?_
  have hm := Mem.start w0
  refine gS (gR (gBx hm rfl fun b0_1 w hm => gBx hm rfl fun b0_2 w hm => gA rfl (gE (gS (gS (gR (gF fo_77_0 rfl (gL hm 1 isAgg74 rfl (gF fo_77_0 rfl (gL hm 0 isAgg74 rfl (gC hm rfl call159 (laws_eqPhiS_ok _ a_.phis v1 (hm.now h1) b_.phis v4 (hm.now h4)) fun r0_1 hx0_1 w hm => gN rfl (gE (gsn 10 rfl (fun h0_1 => ?_) fun h0_1 => ?_)))))))))))))
  ·
   exact gct rfl (gS (gR (gA rfl (gE (gRt (gr1 results140 rfl ⟨rfl, hm.below⟩))))))
  refine gcf rfl (gSk (gS (gS (gR (gF fo_77_1 rfl (gL hm 1 isAgg75 rfl (gF fo_77_1 rfl (gL hm 0 isAgg75 rfl (gC hm rfl call160 (laws_eqInsS_ok _ a_.ins v2 (hm.now h2) b_.ins v5 (hm.now h5)) fun r0_2 hx0_2 w hm => gN rfl (gE (gsn 16 rfl (fun h0_2 => ?_) fun h0_2 => ?_)))))))))))
  ·
   exact gct rfl (gS (gR (gA rfl (gE (gRt (gr1 results140 rfl ⟨rfl, hm.below⟩))))))
  refine gcf rfl (gSk (gS (gS (gR (gF fo_77_2 rfl (gL hm 1 isAgg3 rfl (gF fo_77_2 rfl (gL hm 0 isAgg3 rfl (gB rfl (gE (gsd 21 rfl (fun h0_3 => ?_) fun h0_3 => ?_)))))))))))
  ·
   exact gct rfl (gS (gR (gA rfl (gE (gRt (gr1 results140 rfl ⟨rfl, hm.below⟩))))))
  refine gcf rfl (gSk (gS (gS (gR (gF fo_77_3 rfl (gL hm 1 isAgg3 rfl (gF fo_77_3 rfl (gL hm 0 isAgg3 rfl (gB rfl (gE (gsd 26 rfl (fun h0_4 => ?_) fun h0_4 => ?_)))))))))))
  ·
   exact gct rfl (gS (gR (gA rfl (gE (gRt (gr1 results140 rfl ⟨rfl, hm.below⟩))))))
  refine gcf rfl (gSk (gS (gS (gR (gF fo_77_4 rfl (gL hm 1 isAgg37 rfl (gF fo_77_4 rfl (gL hm 0 isAgg37 rfl (gC hm rfl call25 (laws_eqIntS_ok _ a_.next_ v3 (hm.now h3) b_.next_ v6 (hm.now h6)) fun r0_3 hx0_3 w hm => gN rfl (gE (gsn 32 rfl (fun h0_5 => ?_) fun h0_5 => ?_)))))))))))
  ·
   exact gct rfl (gS (gR (gA rfl (gE (gRt (gr1 results140 rfl ⟨rfl, hm.below⟩))))))
  exact gcf rfl (gSk (gS (gR (gA rfl (gE (gRt (gr1 results140 rfl ⟨rfl, hm.below⟩)))))))

theorem laws_eqBlockS_ok (w0 : World) (a_ : List Block_) (v1 : Value) (h1 : GT.rep (hp w0) [v1] a_) (b_ : List Block_) (v2 : Value) (h2 : GT.rep (hp w0) [v2] b_) :
    ConM Tryz.prog 109 [v1, v2] w0 (laws_eqBlockS a_ b_) fun r v w' => v = (.bool (r)) ∧ Below w0.heap.size w0 w' := by
  unfold laws_eqBlockS
  refine gcon func109 rfl fun r => ?_
  have hm := Mem.start w0
  refine gS (gR (gA rfl (gE (gS (gS (gR (gM rfl ?_)))))))
  obtain ⟨p0_1, c0_1, rfl, hl0_1⟩ := ro_slice h1
  refine gY (yV st_56 rfl) (gM rfl ?_)
  obtain ⟨p0_2, c0_2, rfl, hl0_2⟩ := ro_slice h2
  refine gY (yV st_56 rfl) (gB rfl (gE (gsd 10 rfl (fun h0_1 => ?_) fun h0_1 => ?_)))
  ·
   exact gct rfl (gS (gR (gA rfl (gE (gRt (gr1 results109 rfl ⟨rfl, hm.below⟩))))))
  refine gcf rfl (gSk (gS (gS (gR (gA rfl (gE (gBk (gNf hm (fun i1_1 xs1_1 => [(0, (.slice p0_1 a_.length c0_1)), (1, (.slice p0_2 b_.length c0_2)), (5, (nV i1_1))]) (fun i1_1 xs1_1 => []) [] rfl ?_ ?_))))))))
  ·
   repeat clear hm
   intro r0_1 hq0_1 i1_1 xs1_1 w hm hi0_1 hi0_2 q0_1 ho0_1
   refine gS (gS (gR (gM rfl (gM rfl (gY (yV st_56 rfl) (gB rfl (gE (go _ 14 rfl (decide_eq_true (by omega)) (gct rfl (gSk (gS (gBk (gS (gW (.p 0 (.p 1 (.p 2 (.p 4 (.p 5 (.p 6 (.q 3 (.e 7 (.e 8 (.p 9 .fin) .nil) .nil)))))))) [7] [0, 1, 2, 4, 5, 6, 9] hm [] [] rfl mxo (by kernel_rfl) (fun _ _ _ h => h.2) fun w hm hS => tP rfl (fun w => yM rfl) (tP rfl (fun w => yM rfl) (gg fun x1_1 h1_1 hx1_2 => ?_))))))))))))))))
   obtain ⟨b1_1, o1_1, c1_1, he⟩ := idx_form' h1 hx1_2
   simp only [Value.slice.injEq, Option.some.injEq] at he; obtain ⟨rfl, _, rfl⟩ := he
   obtain ⟨v1_1, v1_2, v1_3, hc1_1, h1_2, h1_3, h1_4⟩ := rk_Block_ h1 hx1_2
   refine tP rfl (fun w => yI st_56 h1_1 (idx_lt hx1_2) rfl) (tP rfl (fun w => yM rfl) (tP rfl (fun w => yM rfl) (gg fun x1_2 h1_5 hx1_4 => ?_)))
   obtain ⟨b1_2, o1_2, c1_2, he⟩ := idx_form' h2 hx1_4
   simp only [Value.slice.injEq, Option.some.injEq] at he; obtain ⟨rfl, _, rfl⟩ := he
   obtain ⟨v1_4, v1_5, v1_6, hc1_2, h1_6, h1_7, h1_8⟩ := rk_Block_ h2 hx1_4
   refine tP rfl (fun w => yI st_56 h1_5 (idx_lt hx1_4) rfl) (tQ rfl hS (fun w hm => yn (hc1_1.mono hm.lez) isAgg77 sizeOf77 rfl) (tO (tY rfl (yn (hc1_2.mono hm.lez) isAgg77 sizeOf77 rfl) (tAs hS (tO (gb fun r1_1 hx1_5 => tf rfl rfl (fun a hf => e_call hf rfl call140 rfl (laws_eqBlock_ok _ x1_1 v1_1 (hm.now h1_2) v1_2 (hm.now h1_3) v1_3 (hm.now h1_4) x1_2 v1_4 (hm.now h1_6) v1_5 (hm.now h1_7) v1_6 (hm.now h1_8) _ hx1_5)) ?_))))))
   rintro v1_7 w ⟨rfl, hB⟩
   replace hm := hm.below' hB; clear hB
   refine tAn rfl (tP rfl (fun w => yN rfl) (tE (gsn 26 rfl (fun h1_9 => ?_) fun h1_9 => ?_)))
   ·
    exact gct rfl (gS (gR (gA rfl (gE (gRt (gLr ho0_1 hq0_1 (gr1 results109 rfl ⟨rfl, hm.below⟩)))))))
   exact gcf rfl (gSk (gR (gM rfl (gP (by omega) (by omega) rfl (gA rfl (gE (gze hm [] rfl)))))))
  repeat clear hm
  intro i0_1 xs0_1 w hm hi0_3 hi0_4
  exact gS (gS (gR (gM rfl (gM rfl (gY (yV st_56 rfl) (gB rfl (gE (go _ 14 rfl (decide_eq_false (by omega)) (gcf rfl (gXt (gHh (gS (gR (gA rfl (gE (gRt (gr1 results109 rfl ⟨rfl, hm.below⟩)))))))))))))))))

theorem laws_eqCode_ok (w0 : World) (a_ : Code_) (v1 : Value) (h1 : GT.rep (hp w0) [v1] a_.blocks) (b_ : Code_) (v2 : Value) (h2 : GT.rep (hp w0) [v2] b_.blocks) :
    ConM Tryz.prog 80 [(.agg #[(nV a_.params), (nV a_.regs), v1]), (.agg #[(nV b_.params), (nV b_.regs), v2])] w0 (laws_eqCode a_ b_) fun r v w' => v = (.bool (r)) ∧ Below w0.heap.size w0 w' := by
  unfold laws_eqCode
  refine gcon func80 rfl fun r => ?_
  have hm := Mem.start w0
  refine gS (gR (gBx hm rfl fun b0_1 w hm => gBx hm rfl fun b0_2 w hm => gA rfl (gE (gS (gS (gR (gF fo_58_0 rfl (gL hm 1 isAgg3 rfl (gF fo_58_0 rfl (gL hm 0 isAgg3 rfl (gB rfl (gE (gsd 9 rfl (fun h0_1 => ?_) fun h0_1 => ?_)))))))))))))
  ·
   exact gct rfl (gS (gR (gA rfl (gE (gRt (gr1 results80 rfl ⟨rfl, hm.below⟩))))))
  refine gcf rfl (gSk (gS (gS (gR (gF fo_58_1 rfl (gL hm 1 isAgg3 rfl (gF fo_58_1 rfl (gL hm 0 isAgg3 rfl (gB rfl (gE (gsd 14 rfl (fun h0_2 => ?_) fun h0_2 => ?_)))))))))))
  ·
   exact gct rfl (gS (gR (gA rfl (gE (gRt (gr1 results80 rfl ⟨rfl, hm.below⟩))))))
  refine gcf rfl (gSk (gS (gS (gR (gF fo_58_2 rfl (gL hm 1 isAgg56 rfl (gF fo_58_2 rfl (gL hm 0 isAgg56 rfl (gC hm rfl call109 (laws_eqBlockS_ok _ a_.blocks v1 (hm.now h1) b_.blocks v2 (hm.now h2)) fun r0_1 hx0_1 w hm => gN rfl (gE (gsn 20 rfl (fun h0_3 => ?_) fun h0_3 => ?_)))))))))))
  ·
   exact gct rfl (gS (gR (gA rfl (gE (gRt (gr1 results80 rfl ⟨rfl, hm.below⟩))))))
  exact gcf rfl (gSk (gS (gR (gA rfl (gE (gRt (gr1 results80 rfl ⟨rfl, hm.below⟩)))))))

theorem laws_eqCodeS_ok (w0 : World) (a_ : List Code_) (v1 : Value) (h1 : GT.rep (hp w0) [v1] a_) (b_ : List Code_) (v2 : Value) (h2 : GT.rep (hp w0) [v2] b_) :
    ConM Tryz.prog 51 [v1, v2] w0 (laws_eqCodeS a_ b_) fun r v w' => v = (.bool (r)) ∧ Below w0.heap.size w0 w' := by
  unfold laws_eqCodeS
  refine gcon func51 rfl fun r => ?_
  have hm := Mem.start w0
  refine gS (gR (gA rfl (gE (gS (gS (gR (gM rfl ?_)))))))
  obtain ⟨p0_1, c0_1, rfl, hl0_1⟩ := ro_slice h1
  refine gY (yV st_28 rfl) (gM rfl ?_)
  obtain ⟨p0_2, c0_2, rfl, hl0_2⟩ := ro_slice h2
  refine gY (yV st_28 rfl) (gB rfl (gE (gsd 10 rfl (fun h0_1 => ?_) fun h0_1 => ?_)))
  ·
   exact gct rfl (gS (gR (gA rfl (gE (gRt (gr1 results51 rfl ⟨rfl, hm.below⟩))))))
  refine gcf rfl (gSk (gS (gS (gR (gA rfl (gE (gBk (gNf hm (fun i1_1 xs1_1 => [(0, (.slice p0_1 a_.length c0_1)), (1, (.slice p0_2 b_.length c0_2)), (5, (nV i1_1))]) (fun i1_1 xs1_1 => []) [] rfl ?_ ?_))))))))
  ·
   repeat clear hm
   intro r0_1 hq0_1 i1_1 xs1_1 w hm hi0_1 hi0_2 q0_1 ho0_1
   refine gS (gS (gR (gM rfl (gM rfl (gY (yV st_28 rfl) (gB rfl (gE (go _ 14 rfl (decide_eq_true (by omega)) (gct rfl (gSk (gS (gBk (gS (gW (.p 0 (.p 1 (.p 2 (.p 4 (.p 5 (.p 6 (.q 3 (.e 7 (.e 8 (.p 9 .fin) .nil) .nil)))))))) [7] [0, 1, 2, 4, 5, 6, 9] hm [] [] rfl mxo (by kernel_rfl) (fun _ _ _ h => h.2) fun w hm hS => tP rfl (fun w => yM rfl) (tP rfl (fun w => yM rfl) (gg fun x1_1 h1_1 hx1_2 => ?_))))))))))))))))
   obtain ⟨b1_1, o1_1, c1_1, he⟩ := idx_form' h1 hx1_2
   simp only [Value.slice.injEq, Option.some.injEq] at he; obtain ⟨rfl, _, rfl⟩ := he
   obtain ⟨v1_1, hc1_1, h1_2⟩ := rk_Code_ h1 hx1_2
   refine tP rfl (fun w => yI st_28 h1_1 (idx_lt hx1_2) rfl) (tP rfl (fun w => yM rfl) (tP rfl (fun w => yM rfl) (gg fun x1_2 h1_3 hx1_4 => ?_)))
   obtain ⟨b1_2, o1_2, c1_2, he⟩ := idx_form' h2 hx1_4
   simp only [Value.slice.injEq, Option.some.injEq] at he; obtain ⟨rfl, _, rfl⟩ := he
   obtain ⟨v1_2, hc1_2, h1_4⟩ := rk_Code_ h2 hx1_4
   refine tP rfl (fun w => yI st_28 h1_3 (idx_lt hx1_4) rfl) (tQ rfl hS (fun w hm => yn (hc1_1.mono hm.lez) isAgg58 sizeOf58 rfl) (tO (tY rfl (yn (hc1_2.mono hm.lez) isAgg58 sizeOf58 rfl) (tAs hS (tO (gb fun r1_1 hx1_5 => tf rfl rfl (fun a hf => e_call hf rfl call80 rfl (laws_eqCode_ok _ x1_1 v1_1 (hm.now h1_2) x1_2 v1_2 (hm.now h1_4) _ hx1_5)) ?_))))))
   rintro v1_3 w ⟨rfl, hB⟩
   replace hm := hm.below' hB; clear hB
   refine tAn rfl (tP rfl (fun w => yN rfl) (tE (gsn 26 rfl (fun h1_5 => ?_) fun h1_5 => ?_)))
   ·
    exact gct rfl (gS (gR (gA rfl (gE (gRt (gLr ho0_1 hq0_1 (gr1 results51 rfl ⟨rfl, hm.below⟩)))))))
   exact gcf rfl (gSk (gR (gM rfl (gP (by omega) (by omega) rfl (gA rfl (gE (gze hm [] rfl)))))))
  repeat clear hm
  intro i0_1 xs0_1 w hm hi0_3 hi0_4
  exact gS (gS (gR (gM rfl (gM rfl (gY (yV st_28 rfl) (gB rfl (gE (go _ 14 rfl (decide_eq_false (by omega)) (gcf rfl (gXt (gHh (gS (gR (gA rfl (gE (gRt (gr1 results51 rfl ⟨rfl, hm.below⟩)))))))))))))))))

theorem laws_eqUnit_ok (w0 : World) (a_ : Unit_) (v1 : Value) (h1 : GT.rep (hp w0) [v1] a_.codes) (b_ : Unit_) (v2 : Value) (h2 : GT.rep (hp w0) [v2] b_.codes) :
    ConM Tryz.prog 17 [(.agg #[v1]), (.agg #[v2])] w0 (laws_eqUnit a_ b_) fun r v w' => v = (.bool (r)) ∧ Below w0.heap.size w0 w' := by
  unfold laws_eqUnit
  refine gcon func17 rfl fun r => ?_
  have hm := Mem.start w0
  refine gS (gR (gBx hm rfl fun b0_1 w hm => gBx hm rfl fun b0_2 w hm => gA rfl (gE (gS (gS (gR (gF fo_30_0 rfl (gL hm 1 isAgg28 rfl (gF fo_30_0 rfl (gL hm 0 isAgg28 rfl (gC hm rfl call51 (laws_eqCodeS_ok _ a_.codes v1 (hm.now h1) b_.codes v2 (hm.now h2)) fun r0_1 hx0_1 w hm => gN rfl (gE (gsn 10 rfl (fun h0_1 => ?_) fun h0_1 => ?_)))))))))))))
  ·
   exact gct rfl (gS (gR (gA rfl (gE (gRt (gr1 results17 rfl ⟨rfl, hm.below⟩))))))
  exact gcf rfl (gSk (gS (gR (gA rfl (gE (gRt (gr1 results17 rfl ⟨rfl, hm.below⟩)))))))

theorem laws_markIntS_ok (w0 : World) (hz : Heap) (a_ : List Int) (v1 : Value) (k_ : Int) (hm0 : Mem w0 hz w0 [ow [v1] a_]) :
    ConM Tryz.prog 26 [v1, (nV k_)] w0 (laws_markIntS a_ k_) fun r v w' => v = (nV r.1) ∧ Mem w0 hz w' [ow [v1] r.2] := by
  unfold laws_markIntS
  refine gcon func26 rfl fun r => ?_
  have hm := hm0
  refine gS (gR (gA rfl (gE (gS (gS (gR (gA rfl (gE ?_))))))))
  obtain ⟨p0_1, c0_1, rfl, hl0_1⟩ := ro_slice (hm.ow_rep 0 rfl)
  refine gBk (gNf hm (fun i1_1 xs1_1 => [(0, (.slice p0_1 a_.length c0_1)), (1, (nV xs1_1.2)), (5, (nV i1_1))]) (fun i1_1 xs1_1 => [ow [(.slice p0_1 a_.length c0_1)] xs1_1.1]) [0] rfl ?_ ?_)
  ·
   repeat clear hm
   intro _ _ i1_1 xs1_1 w hm hi0_1 hi0_2 q0_1 _
   refine gS (gS (gR (gM rfl (gM rfl ?_))))
   have hl1_1 := rep_len (hm.ow_rep 0 rfl)
   refine gY (yV st_37 rfl) (gB rfl (gE (go _ 9 rfl (decide_eq_true (by omega)) (gct rfl (gSk (gS (gBk (gS (gR (gM rfl (gM rfl (gM rfl (gg fun x1_1 h1_1 hx1_2 => ?_)))))))))))))
   obtain ⟨b1_1, o1_1, c1_1, he⟩ := idx_form (hm.ow_rep 0 rfl) hx1_2
   simp only [Value.slice.injEq, Option.some.injEq] at he; obtain ⟨rfl, _, rfl⟩ := he
   have hL1_1 := rep_slice_len (hm.ow_rep 0 rfl)
   refine gI st_37 h1_1 (idx_lt2 hx1_2 hL1_1) rfl (gf0 rfl (fun a hf => e_setElem (x1 := xs1_1.2) (j := 0) (vs := [(nV xs1_1.2)]) 0 hf hm rfl hx1_2 rfl sizeOf3 rfl rfl rfl (one_cons rfl one_nil) rfl rfl) ?_)
   rintro _ w hm
   have hx1_3 := List.getElem?_set_self (a := xs1_1.2) (idx_lt hx1_2)
   exact gE (gR (gM rfl (gB rfl (gA rfl (gE (gR (gM rfl (gP (by omega) (by omega) rfl (gA rfl (gE (gze hm [0] rfl)))))))))))
  repeat clear hm
  intro i0_1 xs0_1 w hm hi0_3 hi0_4
  refine gS (gS (gR (gM rfl (gM rfl ?_))))
  have hl0_2 := rep_len (hm.ow_rep 0 rfl)
  exact gY (yV st_37 rfl) (gB rfl (gE (go _ 9 rfl (decide_eq_false (by omega)) (gcf rfl (gXt (gHh (gS (gR (gM rfl (gA rfl (gE (gRt (gr1 results26 rfl ⟨rfl, hm.pk [0] rfl rfl⟩)))))))))))))

theorem laws_markPhiS_ok (w0 : World) (hz : Heap) (a_ : List Phi_) (v1 : Value) (k_ : Int) (hm0 : Mem w0 hz w0 [ow [v1] a_]) :
    ConM Tryz.prog 110 [v1, (nV k_)] w0 (laws_markPhiS a_ k_) fun r v w' => v = (nV r.1) ∧ Mem w0 hz w' [ow [v1] r.2] := by
  unfold laws_markPhiS
  refine gcon func110 rfl fun r => ?_
  have hm := hm0
  refine gS (gR (gA rfl (gE (gS (gS (gR (gA rfl (gE ?_))))))))
  obtain ⟨p0_1, c0_1, rfl, hl0_1⟩ := ro_slice (hm.ow_rep 0 rfl)
  refine gBk (gNf hm (fun i1_1 xs1_1 => [(0, (.slice p0_1 a_.length c0_1)), (1, (nV xs1_1.2)), (5, (nV i1_1))]) (fun i1_1 xs1_1 => [ow [(.slice p0_1 a_.length c0_1)] xs1_1.1]) [0] rfl ?_ ?_)
  ·
   repeat clear hm
   intro _ _ i1_1 xs1_1 w hm hi0_1 hi0_2 q0_1 _
   refine gS (gS (gR (gM rfl (gM rfl ?_))))
   have hl1_1 := rep_len (hm.ow_rep 0 rfl)
   refine gY (yV st_74 rfl) (gB rfl (gE (go _ 9 rfl (decide_eq_true (by omega)) (gct rfl (gSk (gS (gBk (gS (gR (gM rfl (gM rfl (gM rfl (gg fun x1_1 h1_1 hx1_2 => ?_)))))))))))))
   obtain ⟨b1_1, o1_1, c1_1, he⟩ := idx_form' (hm.ow_rep 0 rfl) hx1_2
   simp only [Value.slice.injEq, Option.some.injEq] at he; obtain ⟨rfl, _, rfl⟩ := he
   obtain ⟨v1_1, hc1_1, h1_2⟩ := rk_Phi_ (hm.ow_rep 0 rfl) hx1_2
   have hL1_1 := rep_slice_len (hm.ow_rep 0 rfl)
   refine gI st_74 h1_1 (idx_lt2 hx1_2 hL1_1) rfl (gF fo_99_0 rfl (gf0 rfl (fun a hf => e_setElemR (x1 := ((⟨xs1_1.2, x1_1.args⟩ : Phi_) : Phi_)) (j := 0) (vs := [(nV xs1_1.2)]) 0 hf hm rfl hx1_2 hc1_1 rfl (fun F h ho => (fun _ => own_fst_map (α := Int) (β := (List Int)) (cs := [(nV x1_1.to)]) (cs' := [(nV xs1_1.2)]) (ds := [v1_1]) rfl (fun _ _ => Flat.own_iff.2 rfl)) F ho) rfl sizeOf3 rfl rfl rfl (one_cons rfl one_nil) rfl) ?_))
   rintro _ w hm
   have hx1_3 := List.getElem?_set_self (a := ((⟨xs1_1.2, x1_1.args⟩ : Phi_) : Phi_)) (idx_lt hx1_2)
   refine gE (gS (gR (gM rfl (gB rfl (gA rfl (gE (gR (gM rfl (gM rfl ?_)))))))))
   obtain ⟨_, _, hc1_2, hr1_1⟩ := ro_get' (hm.ow_rep 0 rfl) hx1_3
   obtain ⟨_, _, rfl, rfl, h1_3⟩ := hr1_1
   obtain ⟨v1_2, rfl, -⟩ := id h1_3
   replace h1_3 : GT.rep (hp _) [v1_2] x1_1.args := h1_3
   replace hc1_2 : CellsAt (hp _) b1_1 (o1_1 + (i1_1).toNat * 2) [(nV xs1_1.2), v1_2] := hc1_2
   have hL1_2 := rep_slice_len (hm.ow_rep 0 rfl)
   refine gI st_74 h1_1 (idx_lt2 hx1_3 hL1_2) rfl (gF fo_99_1 rfl (gY (yl isAgg37 (hc1_2.cell (j := 1) rfl) rfl) (gM rfl ?_)))
   replace hm : Mem w0 hz _ [ow [v1_2] x1_1.args, hole [(sV b1_1 o1_1 a_.length c0_1)] [v1_2] (fun (y : List Int) => ((xs1_1.1.set (i1_1).toNat (⟨xs1_1.2, x1_1.args⟩ : Phi_)) : List Phi_).set (i1_1).toNat (⟨xs1_1.2, y⟩ : Phi_))] := hm.open 0 rfl (foc_elem hx1_3 hc1_2 rfl (show FocH (α := Phi_) _ _ (⟨xs1_1.2, x1_1.args⟩ : Phi_) [v1_2] x1_1.args (fun y => (⟨xs1_1.2, y⟩ : Phi_)) from (foc_snd (α := Int) (β := (List Int)) (cs := [(nV xs1_1.2)]) (ds := [v1_2]) (v := [v1_2]) (inner := x1_1.args) (x := x1_1.args) (z := xs1_1.2) (put := fun (y : List Int) => y) rfl (foc_id [v1_2] x1_1.args))))
   obtain ⟨hz1_1, hle, hm1, hsub, hk1_1⟩ := hm.take2 (L1 := [ow [v1_2] x1_1.args]) (L2 := [hole [(sV b1_1 o1_1 a_.length c0_1)] [v1_2] (fun (y : List Int) => ((xs1_1.1.set (i1_1).toNat (⟨xs1_1.2, x1_1.args⟩ : Phi_)) : List Phi_).set (i1_1).toNat (⟨xs1_1.2, y⟩ : Phi_))]) [0] [1] (by decide) rfl rfl
   refine gCg rfl call26 (laws_markIntS_ok _ hz1_1 x1_1.args v1_2 (w64 (xs1_1.2 + 1)) hm1 ) ?_
   rintro r1_1 hx1_4 v1_3 w ⟨rfl, hB⟩
   replace hm := hk1_1 _ _ hB; clear hB
   replace hm := (hm.shut 1 0 (by decide) rfl rfl).pk (L' := [ow [(sV b1_1 o1_1 a_.length c0_1)] ((xs1_1.1.set (i1_1).toNat (⟨xs1_1.2, x1_1.args⟩ : Phi_)).set (i1_1).toNat (⟨xs1_1.2, r1_1.2⟩ : Phi_))]) [1] rfl rfl
   exact gA rfl (gE (gR (gM rfl (gP (by omega) (by omega) rfl (gA rfl (gE (gze hm [0] rfl)))))))
  repeat clear hm
  intro i0_1 xs0_1 w hm hi0_3 hi0_4
  refine gS (gS (gR (gM rfl (gM rfl ?_))))
  have hl0_2 := rep_len (hm.ow_rep 0 rfl)
  exact gY (yV st_74 rfl) (gB rfl (gE (go _ 9 rfl (decide_eq_false (by omega)) (gcf rfl (gXt (gHh (gS (gR (gM rfl (gA rfl (gE (gRt (gr1 results110 rfl ⟨rfl, hm.pk [0] rfl rfl⟩)))))))))))))

theorem laws_markInsS_ok (w0 : World) (hz : Heap) (a_ : List Ins_) (v1 : Value) (k_ : Int) (hm0 : Mem w0 hz w0 [ow [v1] a_]) :
    ConM Tryz.prog 111 [v1, (nV k_)] w0 (laws_markInsS a_ k_) fun r v w' => v = (nV r.1) ∧ Mem w0 hz w' [ow [v1] r.2] := by
  unfold laws_markInsS
  refine gcon func111 rfl fun r => ?_
  have hm := hm0
  refine gS (gR (gA rfl (gE (gS (gS (gR (gA rfl (gE ?_))))))))
  obtain ⟨p0_1, c0_1, rfl, hl0_1⟩ := ro_slice (hm.ow_rep 0 rfl)
  refine gBk (gNf hm (fun i1_1 xs1_1 => [(0, (.slice p0_1 a_.length c0_1)), (1, (nV xs1_1.2)), (5, (nV i1_1))]) (fun i1_1 xs1_1 => [ow [(.slice p0_1 a_.length c0_1)] xs1_1.1]) [0] rfl ?_ ?_)
  ·
   repeat clear hm
   intro _ _ i1_1 xs1_1 w hm hi0_1 hi0_2 q0_1 _
   refine gS (gS (gR (gM rfl (gM rfl ?_))))
   have hl1_1 := rep_len (hm.ow_rep 0 rfl)
   refine gY (yV st_75 rfl) (gB rfl (gE (go _ 9 rfl (decide_eq_true (by omega)) (gct rfl (gSk (gS (gBk (gS (gR (gM rfl (gM rfl (gM rfl (gg fun x1_1 h1_1 hx1_2 => ?_)))))))))))))
   obtain ⟨b1_1, o1_1, c1_1, he⟩ := idx_form' (hm.ow_rep 0 rfl) hx1_2
   simp only [Value.slice.injEq, Option.some.injEq] at he; obtain ⟨rfl, _, rfl⟩ := he
   obtain ⟨v1_1, hc1_1, h1_2⟩ := rk_Ins_ (hm.ow_rep 0 rfl) hx1_2
   have hL1_1 := rep_slice_len (hm.ow_rep 0 rfl)
   refine gI st_75 h1_1 (idx_lt2 hx1_2 hL1_1) rfl (gF fo_106_0 rfl (gf0 rfl (fun a hf => e_setElemR (x1 := ((⟨xs1_1.2, x1_1.to, x1_1.args, x1_1.n_⟩ : Ins_) : Ins_)) (j := 0) (vs := [(nV xs1_1.2)]) 0 hf hm rfl hx1_2 hc1_1 rfl (fun F h ho => (fun _ => own_fst_map (α := Int) (β := Int × (List Int) × Int) (cs := [(nV x1_1.op)]) (cs' := [(nV xs1_1.2)]) (ds := [(nV x1_1.to), v1_1, (nV x1_1.n_)]) rfl (fun _ _ => Flat.own_iff.2 rfl)) F ho) rfl sizeOf3 rfl rfl rfl (one_cons rfl one_nil) rfl) ?_))
   rintro _ w hm
   have hx1_3 := List.getElem?_set_self (a := ((⟨xs1_1.2, x1_1.to, x1_1.args, x1_1.n_⟩ : Ins_) : Ins_)) (idx_lt hx1_2)
   refine gE (gS (gR (gM rfl (gB rfl (gA rfl (gE (gS (gR (gM rfl (gM rfl (gM rfl ?_)))))))))))
   obtain ⟨_, _, hc1_2, hr1_1⟩ := ro_get' (hm.ow_rep 0 rfl) hx1_3
   obtain ⟨_, _, rfl, rfl, _, _, rfl, rfl, _, _, rfl, h1_3, rfl⟩ := hr1_1
   obtain ⟨v1_2, rfl, -⟩ := id h1_3
   replace h1_3 : GT.rep (hp _) [v1_2] x1_1.args := h1_3
   replace hc1_2 : CellsAt (hp _) b1_1 (o1_1 + (i1_1).toNat * 4) [(nV xs1_1.2), (nV x1_1.to), v1_2, (nV x1_1.n_)] := hc1_2
   have hL1_2 := rep_slice_len (hm.ow_rep 0 rfl)
   refine gI st_75 h1_1 (idx_lt2 hx1_3 hL1_2) rfl (gF fo_106_1 rfl (gf0 rfl (fun a hf => e_setElemR (x1 := ((⟨xs1_1.2, w64 (xs1_1.2 + 1), x1_1.args, x1_1.n_⟩ : Ins_) : Ins_)) (j := 1) (vs := [(nV (w64 (xs1_1.2 + 1)))]) 0 hf hm rfl hx1_3 hc1_2 rfl (fun F h ho => (fun _ => own_snd_map (α := Int) (β := Int × (List Int) × Int) (cs := [(nV xs1_1.2)]) (ds := [(nV x1_1.to), v1_2, (nV x1_1.n_)]) (ds' := [(nV (w64 (xs1_1.2 + 1))), v1_2, (nV x1_1.n_)]) rfl (fun _ => own_fst_map (α := Int) (β := (List Int) × Int) (cs := [(nV x1_1.to)]) (cs' := [(nV (w64 (xs1_1.2 + 1)))]) (ds := [v1_2, (nV x1_1.n_)]) rfl (fun _ _ => Flat.own_iff.2 rfl))) F ho) rfl sizeOf3 rfl rfl rfl (one_cons rfl one_nil) rfl) ?_))
   rintro _ w hm
   have hx1_4 := List.getElem?_set_self (a := ((⟨xs1_1.2, w64 (xs1_1.2 + 1), x1_1.args, x1_1.n_⟩ : Ins_) : Ins_)) (idx_lt hx1_3)
   refine gE (gS (gR (gM rfl (gB rfl (gA rfl (gE (gS (gR (gM rfl (gM rfl ?_))))))))))
   obtain ⟨_, _, hc1_3, hr1_2⟩ := ro_get' (hm.ow_rep 0 rfl) hx1_4
   obtain ⟨_, _, rfl, rfl, _, _, rfl, rfl, _, _, rfl, h1_4, rfl⟩ := hr1_2
   obtain ⟨v1_3, rfl, -⟩ := id h1_4
   replace h1_4 : GT.rep (hp _) [v1_3] x1_1.args := h1_4
   replace hc1_3 : CellsAt (hp _) b1_1 (o1_1 + (i1_1).toNat * 4) [(nV xs1_1.2), (nV (w64 (xs1_1.2 + 1))), v1_3, (nV x1_1.n_)] := hc1_3
   have hL1_3 := rep_slice_len (hm.ow_rep 0 rfl)
   refine gI st_75 h1_1 (idx_lt2 hx1_4 hL1_3) rfl (gF fo_106_2 rfl (gY (yl isAgg37 (hc1_3.cell (j := 2) rfl) rfl) (gM rfl ?_)))
   replace hm : Mem w0 hz _ [ow [v1_3] x1_1.args, hole [(sV b1_1 o1_1 a_.length c0_1)] [v1_3] (fun (y : List Int) => (((xs1_1.1.set (i1_1).toNat (⟨xs1_1.2, x1_1.to, x1_1.args, x1_1.n_⟩ : Ins_)).set (i1_1).toNat (⟨xs1_1.2, w64 (xs1_1.2 + 1), x1_1.args, x1_1.n_⟩ : Ins_)) : List Ins_).set (i1_1).toNat (⟨xs1_1.2, w64 (xs1_1.2 + 1), y, x1_1.n_⟩ : Ins_))] := hm.open 0 rfl (foc_elem hx1_4 hc1_3 rfl (show FocH (α := Ins_) _ _ (⟨xs1_1.2, w64 (xs1_1.2 + 1), x1_1.args, x1_1.n_⟩ : Ins_) [v1_3] x1_1.args (fun y => (⟨xs1_1.2, w64 (xs1_1.2 + 1), y, x1_1.n_⟩ : Ins_)) from (foc_snd (α := Int) (β := Int × (List Int) × Int) (cs := [(nV xs1_1.2)]) (ds := [(nV (w64 (xs1_1.2 + 1))), v1_3, (nV x1_1.n_)]) (v := [v1_3]) (inner := x1_1.args) (x := (w64 (xs1_1.2 + 1), x1_1.args, x1_1.n_)) (z := xs1_1.2) (put := fun (y : List Int) => (w64 (xs1_1.2 + 1), y, x1_1.n_)) rfl (foc_snd (α := Int) (β := (List Int) × Int) (cs := [(nV (w64 (xs1_1.2 + 1)))]) (ds := [v1_3, (nV x1_1.n_)]) (v := [v1_3]) (inner := x1_1.args) (x := (x1_1.args, x1_1.n_)) (z := w64 (xs1_1.2 + 1)) (put := fun (y : List Int) => (y, x1_1.n_)) rfl (foc_fst (α := List Int) (β := Int) (cs := [v1_3]) (ds := [(nV x1_1.n_)]) (v := [v1_3]) (inner := x1_1.args) (x := x1_1.args) (z := x1_1.n_) (put := fun (y : List Int) => y) rfl (foc_id [v1_3] x1_1.args))))))
   obtain ⟨hz1_1, hle, hm1, hsub, hk1_1⟩ := hm.take2 (L1 := [ow [v1_3] x1_1.args]) (L2 := [hole [(sV b1_1 o1_1 a_.length c0_1)] [v1_3] (fun (y : List Int) => (((xs1_1.1.set (i1_1).toNat (⟨xs1_1.2, x1_1.to, x1_1.args, x1_1.n_⟩ : Ins_)).set (i1_1).toNat (⟨xs1_1.2, w64 (xs1_1.2 + 1), x1_1.args, x1_1.n_⟩ : Ins_)) : List Ins_).set (i1_1).toNat (⟨xs1_1.2, w64 (xs1_1.2 + 1), y, x1_1.n_⟩ : Ins_))]) [0] [1] (by decide) rfl rfl
   refine gCg rfl call26 (laws_markIntS_ok _ hz1_1 x1_1.args v1_3 (w64 ((w64 (xs1_1.2 + 1)) + 1)) hm1 ) ?_
   rintro r1_1 hx1_5 v1_4 w ⟨rfl, hB⟩
   replace hm := hk1_1 _ _ hB; clear hB
   replace hm := (hm.shut 1 0 (by decide) rfl rfl).pk (L' := [ow [(sV b1_1 o1_1 a_.length c0_1)] (((xs1_1.1.set (i1_1).toNat (⟨xs1_1.2, x1_1.to, x1_1.args, x1_1.n_⟩ : Ins_)).set (i1_1).toNat (⟨xs1_1.2, w64 (xs1_1.2 + 1), x1_1.args, x1_1.n_⟩ : Ins_)).set (i1_1).toNat (⟨xs1_1.2, w64 (xs1_1.2 + 1), r1_1.2, x1_1.n_⟩ : Ins_))]) [1] rfl rfl
   refine gA rfl (gE (gS (gR (gM rfl (gM rfl (gM rfl (gg fun x1_2 h1_5 hx1_7 => ?_)))))))
   obtain ⟨v1_5, hc1_4, h1_6⟩ := rk_Ins_ (hm.ow_rep 0 rfl) hx1_7
   have hL1_4 := rep_slice_len (hm.ow_rep 0 rfl)
   refine gI st_75 h1_5 (idx_lt2 hx1_7 hL1_4) rfl (gF fo_106_3 rfl (gf0 rfl (fun a hf => e_setElemR (x1 := ((⟨x1_2.op, x1_2.to, x1_2.args, r1_1.1⟩ : Ins_) : Ins_)) (j := 3) (vs := [(nV r1_1.1)]) 0 hf hm rfl hx1_7 hc1_4 rfl (fun F h ho => (fun _ => own_snd_map (α := Int) (β := Int × (List Int) × Int) (cs := [(nV x1_2.op)]) (ds := [(nV x1_2.to), v1_5, (nV x1_2.n_)]) (ds' := [(nV x1_2.to), v1_5, (nV r1_1.1)]) rfl (fun _ => own_snd_map (α := Int) (β := (List Int) × Int) (cs := [(nV x1_2.to)]) (ds := [v1_5, (nV x1_2.n_)]) (ds' := [v1_5, (nV r1_1.1)]) rfl (fun _ => own_snd_map (α := List Int) (β := Int) (cs := [v1_5]) (ds := [(nV x1_2.n_)]) (ds' := [(nV r1_1.1)]) rfl (fun _ _ => Flat.own_iff.2 rfl)))) F ho) rfl sizeOf3 rfl rfl rfl (one_cons rfl one_nil) rfl) ?_))
   rintro _ w hm
   have hx1_8 := List.getElem?_set_self (a := ((⟨x1_2.op, x1_2.to, x1_2.args, r1_1.1⟩ : Ins_) : Ins_)) (idx_lt hx1_7)
   exact gE (gR (gM rfl (gB rfl (gA rfl (gE (gR (gM rfl (gP (by omega) (by omega) rfl (gA rfl (gE (gze hm [0] rfl)))))))))))
  repeat clear hm
  intro i0_1 xs0_1 w hm hi0_3 hi0_4
  refine gS (gS (gR (gM rfl (gM rfl ?_))))
  have hl0_2 := rep_len (hm.ow_rep 0 rfl)
  exact gY (yV st_75 rfl) (gB rfl (gE (go _ 9 rfl (decide_eq_false (by omega)) (gcf rfl (gXt (gHh (gS (gR (gM rfl (gA rfl (gE (gRt (gr1 results111 rfl ⟨rfl, hm.pk [0] rfl rfl⟩)))))))))))))

theorem laws_markBlockS_ok (w0 : World) (hz : Heap) (a_ : List Block_) (v1 : Value) (k_ : Int) (hm0 : Mem w0 hz w0 [ow [v1] a_]) :
    ConM Tryz.prog 81 [v1, (nV k_)] w0 (laws_markBlockS a_ k_) fun r v w' => v = (nV r.1) ∧ Mem w0 hz w' [ow [v1] r.2] := by
  unfold laws_markBlockS
  refine gcon func81 rfl fun r => ?_
  have hm := hm0
  refine gS (gR (gA rfl (gE (gS (gS (gR (gA rfl (gE ?_))))))))
  obtain ⟨p0_1, c0_1, rfl, hl0_1⟩ := ro_slice (hm.ow_rep 0 rfl)
  refine gBk (gNf hm (fun i1_1 xs1_1 => [(0, (.slice p0_1 a_.length c0_1)), (1, (nV xs1_1.2)), (5, (nV i1_1))]) (fun i1_1 xs1_1 => [ow [(.slice p0_1 a_.length c0_1)] xs1_1.1]) [0] rfl ?_ ?_)
  ·
   repeat clear hm
   intro _ _ i1_1 xs1_1 w hm hi0_1 hi0_2 q0_1 _
   refine gS (gS (gR (gM rfl (gM rfl ?_))))
   have hl1_1 := rep_len (hm.ow_rep 0 rfl)
   refine gY (yV st_56 rfl) (gB rfl (gE (go _ 9 rfl (decide_eq_true (by omega)) (gct rfl (gSk (gS (gBk (gS (gR (gM rfl (gM rfl (gg fun x1_1 h1_1 hx1_2 => ?_))))))))))))
   obtain ⟨b1_1, o1_1, c1_1, he⟩ := idx_form' (hm.ow_rep 0 rfl) hx1_2
   simp only [Value.slice.injEq, Option.some.injEq] at he; obtain ⟨rfl, _, rfl⟩ := he
   obtain ⟨v1_1, v1_2, v1_3, hc1_1, h1_2, h1_3, h1_4⟩ := rk_Block_ (hm.ow_rep 0 rfl) hx1_2
   have hL1_1 := rep_slice_len (hm.ow_rep 0 rfl)
   refine gI st_56 h1_1 (idx_lt2 hx1_2 hL1_1) rfl (gF fo_77_0 rfl (gY (yl isAgg74 (hc1_1.cell (j := 0) rfl) rfl) (gM rfl ?_)))
   replace hm : Mem w0 hz _ [ow [v1_1] x1_1.phis, hole [(sV b1_1 o1_1 a_.length c0_1)] [v1_1] (fun (y : List Phi_) => (xs1_1.1 : List Block_).set (i1_1).toNat (⟨y, x1_1.ins, x1_1.jump, x1_1.on, x1_1.next_⟩ : Block_))] := hm.open 0 rfl (foc_elem hx1_2 hc1_1 rfl (show FocH (α := Block_) _ _ x1_1 [v1_1] x1_1.phis (fun y => (⟨y, x1_1.ins, x1_1.jump, x1_1.on, x1_1.next_⟩ : Block_)) from (foc_fst (α := List Phi_) (β := (List Ins_) × Int × Int × (List Int)) (cs := [v1_1]) (ds := [v1_2, (nV x1_1.jump), (nV x1_1.on), v1_3]) (v := [v1_1]) (inner := x1_1.phis) (x := x1_1.phis) (z := (x1_1.ins, x1_1.jump, x1_1.on, x1_1.next_)) (put := fun (y : List Phi_) => y) rfl (foc_id [v1_1] x1_1.phis))))
   obtain ⟨hz1_1, hle, hm1, hsub, hk1_1⟩ := hm.take2 (L1 := [ow [v1_1] x1_1.phis]) (L2 := [hole [(sV b1_1 o1_1 a_.length c0_1)] [v1_1] (fun (y : List Phi_) => (xs1_1.1 : List Block_).set (i1_1).toNat (⟨y, x1_1.ins, x1_1.jump, x1_1.on, x1_1.next_⟩ : Block_))]) [0] [1] (by decide) rfl rfl
   refine gCg rfl call110 (laws_markPhiS_ok _ hz1_1 x1_1.phis v1_1 xs1_1.2 hm1 ) ?_
   rintro r1_1 hx1_3 v1_4 w ⟨rfl, hB⟩
   replace hm := hk1_1 _ _ hB; clear hB
   replace hm := (hm.shut 1 0 (by decide) rfl rfl).pk (L' := [ow [(sV b1_1 o1_1 a_.length c0_1)] (xs1_1.1.set (i1_1).toNat (⟨r1_1.2, x1_1.ins, x1_1.jump, x1_1.on, x1_1.next_⟩ : Block_))]) [1] rfl rfl
   refine gA rfl (gE (gS (gR (gM rfl (gM rfl (gg fun x1_2 h1_5 hx1_5 => ?_))))))
   obtain ⟨v1_5, v1_6, v1_7, hc1_2, h1_6, h1_7, h1_8⟩ := rk_Block_ (hm.ow_rep 0 rfl) hx1_5
   have hL1_2 := rep_slice_len (hm.ow_rep 0 rfl)
   refine gI st_56 h1_5 (idx_lt2 hx1_5 hL1_2) rfl (gF fo_77_1 rfl (gY (yl isAgg75 (hc1_2.cell (j := 1) rfl) rfl) (gM rfl ?_)))
   replace hm : Mem w0 hz _ [ow [v1_6] x1_2.ins, hole [(sV b1_1 o1_1 a_.length c0_1)] [v1_6] (fun (y : List Ins_) => ((xs1_1.1.set (i1_1).toNat (⟨r1_1.2, x1_1.ins, x1_1.jump, x1_1.on, x1_1.next_⟩ : Block_)) : List Block_).set (i1_1).toNat (⟨x1_2.phis, y, x1_2.jump, x1_2.on, x1_2.next_⟩ : Block_))] := hm.open 0 rfl (foc_elem hx1_5 hc1_2 rfl (show FocH (α := Block_) _ _ x1_2 [v1_6] x1_2.ins (fun y => (⟨x1_2.phis, y, x1_2.jump, x1_2.on, x1_2.next_⟩ : Block_)) from (foc_snd (α := List Phi_) (β := (List Ins_) × Int × Int × (List Int)) (cs := [v1_5]) (ds := [v1_6, (nV x1_2.jump), (nV x1_2.on), v1_7]) (v := [v1_6]) (inner := x1_2.ins) (x := (x1_2.ins, x1_2.jump, x1_2.on, x1_2.next_)) (z := x1_2.phis) (put := fun (y : List Ins_) => (y, x1_2.jump, x1_2.on, x1_2.next_)) rfl (foc_fst (α := List Ins_) (β := Int × Int × (List Int)) (cs := [v1_6]) (ds := [(nV x1_2.jump), (nV x1_2.on), v1_7]) (v := [v1_6]) (inner := x1_2.ins) (x := x1_2.ins) (z := (x1_2.jump, x1_2.on, x1_2.next_)) (put := fun (y : List Ins_) => y) rfl (foc_id [v1_6] x1_2.ins)))))
   obtain ⟨hz1_3, hle, hm1, hsub, hk1_2⟩ := hm.take2 (L1 := [ow [v1_6] x1_2.ins]) (L2 := [hole [(sV b1_1 o1_1 a_.length c0_1)] [v1_6] (fun (y : List Ins_) => ((xs1_1.1.set (i1_1).toNat (⟨r1_1.2, x1_1.ins, x1_1.jump, x1_1.on, x1_1.next_⟩ : Block_)) : List Block_).set (i1_1).toNat (⟨x1_2.phis, y, x1_2.jump, x1_2.on, x1_2.next_⟩ : Block_))]) [0] [1] (by decide) rfl rfl
   refine gCg rfl call111 (laws_markInsS_ok _ hz1_3 x1_2.ins v1_6 r1_1.1 hm1 ) ?_
   rintro r1_2 hx1_6 v1_8 w ⟨rfl, hB⟩
   replace hm := hk1_2 _ _ hB; clear hB
   replace hm := (hm.shut 1 0 (by decide) rfl rfl).pk (L' := [ow [(sV b1_1 o1_1 a_.length c0_1)] ((xs1_1.1.set (i1_1).toNat (⟨r1_1.2, x1_1.ins, x1_1.jump, x1_1.on, x1_1.next_⟩ : Block_)).set (i1_1).toNat (⟨x1_2.phis, r1_2.2, x1_2.jump, x1_2.on, x1_2.next_⟩ : Block_))]) [1] rfl rfl
   refine gA rfl (gE (gS (gR (gM rfl (gM rfl (gM rfl (gg fun x1_3 h1_9 hx1_8 => ?_)))))))
   obtain ⟨v1_9, v1_10, v1_11, hc1_3, h1_10, h1_11, h1_12⟩ := rk_Block_ (hm.ow_rep 0 rfl) hx1_8
   have hL1_3 := rep_slice_len (hm.ow_rep 0 rfl)
   refine gI st_56 h1_9 (idx_lt2 hx1_8 hL1_3) rfl (gF fo_77_2 rfl (gf0 rfl (fun a hf => e_setElemR (x1 := ((⟨x1_3.phis, x1_3.ins, r1_2.1, x1_3.on, x1_3.next_⟩ : Block_) : Block_)) (j := 2) (vs := [(nV r1_2.1)]) 0 hf hm rfl hx1_8 hc1_3 rfl (fun F h ho => (fun _ => own_snd_map (α := List Phi_) (β := (List Ins_) × Int × Int × (List Int)) (cs := [v1_9]) (ds := [v1_10, (nV x1_3.jump), (nV x1_3.on), v1_11]) (ds' := [v1_10, (nV r1_2.1), (nV x1_3.on), v1_11]) rfl (fun _ => own_snd_map (α := List Ins_) (β := Int × Int × (List Int)) (cs := [v1_10]) (ds := [(nV x1_3.jump), (nV x1_3.on), v1_11]) (ds' := [(nV r1_2.1), (nV x1_3.on), v1_11]) rfl (fun _ => own_fst_map (α := Int) (β := Int × (List Int)) (cs := [(nV x1_3.jump)]) (cs' := [(nV r1_2.1)]) (ds := [(nV x1_3.on), v1_11]) rfl (fun _ _ => Flat.own_iff.2 rfl)))) F ho) rfl sizeOf3 rfl rfl rfl (one_cons rfl one_nil) rfl) ?_))
   rintro _ w hm
   have hx1_9 := List.getElem?_set_self (a := ((⟨x1_3.phis, x1_3.ins, r1_2.1, x1_3.on, x1_3.next_⟩ : Block_) : Block_)) (idx_lt hx1_8)
   refine gE (gS (gR (gM rfl (gB rfl (gA rfl (gE (gS (gR (gM rfl (gM rfl (gM rfl ?_)))))))))))
   obtain ⟨_, _, hc1_4, hr1_1⟩ := ro_get' (hm.ow_rep 0 rfl) hx1_9
   obtain ⟨_, _, rfl, h1_13, _, _, rfl, h1_14, _, _, rfl, rfl, _, _, rfl, rfl, h1_15⟩ := hr1_1
   obtain ⟨v1_12, rfl, -⟩ := id h1_13
   replace h1_13 : GT.rep (hp _) [v1_12] x1_3.phis := h1_13
   obtain ⟨v1_13, rfl, -⟩ := id h1_14
   replace h1_14 : GT.rep (hp _) [v1_13] x1_3.ins := h1_14
   obtain ⟨v1_14, rfl, -⟩ := id h1_15
   replace h1_15 : GT.rep (hp _) [v1_14] x1_3.next_ := h1_15
   replace hc1_4 : CellsAt (hp _) b1_1 (o1_1 + (i1_1).toNat * 5) [v1_12, v1_13, (nV r1_2.1), (nV x1_3.on), v1_14] := hc1_4
   have hL1_4 := rep_slice_len (hm.ow_rep 0 rfl)
   refine gI st_56 h1_9 (idx_lt2 hx1_9 hL1_4) rfl (gF fo_77_3 rfl (gf0 rfl (fun a hf => e_setElemR (x1 := ((⟨x1_3.phis, x1_3.ins, r1_2.1, w64 (r1_2.1 + 1), x1_3.next_⟩ : Block_) : Block_)) (j := 3) (vs := [(nV (w64 (r1_2.1 + 1)))]) 0 hf hm rfl hx1_9 hc1_4 rfl (fun F h ho => (fun _ => own_snd_map (α := List Phi_) (β := (List Ins_) × Int × Int × (List Int)) (cs := [v1_12]) (ds := [v1_13, (nV r1_2.1), (nV x1_3.on), v1_14]) (ds' := [v1_13, (nV r1_2.1), (nV (w64 (r1_2.1 + 1))), v1_14]) rfl (fun _ => own_snd_map (α := List Ins_) (β := Int × Int × (List Int)) (cs := [v1_13]) (ds := [(nV r1_2.1), (nV x1_3.on), v1_14]) (ds' := [(nV r1_2.1), (nV (w64 (r1_2.1 + 1))), v1_14]) rfl (fun _ => own_snd_map (α := Int) (β := Int × (List Int)) (cs := [(nV r1_2.1)]) (ds := [(nV x1_3.on), v1_14]) (ds' := [(nV (w64 (r1_2.1 + 1))), v1_14]) rfl (fun _ => own_fst_map (α := Int) (β := (List Int)) (cs := [(nV x1_3.on)]) (cs' := [(nV (w64 (r1_2.1 + 1)))]) (ds := [v1_14]) rfl (fun _ _ => Flat.own_iff.2 rfl))))) F ho) rfl sizeOf3 rfl rfl rfl (one_cons rfl one_nil) rfl) ?_))
   rintro _ w hm
   have hx1_10 := List.getElem?_set_self (a := ((⟨x1_3.phis, x1_3.ins, r1_2.1, w64 (r1_2.1 + 1), x1_3.next_⟩ : Block_) : Block_)) (idx_lt hx1_9)
   refine gE (gS (gR (gM rfl (gB rfl (gA rfl (gE (gR (gM rfl (gM rfl ?_)))))))))
   obtain ⟨_, _, hc1_5, hr1_2⟩ := ro_get' (hm.ow_rep 0 rfl) hx1_10
   obtain ⟨_, _, rfl, h1_16, _, _, rfl, h1_17, _, _, rfl, rfl, _, _, rfl, rfl, h1_18⟩ := hr1_2
   obtain ⟨v1_15, rfl, -⟩ := id h1_16
   replace h1_16 : GT.rep (hp _) [v1_15] x1_3.phis := h1_16
   obtain ⟨v1_16, rfl, -⟩ := id h1_17
   replace h1_17 : GT.rep (hp _) [v1_16] x1_3.ins := h1_17
   obtain ⟨v1_17, rfl, -⟩ := id h1_18
   replace h1_18 : GT.rep (hp _) [v1_17] x1_3.next_ := h1_18
   replace hc1_5 : CellsAt (hp _) b1_1 (o1_1 + (i1_1).toNat * 5) [v1_15, v1_16, (nV r1_2.1), (nV (w64 (r1_2.1 + 1))), v1_17] := hc1_5
   have hL1_5 := rep_slice_len (hm.ow_rep 0 rfl)
   refine gI st_56 h1_9 (idx_lt2 hx1_10 hL1_5) rfl (gF fo_77_4 rfl (gY (yl isAgg37 (hc1_5.cell (j := 4) rfl) rfl) (gM rfl ?_)))
   replace hm : Mem w0 hz _ [ow [v1_17] x1_3.next_, hole [(sV b1_1 o1_1 a_.length c0_1)] [v1_17] (fun (y : List Int) => (((((xs1_1.1.set (i1_1).toNat (⟨r1_1.2, x1_1.ins, x1_1.jump, x1_1.on, x1_1.next_⟩ : Block_)).set (i1_1).toNat (⟨x1_2.phis, r1_2.2, x1_2.jump, x1_2.on, x1_2.next_⟩ : Block_)).set (i1_1).toNat (⟨x1_3.phis, x1_3.ins, r1_2.1, x1_3.on, x1_3.next_⟩ : Block_)).set (i1_1).toNat (⟨x1_3.phis, x1_3.ins, r1_2.1, w64 (r1_2.1 + 1), x1_3.next_⟩ : Block_)) : List Block_).set (i1_1).toNat (⟨x1_3.phis, x1_3.ins, r1_2.1, w64 (r1_2.1 + 1), y⟩ : Block_))] := hm.open 0 rfl (foc_elem hx1_10 hc1_5 rfl (show FocH (α := Block_) _ _ (⟨x1_3.phis, x1_3.ins, r1_2.1, w64 (r1_2.1 + 1), x1_3.next_⟩ : Block_) [v1_17] x1_3.next_ (fun y => (⟨x1_3.phis, x1_3.ins, r1_2.1, w64 (r1_2.1 + 1), y⟩ : Block_)) from (foc_snd (α := List Phi_) (β := (List Ins_) × Int × Int × (List Int)) (cs := [v1_15]) (ds := [v1_16, (nV r1_2.1), (nV (w64 (r1_2.1 + 1))), v1_17]) (v := [v1_17]) (inner := x1_3.next_) (x := (x1_3.ins, r1_2.1, w64 (r1_2.1 + 1), x1_3.next_)) (z := x1_3.phis) (put := fun (y : List Int) => (x1_3.ins, r1_2.1, w64 (r1_2.1 + 1), y)) rfl (foc_snd (α := List Ins_) (β := Int × Int × (List Int)) (cs := [v1_16]) (ds := [(nV r1_2.1), (nV (w64 (r1_2.1 + 1))), v1_17]) (v := [v1_17]) (inner := x1_3.next_) (x := (r1_2.1, w64 (r1_2.1 + 1), x1_3.next_)) (z := x1_3.ins) (put := fun (y : List Int) => (r1_2.1, w64 (r1_2.1 + 1), y)) rfl (foc_snd (α := Int) (β := Int × (List Int)) (cs := [(nV r1_2.1)]) (ds := [(nV (w64 (r1_2.1 + 1))), v1_17]) (v := [v1_17]) (inner := x1_3.next_) (x := (w64 (r1_2.1 + 1), x1_3.next_)) (z := r1_2.1) (put := fun (y : List Int) => (w64 (r1_2.1 + 1), y)) rfl (foc_snd (α := Int) (β := (List Int)) (cs := [(nV (w64 (r1_2.1 + 1)))]) (ds := [v1_17]) (v := [v1_17]) (inner := x1_3.next_) (x := x1_3.next_) (z := w64 (r1_2.1 + 1)) (put := fun (y : List Int) => y) rfl (foc_id [v1_17] x1_3.next_)))))))
   obtain ⟨hz1_5, hle, hm1, hsub, hk1_3⟩ := hm.take2 (L1 := [ow [v1_17] x1_3.next_]) (L2 := [hole [(sV b1_1 o1_1 a_.length c0_1)] [v1_17] (fun (y : List Int) => (((((xs1_1.1.set (i1_1).toNat (⟨r1_1.2, x1_1.ins, x1_1.jump, x1_1.on, x1_1.next_⟩ : Block_)).set (i1_1).toNat (⟨x1_2.phis, r1_2.2, x1_2.jump, x1_2.on, x1_2.next_⟩ : Block_)).set (i1_1).toNat (⟨x1_3.phis, x1_3.ins, r1_2.1, x1_3.on, x1_3.next_⟩ : Block_)).set (i1_1).toNat (⟨x1_3.phis, x1_3.ins, r1_2.1, w64 (r1_2.1 + 1), x1_3.next_⟩ : Block_)) : List Block_).set (i1_1).toNat (⟨x1_3.phis, x1_3.ins, r1_2.1, w64 (r1_2.1 + 1), y⟩ : Block_))]) [0] [1] (by decide) rfl rfl
   refine gCg rfl call26 (laws_markIntS_ok _ hz1_5 x1_3.next_ v1_17 (w64 ((w64 (r1_2.1 + 1)) + 1)) hm1 ) ?_
   rintro r1_3 hx1_11 v1_18 w ⟨rfl, hB⟩
   replace hm := hk1_3 _ _ hB; clear hB
   replace hm := (hm.shut 1 0 (by decide) rfl rfl).pk (L' := [ow [(sV b1_1 o1_1 a_.length c0_1)] (((((xs1_1.1.set (i1_1).toNat (⟨r1_1.2, x1_1.ins, x1_1.jump, x1_1.on, x1_1.next_⟩ : Block_)).set (i1_1).toNat (⟨x1_2.phis, r1_2.2, x1_2.jump, x1_2.on, x1_2.next_⟩ : Block_)).set (i1_1).toNat (⟨x1_3.phis, x1_3.ins, r1_2.1, x1_3.on, x1_3.next_⟩ : Block_)).set (i1_1).toNat (⟨x1_3.phis, x1_3.ins, r1_2.1, w64 (r1_2.1 + 1), x1_3.next_⟩ : Block_)).set (i1_1).toNat (⟨x1_3.phis, x1_3.ins, r1_2.1, w64 (r1_2.1 + 1), r1_3.2⟩ : Block_))]) [1] rfl rfl
   exact gA rfl (gE (gR (gM rfl (gP (by omega) (by omega) rfl (gA rfl (gE (gze hm [0] rfl)))))))
  repeat clear hm
  intro i0_1 xs0_1 w hm hi0_3 hi0_4
  refine gS (gS (gR (gM rfl (gM rfl ?_))))
  have hl0_2 := rep_len (hm.ow_rep 0 rfl)
  exact gY (yV st_56 rfl) (gB rfl (gE (go _ 9 rfl (decide_eq_false (by omega)) (gcf rfl (gXt (gHh (gS (gR (gM rfl (gA rfl (gE (gRt (gr1 results81 rfl ⟨rfl, hm.pk [0] rfl rfl⟩)))))))))))))

theorem laws_markCodeS_ok (w0 : World) (hz : Heap) (a_ : List Code_) (v1 : Value) (k_ : Int) (hm0 : Mem w0 hz w0 [ow [v1] a_]) :
    ConM Tryz.prog 52 [v1, (nV k_)] w0 (laws_markCodeS a_ k_) fun r v w' => v = (nV r.1) ∧ Mem w0 hz w' [ow [v1] r.2] := by
  unfold laws_markCodeS
  refine gcon func52 rfl fun r => ?_
  have hm := hm0
  refine gS (gR (gA rfl (gE (gS (gS (gR (gA rfl (gE ?_))))))))
  obtain ⟨p0_1, c0_1, rfl, hl0_1⟩ := ro_slice (hm.ow_rep 0 rfl)
  refine gBk (gNf hm (fun i1_1 xs1_1 => [(0, (.slice p0_1 a_.length c0_1)), (1, (nV xs1_1.2)), (5, (nV i1_1))]) (fun i1_1 xs1_1 => [ow [(.slice p0_1 a_.length c0_1)] xs1_1.1]) [0] rfl ?_ ?_)
  ·
   repeat clear hm
   intro _ _ i1_1 xs1_1 w hm hi0_1 hi0_2 q0_1 _
   refine gS (gS (gR (gM rfl (gM rfl ?_))))
   have hl1_1 := rep_len (hm.ow_rep 0 rfl)
   refine gY (yV st_28 rfl) (gB rfl (gE (go _ 9 rfl (decide_eq_true (by omega)) (gct rfl (gSk (gS (gBk (gS (gR (gM rfl (gM rfl (gM rfl (gg fun x1_1 h1_1 hx1_2 => ?_)))))))))))))
   obtain ⟨b1_1, o1_1, c1_1, he⟩ := idx_form' (hm.ow_rep 0 rfl) hx1_2
   simp only [Value.slice.injEq, Option.some.injEq] at he; obtain ⟨rfl, _, rfl⟩ := he
   obtain ⟨v1_1, hc1_1, h1_2⟩ := rk_Code_ (hm.ow_rep 0 rfl) hx1_2
   have hL1_1 := rep_slice_len (hm.ow_rep 0 rfl)
   refine gI st_28 h1_1 (idx_lt2 hx1_2 hL1_1) rfl (gF fo_58_0 rfl (gf0 rfl (fun a hf => e_setElemR (x1 := ((⟨xs1_1.2, x1_1.regs, x1_1.blocks⟩ : Code_) : Code_)) (j := 0) (vs := [(nV xs1_1.2)]) 0 hf hm rfl hx1_2 hc1_1 rfl (fun F h ho => (fun _ => own_fst_map (α := Int) (β := Int × (List Block_)) (cs := [(nV x1_1.params)]) (cs' := [(nV xs1_1.2)]) (ds := [(nV x1_1.regs), v1_1]) rfl (fun _ _ => Flat.own_iff.2 rfl)) F ho) rfl sizeOf3 rfl rfl rfl (one_cons rfl one_nil) rfl) ?_))
   rintro _ w hm
   have hx1_3 := List.getElem?_set_self (a := ((⟨xs1_1.2, x1_1.regs, x1_1.blocks⟩ : Code_) : Code_)) (idx_lt hx1_2)
   refine gE (gS (gR (gM rfl (gB rfl (gA rfl (gE (gS (gR (gM rfl (gM rfl (gM rfl ?_)))))))))))
   obtain ⟨_, _, hc1_2, hr1_1⟩ := ro_get' (hm.ow_rep 0 rfl) hx1_3
   obtain ⟨_, _, rfl, rfl, _, _, rfl, rfl, h1_3⟩ := hr1_1
   obtain ⟨v1_2, rfl, -⟩ := id h1_3
   replace h1_3 : GT.rep (hp _) [v1_2] x1_1.blocks := h1_3
   replace hc1_2 : CellsAt (hp _) b1_1 (o1_1 + (i1_1).toNat * 3) [(nV xs1_1.2), (nV x1_1.regs), v1_2] := hc1_2
   have hL1_2 := rep_slice_len (hm.ow_rep 0 rfl)
   refine gI st_28 h1_1 (idx_lt2 hx1_3 hL1_2) rfl (gF fo_58_1 rfl (gf0 rfl (fun a hf => e_setElemR (x1 := ((⟨xs1_1.2, w64 (xs1_1.2 + 1), x1_1.blocks⟩ : Code_) : Code_)) (j := 1) (vs := [(nV (w64 (xs1_1.2 + 1)))]) 0 hf hm rfl hx1_3 hc1_2 rfl (fun F h ho => (fun _ => own_snd_map (α := Int) (β := Int × (List Block_)) (cs := [(nV xs1_1.2)]) (ds := [(nV x1_1.regs), v1_2]) (ds' := [(nV (w64 (xs1_1.2 + 1))), v1_2]) rfl (fun _ => own_fst_map (α := Int) (β := (List Block_)) (cs := [(nV x1_1.regs)]) (cs' := [(nV (w64 (xs1_1.2 + 1)))]) (ds := [v1_2]) rfl (fun _ _ => Flat.own_iff.2 rfl))) F ho) rfl sizeOf3 rfl rfl rfl (one_cons rfl one_nil) rfl) ?_))
   rintro _ w hm
   have hx1_4 := List.getElem?_set_self (a := ((⟨xs1_1.2, w64 (xs1_1.2 + 1), x1_1.blocks⟩ : Code_) : Code_)) (idx_lt hx1_3)
   refine gE (gS (gR (gM rfl (gB rfl (gA rfl (gE (gR (gM rfl (gM rfl ?_)))))))))
   obtain ⟨_, _, hc1_3, hr1_2⟩ := ro_get' (hm.ow_rep 0 rfl) hx1_4
   obtain ⟨_, _, rfl, rfl, _, _, rfl, rfl, h1_4⟩ := hr1_2
   obtain ⟨v1_3, rfl, -⟩ := id h1_4
   replace h1_4 : GT.rep (hp _) [v1_3] x1_1.blocks := h1_4
   replace hc1_3 : CellsAt (hp _) b1_1 (o1_1 + (i1_1).toNat * 3) [(nV xs1_1.2), (nV (w64 (xs1_1.2 + 1))), v1_3] := hc1_3
   have hL1_3 := rep_slice_len (hm.ow_rep 0 rfl)
   refine gI st_28 h1_1 (idx_lt2 hx1_4 hL1_3) rfl (gF fo_58_2 rfl (gY (yl isAgg56 (hc1_3.cell (j := 2) rfl) rfl) (gM rfl ?_)))
   replace hm : Mem w0 hz _ [ow [v1_3] x1_1.blocks, hole [(sV b1_1 o1_1 a_.length c0_1)] [v1_3] (fun (y : List Block_) => (((xs1_1.1.set (i1_1).toNat (⟨xs1_1.2, x1_1.regs, x1_1.blocks⟩ : Code_)).set (i1_1).toNat (⟨xs1_1.2, w64 (xs1_1.2 + 1), x1_1.blocks⟩ : Code_)) : List Code_).set (i1_1).toNat (⟨xs1_1.2, w64 (xs1_1.2 + 1), y⟩ : Code_))] := hm.open 0 rfl (foc_elem hx1_4 hc1_3 rfl (show FocH (α := Code_) _ _ (⟨xs1_1.2, w64 (xs1_1.2 + 1), x1_1.blocks⟩ : Code_) [v1_3] x1_1.blocks (fun y => (⟨xs1_1.2, w64 (xs1_1.2 + 1), y⟩ : Code_)) from (foc_snd (α := Int) (β := Int × (List Block_)) (cs := [(nV xs1_1.2)]) (ds := [(nV (w64 (xs1_1.2 + 1))), v1_3]) (v := [v1_3]) (inner := x1_1.blocks) (x := (w64 (xs1_1.2 + 1), x1_1.blocks)) (z := xs1_1.2) (put := fun (y : List Block_) => (w64 (xs1_1.2 + 1), y)) rfl (foc_snd (α := Int) (β := (List Block_)) (cs := [(nV (w64 (xs1_1.2 + 1)))]) (ds := [v1_3]) (v := [v1_3]) (inner := x1_1.blocks) (x := x1_1.blocks) (z := w64 (xs1_1.2 + 1)) (put := fun (y : List Block_) => y) rfl (foc_id [v1_3] x1_1.blocks)))))
   obtain ⟨hz1_1, hle, hm1, hsub, hk1_1⟩ := hm.take2 (L1 := [ow [v1_3] x1_1.blocks]) (L2 := [hole [(sV b1_1 o1_1 a_.length c0_1)] [v1_3] (fun (y : List Block_) => (((xs1_1.1.set (i1_1).toNat (⟨xs1_1.2, x1_1.regs, x1_1.blocks⟩ : Code_)).set (i1_1).toNat (⟨xs1_1.2, w64 (xs1_1.2 + 1), x1_1.blocks⟩ : Code_)) : List Code_).set (i1_1).toNat (⟨xs1_1.2, w64 (xs1_1.2 + 1), y⟩ : Code_))]) [0] [1] (by decide) rfl rfl
   refine gCg rfl call81 (laws_markBlockS_ok _ hz1_1 x1_1.blocks v1_3 (w64 ((w64 (xs1_1.2 + 1)) + 1)) hm1 ) ?_
   rintro r1_1 hx1_5 v1_4 w ⟨rfl, hB⟩
   replace hm := hk1_1 _ _ hB; clear hB
   replace hm := (hm.shut 1 0 (by decide) rfl rfl).pk (L' := [ow [(sV b1_1 o1_1 a_.length c0_1)] (((xs1_1.1.set (i1_1).toNat (⟨xs1_1.2, x1_1.regs, x1_1.blocks⟩ : Code_)).set (i1_1).toNat (⟨xs1_1.2, w64 (xs1_1.2 + 1), x1_1.blocks⟩ : Code_)).set (i1_1).toNat (⟨xs1_1.2, w64 (xs1_1.2 + 1), r1_1.2⟩ : Code_))]) [1] rfl rfl
   exact gA rfl (gE (gR (gM rfl (gP (by omega) (by omega) rfl (gA rfl (gE (gze hm [0] rfl)))))))
  repeat clear hm
  intro i0_1 xs0_1 w hm hi0_3 hi0_4
  refine gS (gS (gR (gM rfl (gM rfl ?_))))
  have hl0_2 := rep_len (hm.ow_rep 0 rfl)
  exact gY (yV st_28 rfl) (gB rfl (gE (go _ 9 rfl (decide_eq_false (by omega)) (gcf rfl (gXt (gHh (gS (gR (gM rfl (gA rfl (gE (gRt (gr1 results52 rfl ⟨rfl, hm.pk [0] rfl rfl⟩)))))))))))))

theorem laws_markUnit_ok (w0 : World) (hz : Heap) (a_ : Unit_) (v1 : Value) (k_ : Int) (hm0 : Mem w0 hz w0 [ow [v1] a_.codes]) :
    ConM Tryz.prog 18 [(.agg #[v1]), (nV k_)] w0 (laws_markUnit a_ k_) fun r v w' => v = (nV r.1) ∧ Mem w0 hz w' [ow [v1] r.2] := by
  unfold laws_markUnit
  refine gcon func18 rfl fun r => ?_
  have hm := hm0
  refine gS (gR (gBx hm rfl fun b0_1 w hm => gA rfl (gE (gS (gR (gF fo_30_0 rfl (gL hm 0 isAgg28 rfl (gM rfl ?_))))))))
  obtain ⟨hz0_1, hle, hm1, hsub, hk0_1⟩ := hm.take2 (L1 := [ow [v1] a_.codes]) (L2 := [blk b0_1 [v1] 30]) [1] [0] (by decide) rfl rfl
  refine gCg rfl call52 (laws_markCodeS_ok _ hz0_1 a_.codes v1 k_ hm1 ) ?_
  rintro r0_1 hx0_1 v0_1 w ⟨rfl, hB⟩
  replace hm := hk0_1 _ _ hB; clear hB
  exact gA rfl (gE (gS (gR (gM rfl (gA rfl (gE (gRt (gr1 results18 rfl ⟨rfl, hm.pk [0] rfl rfl⟩))))))))

theorem laws_markIntSS_ok (w0 : World) (hz : Heap) (a_ : List (List Int)) (v1 : Value) (k_ : Int) (hm0 : Mem w0 hz w0 [ow [v1] a_]) :
    ConM Tryz.prog 19 [v1, (nV k_)] w0 (laws_markIntSS a_ k_) fun r v w' => v = (nV r.1) ∧ Mem w0 hz w' [ow [v1] r.2] := by
  unfold laws_markIntSS
  refine gcon func19 rfl fun r => ?_
  have hm := hm0
  refine gS (gR (gA rfl (gE (gS (gS (gR (gA rfl (gE ?_))))))))
  obtain ⟨p0_1, c0_1, rfl, hl0_1⟩ := ro_slice (hm.ow_rep 0 rfl)
  refine gBk (gNf hm (fun i1_1 xs1_1 => [(0, (.slice p0_1 a_.length c0_1)), (1, (nV xs1_1.2)), (5, (nV i1_1))]) (fun i1_1 xs1_1 => [ow [(.slice p0_1 a_.length c0_1)] xs1_1.1]) [0] rfl ?_ ?_)
  ·
   repeat clear hm
   intro _ _ i1_1 xs1_1 w hm hi0_1 hi0_2 q0_1 _
   refine gS (gS (gR (gM rfl (gM rfl ?_))))
   have hl1_1 := rep_len (hm.ow_rep 0 rfl)
   refine gY (yV st_26 rfl) (gB rfl (gE (go _ 9 rfl (decide_eq_true (by omega)) (gct rfl (gSk (gS (gBk (gR (gM rfl (gM rfl (gg fun x1_1 h1_1 hx1_2 => ?_)))))))))))
   obtain ⟨b1_1, o1_1, c1_1, he⟩ := idx_form' (hm.ow_rep 0 rfl) hx1_2
   simp only [Value.slice.injEq, Option.some.injEq] at he; obtain ⟨rfl, _, rfl⟩ := he
   obtain ⟨_, _, hc1_1, hr1_1⟩ := ro_get' (hm.ow_rep 0 rfl) hx1_2
   have h1_2 := hr1_1
   obtain ⟨v1_1, rfl, -⟩ := id h1_2
   replace h1_2 : GT.rep (hp _) [v1_1] x1_1 := h1_2
   replace hc1_1 : CellsAt (hp _) b1_1 (o1_1 + (i1_1).toNat * 1) [v1_1] := hc1_1
   have hL1_1 := rep_slice_len (hm.ow_rep 0 rfl)
   refine gI st_26 h1_1 (idx_lt2 hx1_2 hL1_1) rfl (gY (yl isAgg37 (hc1_1.cell (j := 0) rfl) rfl) (gM rfl ?_))
   replace hm : Mem w0 hz _ [ow [v1_1] x1_1, hole [(sV b1_1 o1_1 a_.length c0_1)] [v1_1] (fun (y : List Int) => (xs1_1.1 : List (List Int)).set (i1_1).toNat y)] := hm.open 0 rfl (foc_elem hx1_2 hc1_1 rfl (show FocH (α := List Int) _ _ x1_1 [v1_1] x1_1 (fun y => y) from (foc_id [v1_1] x1_1)))
   obtain ⟨hz1_1, hle, hm1, hsub, hk1_1⟩ := hm.take2 (L1 := [ow [v1_1] x1_1]) (L2 := [hole [(sV b1_1 o1_1 a_.length c0_1)] [v1_1] (fun (y : List Int) => (xs1_1.1 : List (List Int)).set (i1_1).toNat y)]) [0] [1] (by decide) rfl rfl
   refine gCg rfl call26 (laws_markIntS_ok _ hz1_1 x1_1 v1_1 xs1_1.2 hm1 ) ?_
   rintro r1_1 hx1_3 v1_2 w ⟨rfl, hB⟩
   replace hm := hk1_1 _ _ hB; clear hB
   replace hm := (hm.shut 1 0 (by decide) rfl rfl).pk (L' := [ow [(sV b1_1 o1_1 a_.length c0_1)] (xs1_1.1.set (i1_1).toNat r1_1.2)]) [1] rfl rfl
   exact gA rfl (gE (gR (gM rfl (gP (by omega) (by omega) rfl (gA rfl (gE (gze hm [0] rfl)))))))
  repeat clear hm
  intro i0_1 xs0_1 w hm hi0_3 hi0_4
  refine gS (gS (gR (gM rfl (gM rfl ?_))))
  have hl0_2 := rep_len (hm.ow_rep 0 rfl)
  exact gY (yV st_26 rfl) (gB rfl (gE (go _ 9 rfl (decide_eq_false (by omega)) (gcf rfl (gXt (gHh (gS (gR (gM rfl (gA rfl (gE (gRt (gr1 results19 rfl ⟨rfl, hm.pk [0] rfl rfl⟩)))))))))))))

theorem laws_heldIntS_ok (w0 : World) (a_ : List Int) (v1 : Value) (h1 : GT.rep (hp w0) [v1] a_) (k_ : Int) :
    ConM Tryz.prog 27 [v1, (nV k_)] w0 (laws_heldIntS a_ k_) fun r v w' => v = (nV r) ∧ Below w0.heap.size w0 w' := by
  unfold laws_heldIntS
  refine gcon func27 rfl fun r => ?_
  have hm := Mem.start w0
  refine gS (gR (gA rfl (gE (gS (gS (gR (gA rfl (gE (gBk (gNf hm (fun i1_1 xs1_1 => [(0, v1), (1, (nV xs1_1)), (5, (nV i1_1))]) (fun i1_1 xs1_1 => []) [] rfl ?_ ?_))))))))))
  ·
   repeat clear hm
   intro r0_1 hq0_1 i1_1 xs1_1 w hm hi0_1 hi0_2 q0_1 ho0_1
   refine gS (gS (gR (gM rfl (gM rfl ?_))))
   obtain ⟨p1_1, c1_1, rfl, hl1_1⟩ := ro_slice h1
   refine gY (yV st_37 rfl) (gB rfl (gE (go _ 9 rfl (decide_eq_true (by omega)) (gct rfl (gSk (gS (gBk (gS (gS (gR (gM rfl (gM rfl (gg fun x1_1 h1_1 hx1_2 => ?_)))))))))))))
   obtain ⟨b1_1, o1_1, c1_2, he⟩ := idx_form h1 hx1_2
   simp only [Value.slice.injEq, Option.some.injEq] at he; obtain ⟨rfl, _, rfl⟩ := he
   refine gI st_37 h1_1 (idx_lt hx1_2) rfl (gY (yl isAgg3 ((flat_cells (cs := [(nV x1_1)]) (hm.now h1) hx1_2 rfl).cell (j := 0) rfl) rfl) (gM rfl (gB rfl (gE (gsd 17 rfl (fun h1_2 => ?_) fun h1_2 => ?_)))))
   ·
    exact gct rfl (gS (gR (gA rfl (gE (gRt (gLr ho0_1 hq0_1 (gr1 results27 rfl ⟨rfl, hm.below⟩)))))))
   exact gcf rfl (gSk (gR (gM rfl (gB rfl (gA rfl (gE (gR (gM rfl (gP (by omega) (by omega) rfl (gA rfl (gE (gze hm [] rfl))))))))))))
  repeat clear hm
  intro i0_1 xs0_1 w hm hi0_3 hi0_4
  refine gS (gS (gR (gM rfl (gM rfl ?_))))
  obtain ⟨p0_1, c0_1, rfl, hl0_1⟩ := ro_slice h1
  exact gY (yV st_37 rfl) (gB rfl (gE (go _ 9 rfl (decide_eq_false (by omega)) (gcf rfl (gXt (gHh (gS (gR (gM rfl (gA rfl (gE (gRt (gr1 results27 rfl ⟨rfl, hm.below⟩)))))))))))))

theorem laws_heldIntSS_ok (w0 : World) (a_ : List (List Int)) (v1 : Value) (h1 : GT.rep (hp w0) [v1] a_) (k_ : Int) :
    ConM Tryz.prog 20 [v1, (nV k_)] w0 (laws_heldIntSS a_ k_) fun r v w' => v = (nV r) ∧ Below w0.heap.size w0 w' := by
  unfold laws_heldIntSS
  refine gcon func20 rfl fun r => ?_
  have hm := Mem.start w0
  refine gS (gR (gA rfl (gE (gS (gS (gR (gA rfl (gE (gBk (gNf hm (fun i1_1 xs1_1 => [(0, v1), (1, (nV xs1_1)), (5, (nV i1_1))]) (fun i1_1 xs1_1 => []) [] rfl ?_ ?_))))))))))
  ·
   repeat clear hm
   intro r0_1 hq0_1 i1_1 xs1_1 w hm hi0_1 hi0_2 q0_1 ho0_1
   refine gS (gS (gR (gM rfl (gM rfl ?_))))
   obtain ⟨p1_1, c1_1, rfl, hl1_1⟩ := ro_slice h1
   refine gY (yV st_26 rfl) (gB rfl (gE (go _ 9 rfl (decide_eq_true (by omega)) (gct rfl (gSk (gS (gBk (gS (gR (gM rfl (gM rfl (gg fun x1_1 h1_1 hx1_2 => ?_))))))))))))
   obtain ⟨b1_1, o1_1, c1_2, he⟩ := idx_form' h1 hx1_2
   simp only [Value.slice.injEq, Option.some.injEq] at he; obtain ⟨rfl, _, rfl⟩ := he
   obtain ⟨_, _, hc1_1, hr1_1⟩ := ro_get' h1 hx1_2
   have h1_2 := hr1_1
   obtain ⟨v1_1, rfl, -⟩ := id h1_2
   replace h1_2 : GT.rep (hp w0) [v1_1] x1_1 := h1_2
   replace hc1_1 : CellsAt (hp w0) b1_1 (o1_1 + (i1_1).toNat * 1) [v1_1] := hc1_1
   refine gI st_26 h1_1 (idx_lt hx1_2) rfl (gY (yl isAgg37 ((hc1_1.mono hm.lez).cell (j := 0) rfl) rfl) (gM rfl (gC hm rfl call27 (laws_heldIntS_ok _ x1_1 v1_1 (hm.now h1_2) xs1_1) fun r1_1 hx1_3 w hm => gA rfl (gE (gS (gR (gM rfl (gB rfl (gE (gsd 19 rfl (fun h1_3 => ?_) fun h1_3 => ?_))))))))))
   ·
    exact gct rfl (gS (gR (gA rfl (gE (gRt (gLr ho0_1 hq0_1 (gr1 results20 rfl ⟨rfl, hm.below⟩)))))))
   exact gcf rfl (gSk (gR (gM rfl (gP (by omega) (by omega) rfl (gA rfl (gE (gze hm [] rfl)))))))
  repeat clear hm
  intro i0_1 xs0_1 w hm hi0_3 hi0_4
  refine gS (gS (gR (gM rfl (gM rfl ?_))))
  obtain ⟨p0_1, c0_1, rfl, hl0_1⟩ := ro_slice h1
  exact gY (yV st_26 rfl) (gB rfl (gE (go _ 9 rfl (decide_eq_false (by omega)) (gcf rfl (gXt (gHh (gS (gR (gM rfl (gA rfl (gE (gRt (gr1 results20 rfl ⟨rfl, hm.below⟩)))))))))))))

theorem spec_l8Pure_ok (w0 : World) (op : Int) :
    ConM Tryz.prog 116 [(nV op)] w0 (spec_l8Pure op) fun r v w' => v = (.bool (r)) ∧ Below w0.heap.size w0 w' := by
  unfold spec_l8Pure
  refine gcon func116 rfl fun r => ?_
  have hm := Mem.start w0
  exact gS (gR (gA rfl (gE (gS (gR (gM rfl (gC hm rfl call54 (spec_l1In_ok _ op 1 10) fun r0_1 hx0_1 w hm => gA rfl (gE (gRt (gr1 results116 rfl ⟨rfl, hm.below⟩))))))))))

theorem spec_l12Quiet_ok (w0 : World) (op : Int) :
    ConM Tryz.prog 89 [(nV op)] w0 (spec_l12Quiet op) fun r v w' => v = (.bool (r)) ∧ Below w0.heap.size w0 w' := by
  unfold spec_l12Quiet
  refine gcon func89 rfl fun r => ?_
  have hm := Mem.start w0
  refine gS (gR (gA rfl (gE (gS (gJ hm (fun s0_1 => [(2, (.bool (s0_1)))]) (fun s0_1 => []) (fun s0_1 => ?_) ?_)))))
  ·
   refine gR (gM rfl (gC hm rfl call116 (spec_l8Pure_ok _ op) fun r1_1 hx1_1 w hm => gM rfl (gs 5 rfl (fun h1_1 => ?_) fun h1_1 => ?_)))
   ·
    refine gM rfl (gB rfl (gKt rfl (gM rfl (gsd 9 rfl (fun h1_2 => ?_) fun h1_2 => ?_))))
    ·
     exact gM rfl (gB rfl (gKt rfl (gA rfl (gE (gz hm [] rfl)))))
    exact gO rfl (gO rfl (gKf rfl (gA rfl (gE (gz hm [] rfl)))))
   exact gO rfl (gO rfl (gKf rfl (gM rfl (gO rfl (gO rfl (gKf rfl (gA rfl (gE (gz hm [] rfl)))))))))
  repeat clear hm
  intro s0_1 w hm
  exact gRt (gr1 results89 rfl ⟨rfl, hm.below⟩)

theorem spec_l12Idle_ok (w0 : World) (c_ : Code_) (v1 : Value) (h1 : GT.rep (hp w0) [v1] c_.blocks) (s_ : l12Sets) (v2 : Value) (h2 : GT.rep (hp w0) [v2] s_.ins) (v3 : Value) (h3 : GT.rep (hp w0) [v3] s_.outs) (b_ : Int) :
    ConM Tryz.prog 60 [(.agg #[(nV c_.params), (nV c_.regs), v1]), (.agg #[v2, v3]), (nV b_)] w0 (spec_l12Idle c_ s_ b_) fun r v w' => ∃ (x1 : Value), v = x1 ∧ Mem w0 (hp w0) w' [ow [x1] r] := by
  unfold spec_l12Idle
  refine gcon func60 rfl fun r => ?_
  have hm := Mem.start w0
  refine gS (gR (gBx hm rfl fun b0_1 w hm => gBx hm rfl fun b0_2 w hm => gA rfl (gE (gS (gR (gf rfl (fun a hf => e_build0 (α := Int) et_37 hm rfl) ?_))))))
  rintro v0_1 w hm
  refine gA rfl (gE (gS (gS (gR (gA rfl (gE ?_))))))
  obtain ⟨p0_1, c0_1, rfl, hl0_1⟩ := ro_slice (hm.ow_rep 0 rfl)
  refine gJg (fun s0_1 a w => ∃ (v0_2 : Value), St 51 [(7, v0_2)] w0 (hp w0) [ow [v0_2] s0_1] a w) (fun s0_1 => ?_) ?_
  ·
   refine gBk (gMg (fun xs2_1 a w => ∃ (v2_1 : Value), St 51 [(2, (nV b_)), (3, (pV b0_1)), (4, (pV b0_2)), (7, v2_1), (8, (nV xs2_1.2))] w0 (hp w0) [blk b0_1 [(nV c_.params), (nV c_.regs), v1] 58, blk b0_2 [v2, v3] 54, ow [v2_1] xs2_1.1] a w) (fun a hf => ⟨(.slice p0_1 ([] : List Int).length c0_1), hf.sb rfl, hm.pk [2, 1, 0] rfl rfl⟩) ?_)
   repeat clear hm
   rintro r1_1 hq1_1 xs2_1 a w ⟨v2_1, hf, hm⟩ q1_1 ho1_1
   refine gv hf (gS (gS (gR (gM rfl (gF fo_58_2 rfl (gL hm 0 isAgg56 rfl (gM rfl (gg fun x2_1 h2_1 hx2_2 => ?_))))))))
   obtain ⟨b2_1, o2_1, c2_1, he⟩ := idx_form' h1 hx2_2
   subst he
   obtain ⟨v2_2, v2_3, v2_4, hc2_1, h2_2, h2_3, h2_4⟩ := rk_Block_ h1 hx2_2
   refine gI st_56 h2_1 (idx_lt hx2_2) rfl (gF fo_77_1 rfl (gY (yl isAgg75 ((hc2_1.mono hm.lez).cell (j := 1) rfl) rfl) ?_))
   obtain ⟨p2_1, c2_2, rfl, hl2_1⟩ := ro_slice h2_3
   refine gY (yV st_75 rfl) (gB rfl (gE (gsd 19 rfl (fun h2_5 => ?_) fun h2_5 => ?_)))
   ·
    refine gct rfl (gSk (gS (gJg (fun s2_1 a w => ∃ (v2_5 : Value), St 51 [(2, (nV b_)), (3, (pV b0_1)), (4, (pV b0_2)), (7, v2_5), (8, (nV xs2_1.2))] w0 (hp w0) [blk b0_1 [(nV c_.params), (nV c_.regs), (sV b2_1 o2_1 c_.blocks.length c2_1)] 58, blk b0_2 [v2, v3] 54, ow [v2_5] s2_1] a w) (fun s2_1 => ?_) ?_)))
    ·
     refine gBk (gS (gR (gF fo_58_2 rfl (gL hm 0 isAgg56 rfl (gM rfl (gI st_56 h2_1 (idx_lt hx2_2) rfl (gF fo_77_1 rfl (gY (yl isAgg75 ((hc2_1.mono hm.lez).cell (j := 1) rfl) rfl) (gM rfl (gg fun x3_1 h3_1 hx3_2 => ?_))))))))))
     obtain ⟨b3_1, o3_1, c3_1, he⟩ := idx_form' h2_3 hx3_2
     simp only [Value.slice.injEq, Option.some.injEq] at he; obtain ⟨rfl, _, rfl⟩ := he
     obtain ⟨v3_1, hc3_1, h3_2⟩ := rk_Ins_ h2_3 hx3_2
     refine gI st_75 h3_1 (idx_lt hx3_2) rfl (gY (yn (hc3_1.mono hm.lez) isAgg106 sizeOf106 rfl) (gAl hm zeroValue106 rfl fun b3_2 w hm => gSN hm 0 sizeOf106 (one_cons rfl (one_cons rfl (one_cons (rep_one h3_2) (one_cons rfl one_nil)))) rfl fun w hm => gE (gS (gJ hm (fun s3_1 => [(2, (nV b_)), (3, (pV b0_1)), (4, (pV b0_2)), (7, v2_1), (8, (nV xs2_1.2)), (45, (.bool (s3_1)))]) (fun s3_1 => [blk b0_1 [(nV c_.params), (nV c_.regs), (sV b2_1 o2_1 c_.blocks.length c2_1)] 58, blk b0_2 [v2, v3] 54, ow [v2_1] xs2_1.1]) (fun s3_1 => ?_) ?_))))
     ·
      refine gW (.p 0 (.e 1 (.e 2 (.p 3 (.p 6 (.p 7 (.p 9 (.q 4 (.q 5 (.q 10 (.e 8 (.p 11 (.e 12 (.p 13 (.p 14 .fin)) .nil)) .nil)))))))) .nil) .nil)) [4, 5, 8, 10] [0, 3, 6, 7, 9, 11, 13, 14] hm [0, 1, 2, 3] [blk b3_2 [(nV x3_1.op), (nV x3_1.to), v3_1, (nV x3_1.n_)] 106, blk b0_1 [(nV c_.params), (nV c_.regs), (sV b2_1 o2_1 c_.blocks.length c2_1)] 58, blk b0_2 [v2, v3] 54, ow [v2_1] xs2_1.1] rfl mxo (by kernel_rfl) (fun _ _ _ h => h.2) fun w hm hS => tP rfl (fun w => yF fo_106_0 rfl) (tO (tY rfl (yL hm 0 isAgg3 rfl) (tAn rfl (tO (gb fun r4_1 hx4_1 => tf rfl rfl (fun a hf => e_call hf rfl call89 rfl (spec_l12Quiet_ok _ x3_1.op _ hx4_1)) ?_)))))
      rintro v4_1 w ⟨rfl, hB⟩
      replace hm := hm.below' hB; clear hB
      refine tAk hm [0, 1, 2, 3] rfl fun hS => tP rfl (fun w => yM rfl) (gs 34 rfl (fun h4_1 => ?_) fun h4_1 => ?_)
      ·
       refine tP rfl (fun w => yM rfl) (tP rfl (fun w => yM rfl) (tP rfl (fun w => yF fo_106_1 rfl) (tQ rfl hS (fun w hm => yn (hm.blk_at 1 rfl) isAgg58 sizeOf58 rfl) (tQ rfl hS (fun w hm => yn (hm.blk_at 2 rfl) isAgg54 sizeOf54 rfl) (tQ rfl hS (fun w hm => yL hm 0 isAgg3 rfl) (tO (gb fun r4_2 hx4_2 => tf rfl rfl (fun a hf => e_call hf rfl call56 rfl (spec_l12Behind_ok _ c_ (sV b2_1 o2_1 c_.blocks.length c2_1) (hm.now h1) s_ v2 (hm.now h2) v3 (hm.now h3) b_ xs2_1.2 _ hx4_2)) ?_)))))))
       rintro v4_2 w ⟨_, rfl, hB⟩
       replace hm := hm.give hB; clear hB
       refine tAk hm [1, 2, 3, 4] rfl fun hS => gg fun x4_1 h4_2 hx4_4 => ?_
       obtain ⟨b4_1, o4_1, c4_1, he⟩ := idx_form (hm.ow_rep 0 rfl) hx4_4
       subst he
       exact tP rfl (fun w => yI st_79 h4_2 (idx_lt hx4_4) rfl) (tO (tY rfl (yl isAgg4 ((flat_cells (cs := [(.bool (x4_1))]) (hm.ow_rep 0 rfl) hx4_4 rfl).cell (j := 0) rfl) rfl) (tAn rfl (tP rfl (fun w => yN rfl) (tP rfl (fun w => yKt rfl) (tE (gz hm [2, 3, 4] rfl)))))))
      exact tPo rfl rfl (tPo rfl rfl (tPo rfl rfl (tQo rfl hS rfl (tQo rfl hS rfl (tQo rfl hS rfl (tO (tEo rfl rfl (tAs hS (tPo rfl rfl (tO (tEo rfl rfl (tAn rfl (tPo rfl rfl (tP rfl (fun w => yKf rfl) (tE (gz hm [1, 2, 3] rfl))))))))))))))))
     repeat clear hm
     intro s3_1 w hm
     refine gJg (fun s3_2 a w => ∃ (v3_2 : Value), St 51 [(2, (nV b_)), (3, (pV b0_1)), (4, (pV b0_2)), (7, v3_2), (8, (nV xs2_1.2))] w0 (hp w0) [blk b0_1 [(nV c_.params), (nV c_.regs), (sV b2_1 o2_1 c_.blocks.length c2_1)] 58, blk b0_2 [v2, v3] 54, ow [v3_2] s3_2] a w) (fun s3_2 => ?_) ?_
     ·
      refine gs 45 rfl (fun h4_3 => ?_) fun h4_3 => ?_
      ·
       refine gct rfl (gR (gM rfl (gM rfl (gf rfl (fun a hf => e_build (vs := #[(0, (nV xs2_1.2))]) (cs := [(nV xs2_1.2)]) et_37 hf hm rfl rfl (by kernel_rfl) rfl rfl) ?_))))
       rintro _ w ⟨b4_2, rfl, hm⟩
       replace hm := hm.lit (xs := ([xs2_1.2] : List Int)) 0 rfl rfl rfl rfl
       refine gb fun ys4_1 hx4_5 => ?_
       obtain ⟨h4_4, h4_4e⟩ := appM_some.1 hx4_5
       refine gf rfl (fun a hf => e_append 3 et_37 hf hm rfl (hm.ow_rep 0 rfl) rfl rfl rfl h4_4) ?_
       rintro v4_4 w hm
       rw [h4_4e] at hm
       exact gA rfl (gE (gZ fun a hf => ⟨v4_4, hf.sb rfl, hm.pk [1, 2, 3] rfl rfl⟩))
      exact gcf rfl (gSk (gZ fun a hf => ⟨v2_1, hf.sb rfl, hm.pk [0, 1, 2] rfl rfl⟩))
     repeat clear hm
     rintro s3_2 a w ⟨v3_2, hf, hm⟩
     exact gv hf (gZ fun a hf => ⟨v3_2, hf.sb rfl, hm.pk [0, 1, 2] rfl rfl⟩)
    repeat clear hm
    rintro s2_1 a w ⟨v2_5, hf, hm⟩
    exact gv hf (gR (gM rfl (gB rfl (gA rfl (gE (gZe fun a hf => ⟨v2_5, hf.sb rfl, hm.pk [0, 1, 2] rfl rfl⟩))))))
   exact gcf rfl (gXt (gHh (gLp ho1_1 hq1_1 (gZ fun a hf => ⟨v2_1, hf.sb rfl, hm.pk [2] rfl rfl⟩))))
  repeat clear hm
  rintro s0_1 a w ⟨v0_2, hf, hm⟩
  exact gv hf (gS (gR (gM rfl (gA rfl (gE (gRt (gr1 results60 rfl ⟨v0_2, rfl, hm.pk [0] rfl rfl⟩)))))))

theorem spec_IdleIns_ok (w0 : World) (u : Unit_) (v1 : Value) (h1 : GT.rep (hp w0) [v1] u.codes) :
    ConM Tryz.prog 30 [(.agg #[v1])] w0 (spec_IdleIns u) fun r v w' => ∃ (x1 : Value), v = x1 ∧ Mem w0 (hp w0) w' [ow [x1] r] := by
  unfold spec_IdleIns
  refine gcon func30 rfl fun r => ?_
  have hm := Mem.start w0
  refine gS (gR (gBx hm rfl fun b0_1 w hm => gA rfl (gE (gS (gR (gf rfl (fun a hf => e_build0 (α := List Int) et_26 hm rfl) ?_))))))
  rintro v0_1 w hm
  refine gA rfl (gE (gS (gS (gR (gA rfl (gE ?_))))))
  obtain ⟨p0_1, c0_1, rfl, hl0_1⟩ := ro_slice (hm.ow_rep 0 rfl)
  refine gJg (fun s0_1 a w => ∃ (v0_2 : Value), St 63 [(3, v0_2)] w0 (hp w0) [ow [v0_2] s0_1] a w) (fun s0_1 => ?_) ?_
  ·
   refine gBk (gMg (fun xs2_1 a w => ∃ (v2_1 : Value), St 63 [(1, (pV b0_1)), (3, v2_1), (4, (nV xs2_1.2))] w0 (hp w0) [blk b0_1 [v1] 30, ow [v2_1] xs2_1.1] a w) (fun a hf => ⟨(.slice p0_1 ([] : List (List Int)).length c0_1), hf.sb rfl, hm.pk [1, 0] rfl rfl⟩) ?_)
   repeat clear hm
   rintro r1_1 hq1_1 xs2_1 a w ⟨v2_1, hf, hm⟩ q1_1 ho1_1
   refine gv hf (gS (gS (gJ hm (fun s2_1 => [(1, (pV b0_1)), (3, v2_1), (4, (nV xs2_1.2)), (18, (.bool (s2_1)))]) (fun s2_1 => [blk b0_1 [v1] 30, ow [v2_1] xs2_1.1]) (fun s2_1 => ?_) ?_)))
   ·
    refine gR (gM rfl (gF fo_30_0 rfl (gL hm 0 isAgg28 rfl ?_)))
    obtain ⟨p3_1, c3_1, rfl, hl3_1⟩ := ro_slice h1
    refine gY (yV st_28 rfl) (gB rfl (gM rfl (gsd 15 rfl (fun h3_1 => ?_) fun h3_1 => ?_)))
    ·
     exact gY (yn (hm.blk_at 0 rfl) isAgg30 sizeOf30 rfl) (gC hm rfl call59 (spec_UnitValid_ok _ u (.slice p3_1 u.codes.length c3_1) (hm.now h1)) fun r3_1 hx3_1 w hm => gKt rfl (gE (gz hm [0, 1] rfl)))
    exact gO rfl (gO rfl (gKf rfl (gE (gz hm [0, 1] rfl))))
   repeat clear hm
   intro s2_1 w hm
   refine gs 18 rfl (fun h2_1 => ?_) fun h2_1 => ?_
   ·
    refine gct rfl (gSk (gS (gBk (gS (gR (gF fo_30_0 rfl (gL hm 0 isAgg28 rfl (gM rfl (gg fun x2_1 h2_2 hx2_2 => ?_)))))))))
    obtain ⟨b2_1, o2_1, c2_1, he⟩ := idx_form' h1 hx2_2
    subst he
    obtain ⟨v2_2, hc2_1, h2_3⟩ := rk_Code_ h1 hx2_2
    refine gI st_28 h2_2 (idx_lt hx2_2) rfl (gY (yn (hc2_1.mono hm.lez) isAgg58 sizeOf58 rfl) (gCg rfl call44 (spec_l12Live_ok _ x2_1 v2_2 (hm.now h2_3)) ?_))
    rintro r2_1 hx2_3 v2_3 w ⟨v2_4, v2_5, rfl, hB⟩
    replace hm := hm.give hB; clear hB
    refine gAl hm zeroValue54 rfl fun b2_2 w hm => gSN hm 0 sizeOf54 (one_cons (rep_one (hm.ow_rep 1 rfl)) (one_cons (rep_one (hm.ow_rep 2 rfl)) one_nil)) rfl fun w hm => gE (gS (gR (gA rfl (gE ?_))))
    obtain ⟨p2_1, c2_2, rfl, hl2_1⟩ := ro_slice (hm.ow_rep 4 rfl)
    obtain ⟨p2_2, c2_3, rfl, hl2_2⟩ := ro_slice (hm.ow_rep 1 rfl)
    obtain ⟨p2_3, c2_4, rfl, hl2_3⟩ := ro_slice (hm.ow_rep 2 rfl)
    refine gBk (gNg (fun i3_1 xs3_1 a w => ∃ (v3_2 : Value), St 63 [(1, (pV b0_1)), (3, v3_2), (4, (nV xs2_1.2)), (5, (pV b2_2)), (6, (nV i3_1))] w0 (hp w0) [blk b0_1 [(sV b2_1 o2_1 u.codes.length c2_1)] 30, ow [v3_2] xs3_1, blk b2_2 [(.slice p2_2 r2_1.ins.length c2_3), (.slice p2_3 r2_1.outs.length c2_4)] 54, ow [(.slice p2_2 r2_1.ins.length c2_3)] r2_1.ins, ow [(.slice p2_3 r2_1.outs.length c2_4)] r2_1.outs] a w) (fun a hf => ⟨(.slice p2_1 xs2_1.1.length c2_2), hf.sb rfl, hm.pk [3, 4, 0, 1, 2] rfl rfl⟩) ?_ ?_)
    ·
     repeat clear hm
     rintro _ _ i3_1 xs3_1 a w ⟨v3_2, hf, hm⟩ hi2_1 hi2_2 q2_1 _
     refine gv hf (gS (gS (gR (gM rfl (gF fo_30_0 rfl (gL hm 0 isAgg28 rfl (gM rfl (gI st_28 h2_2 (idx_lt hx2_2) rfl (gF fo_58_2 rfl (gY (yl isAgg56 ((hc2_1.mono hm.lez).cell (j := 2) rfl) rfl) ?_))))))))))
     obtain ⟨p3_2, c3_2, rfl, hl3_2⟩ := ro_slice h2_3
     refine gY (yV st_56 rfl) (gB rfl (gE (go _ 35 rfl (decide_eq_true (by omega)) (gct rfl (gSk (gS (gBk (gS (gW (.p 0 (.p 2 (.p 6 (.q 1 (.p 3 (.q 4 (.e 5 (.e 7 (.p 8 .fin) .nil) .nil))))))) [5] [0, 2, 3, 6, 8] hm [0, 1, 2, 3, 4] [blk b0_1 [(sV b2_1 o2_1 u.codes.length c2_1)] 30, ow [v3_2] xs3_1, blk b2_2 [(.slice p2_2 r2_1.ins.length c2_3), (.slice p2_3 r2_1.outs.length c2_4)] 54, ow [(.slice p2_2 r2_1.ins.length c2_3)] r2_1.ins, ow [(.slice p2_3 r2_1.outs.length c2_4)] r2_1.outs] rfl mxo (by kernel_rfl) (fun _ _ _ h => h.2) fun w hm hS => tP rfl (fun w => yF fo_30_0 rfl) (tP rfl (fun w => yM rfl) (tP rfl (fun w => yM rfl) (tQ rfl hS (fun w hm => yL hm 0 isAgg28 rfl) (tP rfl (fun w => yI st_28 h2_2 (idx_lt hx2_2) rfl) (tQ rfl hS (fun w hm => yn (hc2_1.mono hm.lez) isAgg58 sizeOf58 rfl) (tO (tY rfl (yn (hm.blk_at 2 rfl) isAgg54 sizeOf54 rfl) (tAs hS (tO (gb fun r3_2 hx3_2 => tf rfl rfl (fun a hf => e_call hf rfl call60 rfl (spec_l12Idle_ok _ x2_1 (.slice p3_2 x2_1.blocks.length c3_2) (hm.now h2_3) r2_1 (.slice p2_2 r2_1.ins.length c2_3) (hm.ow_rep 3 rfl) (.slice p2_3 r2_1.outs.length c2_4) (hm.ow_rep 4 rfl) i3_1 _ hx3_2)) ?_)))))))))))))))))))
     rintro v3_3 w ⟨_, rfl, hB⟩
     replace hm := hm.give hB; clear hB
     refine tAn rfl (tP rfl (fun w => yA rfl) (tE (gS (gR (gA rfl (gE ?_))))))
     obtain ⟨p3_3, c3_3, rfl, hl3_3⟩ := ro_slice (hm.ow_rep 2 rfl)
     obtain ⟨p3_4, c3_4, rfl, hl3_4⟩ := ro_slice (hm.ow_rep 0 rfl)
     refine gBk (gNg (fun i4_1 xs4_1 a w => ∃ (v4_1 : Value), St 63 [(1, (pV b0_1)), (3, v4_1), (4, (nV xs2_1.2)), (5, (pV b2_2)), (6, (nV i3_1)), (7, (.slice p3_4 r3_2.length c3_4)), (8, (nV i4_1))] w0 (hp w0) [blk b0_1 [(sV b2_1 o2_1 u.codes.length c2_1)] 30, ow [v4_1] xs4_1, blk b2_2 [(.slice p2_2 r2_1.ins.length c2_3), (.slice p2_3 r2_1.outs.length c2_4)] 54, ow [(.slice p2_2 r2_1.ins.length c2_3)] r2_1.ins, ow [(.slice p2_3 r2_1.outs.length c2_4)] r2_1.outs, ow [(.slice p3_4 r3_2.length c3_4)] r3_2] a w) (fun a hf => ⟨(.slice p3_3 xs3_1.length c3_3), hf.sb rfl, hm.pk [1, 2, 3, 4, 5, 0] rfl rfl⟩) ?_ ?_)
     ·
      repeat clear hm
      rintro _ _ i4_1 xs4_1 a w ⟨v4_1, hf, hm⟩ hi3_1 hi3_2 q3_1 _
      refine gv hf (gS (gS (gR (gM rfl (gM rfl (gY (yV st_37 rfl) (gB rfl (gE (go _ 49 rfl (decide_eq_true (by omega)) (gct rfl (gSk (gS (gBk (gR (gM rfl (gM rfl (gM rfl (gM rfl (gM rfl (gg fun x4_1 h4_1 hx4_2 => ?_))))))))))))))))))))
      obtain ⟨b4_1, o4_1, c4_1, he⟩ := idx_form (hm.ow_rep 5 rfl) hx4_2
      simp only [Value.slice.injEq, Option.some.injEq] at he; obtain ⟨rfl, _, rfl⟩ := he
      refine gI st_37 h4_1 (idx_lt hx4_2) rfl (gY (yl isAgg3 ((flat_cells (cs := [(nV x4_1)]) (hm.ow_rep 5 rfl) hx4_2 rfl).cell (j := 0) rfl) rfl) (gf rfl (fun a hf => e_build (vs := #[(0, (nV xs2_1.2)), (1, (nV i3_1)), (2, (nV x4_1))]) (cs := [(nV xs2_1.2), (nV i3_1), (nV x4_1)]) et_37 hf hm rfl rfl (by kernel_rfl) rfl rfl) ?_))
      rintro _ w ⟨b4_2, rfl, hm⟩
      replace hm := hm.lit (xs := ([xs2_1.2, i3_1, x4_1] : List Int)) 0 rfl rfl rfl rfl
      refine gf rfl (fun a hf => e_build (vs := #[(0, (sV b4_2 0 3 3))]) (cs := [(sV b4_2 0 3 3)]) et_26 hf hm rfl rfl (by kernel_rfl) rfl rfl) ?_
      rintro _ w ⟨b4_3, rfl, hm⟩
      replace hm := hm.els_nil (α := List Int)
      replace hm := hm.imp (c' := ow [(sV b4_2 0 3 3)] (([xs2_1.2, i3_1, x4_1] : List Int) : List Int)) 2 rfl (fun F h0 => h0)
      replace hm := (hm.els_cons 0 2 (by decide) rfl rfl).pk (L' := [els [(sV b4_2 0 3 3)] ([([xs2_1.2, i3_1, x4_1] : List Int)] : List (List Int)), blk b4_3 [(sV b4_2 0 3 3)] 37, blk b0_1 [(sV b2_1 o2_1 u.codes.length c2_1)] 30, ow [v4_1] xs4_1, blk b2_2 [(.slice p2_2 r2_1.ins.length c2_3), (.slice p2_3 r2_1.outs.length c2_4)] 54, ow [(.slice p2_2 r2_1.ins.length c2_3)] r2_1.ins, ow [(.slice p2_3 r2_1.outs.length c2_4)] r2_1.outs, ow [(sV b4_1 o4_1 r3_2.length c3_4)] r3_2]) [0, 1, 3, 4, 5, 6, 7, 8] rfl rfl
      replace hm := (hm.lit_els 1 0 (by decide) rfl rfl rfl rfl).pk (L' := [ow [(sV b4_3 0 1 1)] ([([xs2_1.2, i3_1, x4_1] : List Int)] : List (List Int)), blk b0_1 [(sV b2_1 o2_1 u.codes.length c2_1)] 30, ow [v4_1] xs4_1, blk b2_2 [(.slice p2_2 r2_1.ins.length c2_3), (.slice p2_3 r2_1.outs.length c2_4)] 54, ow [(.slice p2_2 r2_1.ins.length c2_3)] r2_1.ins, ow [(.slice p2_3 r2_1.outs.length c2_4)] r2_1.outs, ow [(sV b4_1 o4_1 r3_2.length c3_4)] r3_2]) [1, 2, 3, 4, 5, 6, 7] rfl rfl
      refine gb fun ys4_1 hx4_3 => ?_
      obtain ⟨h4_2, h4_2e⟩ := appM_some.1 hx4_3
      replace hm := (hm.both 2 0 (by decide) rfl rfl).pk (L' := [blk b0_1 [(sV b2_1 o2_1 u.codes.length c2_1)] 30, both (ow [v4_1] xs4_1) (ow [(sV b4_3 0 1 1)] ([([xs2_1.2, i3_1, x4_1] : List Int)] : List (List Int))), blk b2_2 [(.slice p2_2 r2_1.ins.length c2_3), (.slice p2_3 r2_1.outs.length c2_4)] 54, ow [(.slice p2_2 r2_1.ins.length c2_3)] r2_1.ins, ow [(.slice p2_3 r2_1.outs.length c2_4)] r2_1.outs, ow [(sV b4_1 o4_1 r3_2.length c3_4)] r3_2]) [1, 2, 3, 4, 5, 6] rfl rfl
      refine gf rfl (fun a hf => e_appendD (xs := xs4_1) (ys := ([([xs2_1.2, i3_1, x4_1] : List Int)] : List (List Int))) 1 et_26 hf hm rfl rfl rfl rfl h4_2) ?_
      rintro v4_2 w hm
      rw [h4_2e] at hm
      exact gA rfl (gE (gR (gM rfl (gP (by omega) (by omega) rfl (gA rfl (gE (gZe fun a hf => ⟨v4_2, hf.sb rfl, hm.pk [0, 1, 2, 3, 4, 5] rfl rfl⟩)))))))
     repeat clear hm
     rintro i3_2 xs3_2 a w ⟨v3_5, hf, hm⟩ hi3_3 hi3_4
     exact gv hf (gS (gS (gR (gM rfl (gM rfl (gY (yV st_37 rfl) (gB rfl (gE (go _ 49 rfl (decide_eq_false (by omega)) (gcf rfl (gXt (gHh (gR (gM rfl (gP (by omega) (by omega) rfl (gA rfl (gE (gZe fun a hf => ⟨v3_5, hf.sb rfl, hm.pk [0, 1, 2, 3, 4] rfl rfl⟩))))))))))))))))))
    repeat clear hm
    rintro i2_2 xs2_2 a w ⟨v2_6, hf, hm⟩ hi2_3 hi2_4
    refine gv hf (gS (gS (gR (gM rfl (gF fo_30_0 rfl (gL hm 0 isAgg28 rfl (gM rfl (gI st_28 h2_2 (idx_lt hx2_2) rfl (gF fo_58_2 rfl (gY (yl isAgg56 ((hc2_1.mono hm.lez).cell (j := 2) rfl) rfl) ?_))))))))))
    obtain ⟨p2_4, c2_5, rfl, hl2_4⟩ := ro_slice h2_3
    exact gY (yV st_56 rfl) (gB rfl (gE (go _ 35 rfl (decide_eq_false (by omega)) (gcf rfl (gXt (gHh (gR (gM rfl (gB rfl (gA rfl (gE (gZe fun a hf => ⟨v2_6, hf.sb rfl, hm.pk [0, 1] rfl rfl⟩))))))))))))
   exact gcf rfl (gXt (gHh (gLp ho1_1 hq1_1 (gZ fun a hf => ⟨v2_1, hf.sb rfl, hm.pk [1] rfl rfl⟩))))
  repeat clear hm
  rintro s0_1 a w ⟨v0_2, hf, hm⟩
  exact gv hf (gS (gR (gM rfl (gA rfl (gE (gRt (gr1 results30 rfl ⟨v0_2, rfl, hm.pk [0] rfl rfl⟩)))))))

theorem impl_harmless_ok (w0 : World) (op : Int) :
    ConM Tryz.prog 92 [(nV op)] w0 (impl_harmless op) fun r v w' => v = (.bool (r)) ∧ Below w0.heap.size w0 w' := by
  unfold impl_harmless
  refine gcon func92 rfl fun r => ?_
  have hm := Mem.start w0
  refine gS (gR (gA rfl (gE (gS (gS (gR (gM rfl (gE (gBk (gS (gS (gR (gB rfl (gA rfl (gE (gJ hm (fun s0_1 => [(4, (.bool (s0_1)))]) (fun s0_1 => []) (fun s0_1 => ?_) ?_))))))))))))))))
  ·
   refine gsd 4 rfl (fun h1_1 => ?_) fun h1_1 => ?_
   ·
    exact gct rfl (gSk (gz hm [] rfl))
   refine gcf rfl (gS (gR (gB rfl (gA rfl (gE (gJ hm (fun s1_1 => [(4, (.bool (s1_1)))]) (fun s1_1 => []) (fun s1_1 => ?_) ?_))))))
   ·
    refine gsd 4 rfl (fun h2_1 => ?_) fun h2_1 => ?_
    ·
     exact gct rfl (gSk (gz hm [] rfl))
    refine gcf rfl (gS (gR (gB rfl (gA rfl (gE (gJ hm (fun s2_1 => [(4, (.bool (s2_1)))]) (fun s2_1 => []) (fun s2_1 => ?_) ?_))))))
    ·
     refine gsd 4 rfl (fun h3_1 => ?_) fun h3_1 => ?_
     ·
      exact gct rfl (gSk (gz hm [] rfl))
     refine gcf rfl (gS (gR (gB rfl (gA rfl (gE (gJ hm (fun s3_1 => [(4, (.bool (s3_1)))]) (fun s3_1 => []) (fun s3_1 => ?_) ?_))))))
     ·
      refine gsd 4 rfl (fun h4_1 => ?_) fun h4_1 => ?_
      ·
       exact gct rfl (gSk (gz hm [] rfl))
      refine gcf rfl (gS (gR (gB rfl (gA rfl (gE (gJ hm (fun s4_1 => [(4, (.bool (s4_1)))]) (fun s4_1 => []) (fun s4_1 => ?_) ?_))))))
      ·
       refine gsd 4 rfl (fun h5_1 => ?_) fun h5_1 => ?_
       ·
        exact gct rfl (gSk (gz hm [] rfl))
       refine gcf rfl (gS (gR (gB rfl (gA rfl (gE (gJ hm (fun s5_1 => [(4, (.bool (s5_1)))]) (fun s5_1 => []) (fun s5_1 => ?_) ?_))))))
       ·
        refine gsd 4 rfl (fun h6_1 => ?_) fun h6_1 => ?_
        ·
         exact gct rfl (gSk (gz hm [] rfl))
        refine gcf rfl (gS (gR (gB rfl (gA rfl (gE (gJ hm (fun s6_1 => [(4, (.bool (s6_1)))]) (fun s6_1 => []) (fun s6_1 => ?_) ?_))))))
        ·
         refine gsd 4 rfl (fun h7_1 => ?_) fun h7_1 => ?_
         ·
          exact gct rfl (gSk (gz hm [] rfl))
         exact gcf rfl (gR (gB rfl (gA rfl (gE (gz hm [] rfl)))))
        repeat clear hm
        intro s6_1 w hm
        exact gz hm [] rfl
       repeat clear hm
       intro s5_1 w hm
       exact gz hm [] rfl
      repeat clear hm
      intro s4_1 w hm
      exact gz hm [] rfl
     repeat clear hm
     intro s3_1 w hm
     exact gz hm [] rfl
    repeat clear hm
    intro s2_1 w hm
    exact gz hm [] rfl
   repeat clear hm
   intro s1_1 w hm
   exact gz hm [] rfl
  repeat clear hm
  intro s0_1 w hm
  refine gs 4 rfl (fun h0_1 => ?_) fun h0_1 => ?_
  ·
   exact gct rfl (gS (gR (gA rfl (gE (gRt (gr1 results92 rfl ⟨rfl, hm.below⟩))))))
  exact gcf rfl (gSk (gS (gR (gA rfl (gE (gRt (gr1 results92 rfl ⟨rfl, hm.below⟩)))))))

theorem pimpl_live__idleAt_ok (w0 : World) (l_ : live) (bp0 : Nat) (v1p : Value) (h1p : GT.rep (hp w0) [v1p] l_.c.blocks) (v2p : Value) (h2p : GT.rep (hp w0) [v2p] l_.ins) (v3p : Value) (h3p : GT.rep (hp w0) [v3p] l_.preds) (hbbp0 : (hp w0) bp0 = some (.cells ([(nV l_.c.params), (nV l_.c.regs), v1p, v2p, v3p] : List Value).toArray 65 (0, 0))) (b_ : Int) (i_ : Int) :
    ConM Tryz.prog 62 [(pV bp0), (nV b_), (nV i_)] w0 (pimpl_live__idleAt l_ b_ i_) fun r v w' => v = (.bool (r)) ∧ Below w0.heap.size w0 w' := by
  unfold pimpl_live__idleAt
  refine gcon func62 rfl fun r => ?_
  have hm := Mem.start w0
  refine gS (gR (gA rfl (gE (gS (gR (gM rfl (gY (yG rfl (y_nilptr rfl rfl)) (gF fo_65_0 rfl (gF fo_58_2 rfl (gY (yl isAgg56 (hm.hz_cell hbbp0 rfl) rfl) (gM rfl (gg fun x0_1 h0_1 hx0_2 => ?_))))))))))))
  obtain ⟨b0_1, o0_1, c0_1, he⟩ := idx_form' h1p hx0_2
  subst he
  obtain ⟨v0_1, v0_2, v0_3, hc0_1, h0_2, h0_3, h0_4⟩ := rk_Block_ h1p hx0_2
  refine gI st_56 h0_1 (idx_lt hx0_2) rfl (gF fo_77_1 rfl (gY (yl isAgg75 ((hc0_1.mono hm.lez).cell (j := 1) rfl) rfl) (gM rfl (gg fun x0_2 h0_5 hx0_4 => ?_))))
  obtain ⟨b0_2, o0_2, c0_2, he⟩ := idx_form' h0_3 hx0_4
  subst he
  obtain ⟨v0_4, hc0_2, h0_6⟩ := rk_Ins_ h0_3 hx0_4
  refine gI st_75 h0_5 (idx_lt hx0_4) rfl (gY (yn (hc0_2.mono hm.lez) isAgg106 sizeOf106 rfl) (gAl hm zeroValue106 rfl fun b0_3 w hm => gSN hm 0 sizeOf106 (one_cons rfl (one_cons rfl (one_cons (rep_one h0_6) (one_cons rfl one_nil)))) rfl fun w hm => gE (gS (gJ hm (fun s0_1 => [(6, (.bool (s0_1)))]) (fun s0_1 => []) (fun s0_1 => ?_) ?_))))
  ·
   refine gW (.p 0 (.e 1 (.e 2 (.p 3 (.p 4 (.p 5 (.p 6 (.p 8 (.q 9 (.e 7 (.e 10 (.p 11 (.p 12 (.p 13 .fin))) .nil) .nil))))))) .nil) .nil)) [7] [0, 3, 4, 5, 6, 8, 11, 12, 13] hm [0] [blk b0_3 [(nV x0_2.op), (nV x0_2.to), v0_4, (nV x0_2.n_)] 106] rfl mxo (by kernel_rfl) (fun _ _ _ h => h.2) fun w hm hS => tP rfl (fun w => yF fo_106_0 rfl) (tO (tY rfl (yL hm 0 isAgg3 rfl) (tAn rfl (tO (gb fun r1_1 hx1_1 => tf rfl rfl (fun a hf => e_call hf rfl call92 rfl (impl_harmless_ok _ x0_2.op _ hx1_1)) ?_)))))
   rintro v1_1 w ⟨rfl, hB⟩
   replace hm := hm.below' hB; clear hB
   refine tAk hm [0] rfl fun hS => tP rfl (fun w => yM rfl) (gs 23 rfl (fun h1_1 => ?_) fun h1_1 => ?_)
   ·
    refine tP rfl (fun w => yM rfl) (tP rfl (fun w => yM rfl) (tP rfl (fun w => yM rfl) (tP rfl (fun w => yF fo_106_1 rfl) (tQ rfl hS (fun w hm => yL hm 0 isAgg3 rfl) (tO (gb fun r1_2 hx1_2 => tf rfl rfl (fun a hf => e_call hf rfl call58 rfl (pimpl_live__behind_ok _ l_ bp0 (sV b0_1 o0_1 l_.c.blocks.length c0_1) (hm.now h1p) v2p (hm.now h2p) v3p (hm.now h3p) (hm.lez _ _ ((Heap.le_refl _) _ _ hbbp0)) b_ i_ _ hx1_2)) ?_))))))
    rintro v1_2 w ⟨_, rfl, hB⟩
    replace hm := hm.give hB; clear hB
    exact tAk hm [1] rfl fun hS => tO (tY rfl (yG rfl (y_lookB (key := x0_2.to) (m := (r1_2 : MapS Bool)) underlying3 underlying62 zeroValue4 (hm.owm_rep 0 rfl) rfl rfl rfl)) (tAn rfl (tP rfl (fun w => yN rfl) (tP rfl (fun w => yKt rfl) (tP rfl (fun w => yA rfl) (tE (gz hm [] rfl)))))))
   exact tPo rfl rfl (tPo rfl rfl (tPo rfl rfl (tPo rfl rfl (tQo rfl hS rfl (tO (tEo rfl rfl (tAs hS (tO (tEo rfl rfl (tAn rfl (tPo rfl rfl (tP rfl (fun w => yKf rfl) (tP rfl (fun w => yA rfl) (tE (gz hm [] rfl)))))))))))))))
  repeat clear hm
  intro s0_1 w hm
  exact gRt (gr1 results62 rfl ⟨rfl, hm.below⟩)

theorem impl_IdleIns_ok (w0 : World) (u : Unit_) (v1 : Value) (h1 : GT.rep (hp w0) [v1] u.codes) :
    ConM Tryz.prog 31 [(.agg #[v1])] w0 (impl_IdleIns u) fun r v w' => ∃ (x1 : Value), v = x1 ∧ Mem w0 (hp w0) w' [ow [x1] r] := by
  unfold impl_IdleIns
  refine gcon func31 rfl fun r => ?_
  have hm := Mem.start w0
  refine gS (gR (gBx hm rfl fun b0_1 w hm => gA rfl (gE (gS (gS (gR (gY (yn (hm.blk_at 0 rfl) isAgg30 sizeOf30 rfl) (gC hm rfl call61 (impl_UnitValid_ok _ u v1 (hm.now h1)) fun r0_1 hx0_1 w hm => gN rfl (gE (gsn 12 rfl (fun h0_1 => ?_) fun h0_1 => ?_))))))))))
  ·
   refine gct rfl (gS (gR (gA rfl (gE (gRt ?_)))))
   replace hm := hm.nilow (α := List Int)
   exact gr1 results31 rfl ⟨(.slice none 0 0), rfl, hm.pk [0] rfl rfl⟩
  refine gcf rfl (gSk (gS (gR (gA rfl (gE (gS (gS (gR (gF fo_30_0 rfl (gL hm 0 isAgg28 rfl ?_))))))))))
  obtain ⟨p0_1, c0_1, rfl, hl0_1⟩ := ro_slice h1
  refine gY (yV st_28 rfl) (gM rfl (gE (gBk ?_)))
  replace hm := hm.nilow (α := List Int)
  refine gNg (fun i1_1 xs1_1 a w => ∃ (hz1_1 : Heap) (v1_1 : Value), Heap.le (hp w0) hz1_1 ∧ St 52 [(3, v1_1), (14, (.slice p0_1 u.codes.length c0_1)), (15, (nV ((u.codes.length : Int)))), (16, (nV i1_1))] w0 hz1_1 [ow [v1_1] xs1_1] a w) (fun a hf => ⟨(hp w0), (.slice none 0 0), (Heap.le_refl _), hf.sb rfl, hm.pk [0] rfl rfl⟩) ?_ ?_
  ·
   repeat clear hm
   rintro _ _ i1_1 xs1_1 a w ⟨hz1_1, v1_1, hle1_1, hf, hm⟩ hi0_1 hi0_2 q0_1 _
   refine gv hf (gS (gR (gB rfl (gE (gS (go _ 17 rfl (decide_eq_true (by omega)) (gct rfl (gSk (gS (gBk (gS (gR (gM rfl (gg fun x1_1 h1_1 hx1_2 => ?_))))))))))))))
   obtain ⟨b1_1, o1_1, c1_1, he⟩ := idx_form' h1 hx1_2
   simp only [Value.slice.injEq, Option.some.injEq] at he; obtain ⟨rfl, _, rfl⟩ := he
   obtain ⟨v1_2, hc1_1, h1_2⟩ := rk_Code_ h1 hx1_2
   refine gI st_28 h1_1 (idx_lt hx1_2) rfl (gY (yn (hc1_1.mono (Heap.le_trans hle1_1 hm.lez)) isAgg58 sizeOf58 rfl) (gAl hm zeroValue58 rfl fun b1_2 w hm => gA rfl (gSN hm 0 sizeOf58 (one_cons rfl (one_cons rfl (one_cons (rep_one h1_2) one_nil))) rfl fun w hm => gE (gS (gR (gY (yn (hm.blk_at 0 rfl) isAgg58 sizeOf58 rfl) (gCg rfl call48 (impl_liveOf_ok _ _ hm.lez x1_1 v1_2 (GT.mono hle1_1 h1_2) ) ?_)))))))
   rintro r1_1 hx1_3 v1_3 w ⟨b1_3, v1_4, v1_5, v1_6, hz1_2, rfl, hle1_2, h1_3, hB⟩
   replace hm := Mem.giveA hm hle1_2 hB; clear hB
   refine gA rfl (gE (gS (gR (gF fo_58_2 rfl (gL hm 3 isAgg56 rfl ?_)))))
   obtain ⟨p1_1, c1_2, rfl, hl1_1⟩ := ro_slice h1_2
   refine gY (yV st_56 rfl) (gM rfl (gE ?_))
   obtain ⟨p1_2, c1_3, rfl, hl1_2⟩ := ro_slice (hm.ow_rep 4 rfl)
   obtain ⟨p1_3, c1_4, rfl, hl1_3⟩ := ro_slice (hm.ow_rep 1 rfl)
   obtain ⟨p1_4, c1_5, rfl, hl1_4⟩ := ro_slice (hm.ow_rep 2 rfl)
   refine gBk (gNg (fun i2_1 xs2_1 a w => ∃ (v2_1 : Value), St 52 [(3, v2_1), (4, (nV i1_1)), (6, (pV b1_3)), (14, (sV b1_1 o1_1 u.codes.length c0_1)), (15, (nV ((u.codes.length : Int)))), (16, (nV i1_1)), (24, (.slice p1_1 x1_1.blocks.length c1_2)), (25, (nV ((x1_1.blocks.length : Int)))), (26, (nV i2_1))] w0 hz1_2 [ow [v2_1] xs2_1, blk b1_3 [(nV r1_1.c.params), (nV r1_1.c.regs), v1_4, (.slice p1_3 r1_1.ins.length c1_4), (.slice p1_4 r1_1.preds.length c1_5)] 65, ow [(.slice p1_3 r1_1.ins.length c1_4)] r1_1.ins, ow [(.slice p1_4 r1_1.preds.length c1_5)] r1_1.preds] a w) (fun a hf => ⟨(.slice p1_2 xs1_1.length c1_3), hf.sb rfl, hm.pk [4, 0, 1, 2] rfl rfl⟩) ?_ ?_)
   ·
    repeat clear hm
    rintro _ _ i2_1 xs2_1 a w ⟨v2_1, hf, hm⟩ hi1_1 hi1_2 q1_1 _
    refine gv hf (gS (gR (gB rfl (gE (gS (go _ 27 rfl (decide_eq_true (by omega)) (gct rfl (gSk (gS (gBk (gS (gR (gM rfl (gg fun x2_1 h2_1 hx2_2 => ?_))))))))))))))
    obtain ⟨b2_1, o2_1, c2_1, he⟩ := idx_form' h1_2 hx2_2
    simp only [Value.slice.injEq, Option.some.injEq] at he; obtain ⟨rfl, _, rfl⟩ := he
    obtain ⟨v2_2, v2_3, v2_4, hc2_1, h2_2, h2_3, h2_4⟩ := rk_Block_ h1_2 hx2_2
    refine gI st_56 h2_1 (idx_lt hx2_2) rfl (gY (yn (hc2_1.mono (Heap.le_trans (Heap.le_trans hle1_1 hle1_2) hm.lez)) isAgg77 sizeOf77 rfl) (gAl hm zeroValue77 rfl fun b2_2 w hm => gA rfl (gSN hm 0 sizeOf77 (one_cons (rep_one h2_2) (one_cons (rep_one h2_3) (one_cons rfl (one_cons rfl (one_cons (rep_one h2_4) one_nil))))) rfl fun w hm => gE (gS (gR (gF fo_77_1 rfl (gL hm 0 isAgg75 rfl ?_)))))))
    obtain ⟨p2_1, c2_2, rfl, hl2_1⟩ := ro_slice h2_3
    refine gY (yV st_75 rfl) (gM rfl (gE ?_))
    obtain ⟨p2_2, c2_3, rfl, hl2_2⟩ := ro_slice (hm.ow_rep 1 rfl)
    refine gBk (gNg (fun i3_1 xs3_1 a w => ∃ (v3_1 : Value), St 52 [(3, v3_1), (4, (nV i1_1)), (6, (pV b1_3)), (7, (nV i2_1)), (14, (sV b1_1 o1_1 u.codes.length c0_1)), (15, (nV ((u.codes.length : Int)))), (16, (nV i1_1)), (24, (sV b2_1 o2_1 x1_1.blocks.length c1_2)), (25, (nV ((x1_1.blocks.length : Int)))), (26, (nV i2_1)), (33, (nV ((x2_1.ins.length : Int)))), (34, (nV i3_1))] w0 hz1_2 [ow [v3_1] xs3_1, blk b1_3 [(nV r1_1.c.params), (nV r1_1.c.regs), v1_4, (.slice p1_3 r1_1.ins.length c1_4), (.slice p1_4 r1_1.preds.length c1_5)] 65, ow [(.slice p1_3 r1_1.ins.length c1_4)] r1_1.ins, ow [(.slice p1_4 r1_1.preds.length c1_5)] r1_1.preds] a w) (fun a hf => ⟨(.slice p2_2 xs2_1.length c2_3), hf.sb rfl, hm.pk [1, 2, 3, 4] rfl rfl⟩) ?_ ?_)
    ·
     repeat clear hm
     rintro _ _ i3_1 xs3_1 a w ⟨v3_1, hf, hm⟩ hi2_1 hi2_2 q2_1 _
     refine gv hf (gS (gR (gB rfl (gE (gS (go _ 35 rfl (decide_eq_true (by omega)) (gct rfl (gSk (gS (gJg (fun s3_1 a w => ∃ (v3_2 : Value), St 52 [(3, v3_2), (4, (nV i1_1)), (6, (pV b1_3)), (7, (nV i2_1)), (14, (sV b1_1 o1_1 u.codes.length c0_1)), (15, (nV ((u.codes.length : Int)))), (16, (nV i1_1)), (24, (sV b2_1 o2_1 x1_1.blocks.length c1_2)), (25, (nV ((x1_1.blocks.length : Int)))), (26, (nV i2_1)), (33, (nV ((x2_1.ins.length : Int)))), (34, (nV i3_1))] w0 hz1_2 [ow [v3_2] s3_1, blk b1_3 [(nV r1_1.c.params), (nV r1_1.c.regs), v1_4, (.slice p1_3 r1_1.ins.length c1_4), (.slice p1_4 r1_1.preds.length c1_5)] 65, ow [(.slice p1_3 r1_1.ins.length c1_4)] r1_1.ins, ow [(.slice p1_4 r1_1.preds.length c1_5)] r1_1.preds] a w) (fun s3_1 => ?_) ?_))))))))))
     ·
      refine gBk (gS (gR (gM rfl (gA rfl (gE (gS (gR (gM rfl (gM rfl (gM rfl (gC hm rfl call62 (pimpl_live__idleAt_ok _ r1_1 b1_3 v1_4 (hm.now h1_3) (.slice p1_3 r1_1.ins.length c1_4) (hm.ow_rep 2 rfl) (.slice p1_4 r1_1.preds.length c1_5) (hm.ow_rep 3 rfl) (hm.blk_cells 1 rfl).1 i2_1 i3_1) fun r4_1 hx4_1 w hm => gE (gJg (fun s4_1 a w => ∃ (v4_2 : Value), St 52 [(3, v4_2), (4, (nV i1_1)), (6, (pV b1_3)), (7, (nV i2_1)), (14, (sV b1_1 o1_1 u.codes.length c0_1)), (15, (nV ((u.codes.length : Int)))), (16, (nV i1_1)), (24, (sV b2_1 o2_1 x1_1.blocks.length c1_2)), (25, (nV ((x1_1.blocks.length : Int)))), (26, (nV i2_1)), (33, (nV ((x2_1.ins.length : Int)))), (34, (nV i3_1))] w0 hz1_2 [ow [v4_2] s4_1, blk b1_3 [(nV r1_1.c.params), (nV r1_1.c.regs), v1_4, (.slice p1_3 r1_1.ins.length c1_4), (.slice p1_4 r1_1.preds.length c1_5)] 65, ow [(.slice p1_3 r1_1.ins.length c1_4)] r1_1.ins, ow [(.slice p1_4 r1_1.preds.length c1_5)] r1_1.preds] a w) (fun s4_1 => ?_) ?_))))))))))))
      ·
       refine gs 40 rfl (fun h5_1 => ?_) fun h5_1 => ?_
       ·
        refine gct rfl (gR (gM rfl (gM rfl (gM rfl (gM rfl (gf rfl (fun a hf => e_build (vs := #[(0, (nV i1_1)), (1, (nV i2_1)), (2, (nV i3_1))]) (cs := [(nV i1_1), (nV i2_1), (nV i3_1)]) et_37 hf hm rfl rfl (by kernel_rfl) rfl rfl) ?_))))))
        rintro _ w ⟨b5_1, rfl, hm⟩
        replace hm := hm.lit (xs := ([i1_1, i2_1, i3_1] : List Int)) 0 rfl rfl rfl rfl
        refine gf rfl (fun a hf => e_build (vs := #[(0, (sV b5_1 0 3 3))]) (cs := [(sV b5_1 0 3 3)]) et_26 hf hm rfl rfl (by kernel_rfl) rfl rfl) ?_
        rintro _ w ⟨b5_2, rfl, hm⟩
        replace hm := hm.els_nil (α := List Int)
        replace hm := hm.imp (c' := ow [(sV b5_1 0 3 3)] (([i1_1, i2_1, i3_1] : List Int) : List Int)) 2 rfl (fun F h0 => h0)
        replace hm := (hm.els_cons 0 2 (by decide) rfl rfl).pk (L' := [els [(sV b5_1 0 3 3)] ([([i1_1, i2_1, i3_1] : List Int)] : List (List Int)), blk b5_2 [(sV b5_1 0 3 3)] 37, ow [v3_1] xs3_1, blk b1_3 [(nV r1_1.c.params), (nV r1_1.c.regs), v1_4, (.slice p1_3 r1_1.ins.length c1_4), (.slice p1_4 r1_1.preds.length c1_5)] 65, ow [(.slice p1_3 r1_1.ins.length c1_4)] r1_1.ins, ow [(.slice p1_4 r1_1.preds.length c1_5)] r1_1.preds]) [0, 1, 3, 4, 5, 6] rfl rfl
        replace hm := (hm.lit_els 1 0 (by decide) rfl rfl rfl rfl).pk (L' := [ow [(sV b5_2 0 1 1)] ([([i1_1, i2_1, i3_1] : List Int)] : List (List Int)), ow [v3_1] xs3_1, blk b1_3 [(nV r1_1.c.params), (nV r1_1.c.regs), v1_4, (.slice p1_3 r1_1.ins.length c1_4), (.slice p1_4 r1_1.preds.length c1_5)] 65, ow [(.slice p1_3 r1_1.ins.length c1_4)] r1_1.ins, ow [(.slice p1_4 r1_1.preds.length c1_5)] r1_1.preds]) [1, 2, 3, 4, 5] rfl rfl
        refine gb fun ys5_1 hx5_1 => ?_
        obtain ⟨h5_2, h5_2e⟩ := appM_some.1 hx5_1
        replace hm := (hm.both 1 0 (by decide) rfl rfl).pk (L' := [both (ow [v3_1] xs3_1) (ow [(sV b5_2 0 1 1)] ([([i1_1, i2_1, i3_1] : List Int)] : List (List Int))), blk b1_3 [(nV r1_1.c.params), (nV r1_1.c.regs), v1_4, (.slice p1_3 r1_1.ins.length c1_4), (.slice p1_4 r1_1.preds.length c1_5)] 65, ow [(.slice p1_3 r1_1.ins.length c1_4)] r1_1.ins, ow [(.slice p1_4 r1_1.preds.length c1_5)] r1_1.preds]) [1, 2, 3, 4] rfl rfl
        refine gf rfl (fun a hf => e_appendD (xs := xs3_1) (ys := ([([i1_1, i2_1, i3_1] : List Int)] : List (List Int))) 0 et_26 hf hm rfl rfl rfl rfl h5_2) ?_
        rintro v5_1 w hm
        rw [h5_2e] at hm
        exact gA rfl (gE (gZ fun a hf => ⟨v5_1, hf.sb rfl, hm.pk [0, 1, 2, 3] rfl rfl⟩))
       exact gcf rfl (gSk (gZ fun a hf => ⟨v3_1, hf.sb rfl, hm.pk [0, 1, 2, 3] rfl rfl⟩))
      repeat clear hm
      rintro s4_1 a w ⟨v4_2, hf, hm⟩
      exact gv hf (gZ fun a hf => ⟨v4_2, hf.sb rfl, hm.pk [0, 1, 2, 3] rfl rfl⟩)
     repeat clear hm
     rintro s3_1 a w ⟨v3_2, hf, hm⟩
     exact gv hf (gR (gP (by omega) (by omega) rfl (gM rfl (gE (gZe fun a hf => ⟨v3_2, hf.sb rfl, hm.pk [0, 1, 2, 3] rfl rfl⟩)))))
    repeat clear hm
    rintro i2_2 xs2_2 a w ⟨v2_5, hf, hm⟩ hi2_3 hi2_4
    exact gv hf (gS (gR (gB rfl (gE (gS (go _ 35 rfl (decide_eq_false (by omega)) (gcf rfl (gXt (gHh (gR (gP (by omega) (by omega) rfl (gM rfl (gE (gZe fun a hf => ⟨v2_5, hf.sb rfl, hm.pk [0, 1, 2, 3] rfl rfl⟩))))))))))))))
   repeat clear hm
   rintro i1_2 xs1_2 a w ⟨v1_7, hf, hm⟩ hi1_3 hi1_4
   exact gv hf (gS (gR (gB rfl (gE (gS (go _ 27 rfl (decide_eq_false (by omega)) (gcf rfl (gXt (gHh (gR (gP (by omega) (by omega) rfl (gM rfl (gE (gZe fun a hf => ⟨hz1_2, v1_7, (Heap.le_trans hle1_1 hle1_2), hf.sb rfl, hm.pk [0] rfl rfl⟩))))))))))))))
  repeat clear hm
  rintro i0_1 xs0_1 a w ⟨hz0_1, v0_2, hle0_1, hf, hm⟩ hi0_3 hi0_4
  refine gv hf (gS (gR (gB rfl (gE (gS (go _ 17 rfl (decide_eq_false (by omega)) (gcf rfl (gXt (gHh (gS (gR (gM rfl (gA rfl (gE (gRt ?_)))))))))))))))
  replace hm := hm.thaw hle0_1
  exact gr1 results31 rfl ⟨v0_2, rfl, hm.pk [0] rfl rfl⟩

theorem laws_FnExactIdleIns_ok (w0 : World) (aU : Unit_) (v1 : Value) (h1 : GT.rep (hp w0) [v1] aU.codes) :
    ConM Tryz.prog 7 [(.agg #[v1])] w0 (laws_FnExactIdleIns aU) fun r v w' => v = (.bool (r)) ∧ Below w0.heap.size w0 w' := by
  unfold laws_FnExactIdleIns
  refine gcon func7 rfl fun r => ?_
  have hm := Mem.start w0
  refine gS (gR (gBx hm rfl fun b0_1 w hm => gA rfl (gE (gS (gR (gA rfl (gE (gS (gR (gY (yn (hm.blk_at 0 rfl) isAgg24 sizeOf24 rfl) (gM rfl (gC hm rfl call12 (laws_szUnit_ok _ aU v1 (hm.now h1) 1048576) fun r0_1 hx0_1 w hm => gA rfl (gE (gS (gS (gR (gM rfl (gB rfl (gE (gsd 15 rfl (fun h0_1 => ?_) fun h0_1 => ?_))))))))))))))))))))
  ·
   exact gct rfl (gS (gR (gA rfl (gE (gRt (gr1 results7 rfl ⟨rfl, hm.below⟩))))))
  refine gcf rfl (gSk (gS (gR (gY (yn (hm.blk_at 0 rfl) isAgg24 sizeOf24 rfl) (gCg rfl call14 (laws_toUnit_ok _ aU v1 (hm.now h1)) ?_)))))
  rintro r0_2 hx0_2 v0_2 w ⟨v0_3, rfl, hB⟩
  replace hm := hm.give hB; clear hB
  refine gCg rfl call30 (spec_IdleIns_ok _ r0_2 v0_3 (hm.ow_rep 0 rfl)) ?_
  rintro r0_3 hx0_3 v0_4 w ⟨_, rfl, hB⟩
  replace hm := hm.give hB; clear hB
  refine gA rfl (gE (gS (gR (gY (yn (hm.blk_at 2 rfl) isAgg24 sizeOf24 rfl) (gCg rfl call14 (laws_toUnit_ok _ aU v1 (hm.now h1)) ?_)))))
  rintro r0_4 hx0_4 v0_6 w ⟨v0_7, rfl, hB⟩
  replace hm := hm.give hB; clear hB
  refine gAl hm zeroValue30 rfl fun b0_2 w hm => gSN hm 0 sizeOf30 (one_cons (rep_one (hm.ow_rep 1 rfl)) one_nil) rfl fun w hm => gE (gS (gR (gY (yn (hm.blk_at 0 rfl) isAgg30 sizeOf30 rfl) (gCg rfl call31 (impl_IdleIns_ok _ r0_4 v0_7 (hm.ow_rep 1 rfl)) ?_))))
  rintro r0_5 hx0_5 v0_8 w ⟨_, rfl, hB⟩
  replace hm := hm.give hB; clear hB
  refine gA rfl (gE (gS (gS (gR (gM rfl (gM rfl (gC hm rfl call16 (laws_eqIntSS_ok _ r0_5 v0_8 (hm.ow_rep 0 rfl) r0_3 v0_4 (hm.ow_rep 3 rfl)) fun r0_6 hx0_6 w hm => gN rfl (gE (gsn 26 rfl (fun h0_2 => ?_) fun h0_2 => ?_)))))))))
  ·
   exact gct rfl (gS (gR (gA rfl (gE (gRt (gr1 results7 rfl ⟨rfl, hm.below⟩))))))
  refine gcf rfl (gSk (gS (gS (gW (.q 0 (.e 1 (.e 2 (.e 3 (.p 4 .fin) .nil) .nil) .nil)) [1, 2] [4] hm [0, 1, 2, 3, 4, 5] [ow [v0_8] r0_5, blk b0_2 [v0_7] 30, ow [v0_7] r0_4.codes, ow [v0_4] r0_3, ow [v0_3] r0_2.codes, blk b0_1 [v1] 24] rfl mxo (by kernel_rfl) (fun _ _ _ h => h.2) fun w hm hS => tQ rfl hS (fun w hm => yn (hm.blk_at 1 rfl) isAgg30 sizeOf30 rfl) (tO (tY rfl (yn (hm.blk_at 5 rfl) isAgg24 sizeOf24 rfl) (tAs hS (tO (gb fun r0_7 hx0_7 => tf rfl rfl (fun a hf => e_call hf rfl call14 rfl (laws_toUnit_ok _ aU v1 (hm.now h1) _ hx0_7)) ?_)))))))))
  rintro v0_11 w ⟨v0_12, rfl, hB⟩
  replace hm := hm.give hB; clear hB
  refine tAk hm [1, 2, 3, 4, 5, 6] rfl fun hS => tO (gb fun r0_8 hx0_8 => tf rfl rfl (fun a hf => e_call hf rfl call17 rfl (laws_eqUnit_ok _ r0_4 v0_7 (hm.ow_rep 3 rfl) r0_7 v0_12 (hm.ow_rep 0 rfl) _ hx0_8)) ?_)
  rintro v0_13 w ⟨rfl, hB⟩
  replace hm := hm.below' hB; clear hB
  refine tAn rfl (tP rfl (fun w => yN rfl) (tE (gsn 31 rfl (fun h0_3 => ?_) fun h0_3 => ?_)))
  ·
   exact gct rfl (gS (gR (gA rfl (gE (gRt (gr1 results7 rfl ⟨rfl, hm.below⟩))))))
  refine gcf rfl (gSk (gS (gR (gA rfl (gE (gS (gR (gY (yn (hm.blk_at 2 rfl) isAgg30 sizeOf30 rfl) (gM rfl ?_)))))))))
  obtain ⟨hz0_6, hle, hm1, hsub, hk0_1⟩ := hm.take2 (L1 := [ow [v0_7] r0_4.codes]) (L2 := [ow [v0_12] r0_7.codes, ow [v0_8] r0_5, blk b0_2 [v0_7] 30, ow [v0_4] r0_3, ow [v0_3] r0_2.codes, blk b0_1 [v1] 24]) [3] [0, 1, 2, 4, 5, 6] (by decide) rfl rfl
  refine gCg rfl call18 (laws_markUnit_ok _ hz0_6 r0_4 v0_7 1 hm1 ) ?_
  rintro r0_9 hx0_9 v0_14 w ⟨rfl, hB⟩
  replace hm := hk0_1 _ _ hB; clear hB
  refine gA rfl (gE (gS (gS (gJ hm (fun s0_1 => [(1, (pV b0_1)), (4, v0_4), (6, v0_8), (42, (.bool (s0_1)))]) (fun s0_1 => [blk b0_1 [v1] 24, ow [v0_4] r0_3, ow [v0_8] r0_5]) (fun s0_1 => ?_) ?_))))
  ·
   refine gR (gM rfl (gB rfl (gM rfl (gsd 37 rfl (fun h1_1 => ?_) fun h1_1 => ?_))))
   ·
    exact gO rfl (gO rfl (gO rfl (gO rfl (gKt rfl (gE (gz hm [6, 4, 2] rfl))))))
   exact gM rfl (gM rfl (gC hm rfl call16 (laws_eqIntSS_ok _ r0_5 v0_8 (hm.ow_rep 2 rfl) r0_3 v0_4 (hm.ow_rep 4 rfl)) fun r1_1 hx1_1 w hm => gN rfl (gKf rfl (gE (gz hm [6, 4, 2] rfl)))))
  repeat clear hm
  intro s0_1 w hm
  refine gs 42 rfl (fun h0_4 => ?_) fun h0_4 => ?_
  ·
   exact gct rfl (gS (gR (gA rfl (gE (gRt (gr1 results7 rfl ⟨rfl, hm.below⟩))))))
  refine gcf rfl (gSk (gS (gR (gA rfl (gE (gS (gR (gM rfl (gM rfl ?_)))))))))
  obtain ⟨hz0_8, hle, hm1, hsub, hk0_2⟩ := hm.take2 (L1 := [ow [v0_8] r0_5]) (L2 := [blk b0_1 [v1] 24, ow [v0_4] r0_3]) [2] [0, 1] (by decide) rfl rfl
  refine gCg rfl call19 (laws_markIntSS_ok _ hz0_8 r0_5 v0_8 1 hm1 ) ?_
  rintro r0_10 hx0_10 v0_15 w ⟨rfl, hB⟩
  replace hm := hk0_2 _ _ hB; clear hB
  refine gA rfl (gE (gS (gR (gA rfl (gE (gS (gR (gM rfl (gM rfl (gC hm rfl call20 (laws_heldIntSS_ok _ r0_10.2 v0_8 (hm.ow_rep 0 rfl) 1) fun r0_11 hx0_11 w hm => gA rfl (gE (gS (gS (gR (gM rfl (gB rfl (gE (gsd 50 rfl (fun h0_5 => ?_) fun h0_5 => ?_))))))))))))))))))
  ·
   exact gct rfl (gS (gR (gA rfl (gE (gRt (gr1 results7 rfl ⟨rfl, hm.below⟩))))))
  refine gcf rfl (gSk (gS (gS (gR (gM rfl (gM rfl (gB rfl (gE (gsd 53 rfl (fun h0_6 => ?_) fun h0_6 => ?_)))))))))
  ·
   exact gct rfl (gS (gR (gA rfl (gE (gRt (gr1 results7 rfl ⟨rfl, hm.below⟩))))))
  refine gcf rfl (gSk (gS (gR (gY (yn (hm.blk_at 1 rfl) isAgg24 sizeOf24 rfl) (gCg rfl call14 (laws_toUnit_ok _ aU v1 (hm.now h1)) ?_)))))
  rintro r0_12 hx0_12 v0_17 w ⟨v0_18, rfl, hB⟩
  replace hm := hm.give hB; clear hB
  refine gCg rfl call31 (impl_IdleIns_ok _ r0_12 v0_18 (hm.ow_rep 0 rfl)) ?_
  rintro r0_13 hx0_13 v0_19 w ⟨_, rfl, hB⟩
  replace hm := hm.give hB; clear hB
  refine gA rfl (gE (gS (gS (gR (gM rfl (gM rfl (gC hm rfl call16 (laws_eqIntSS_ok _ r0_13 v0_19 (hm.ow_rep 0 rfl) r0_3 v0_4 (hm.ow_rep 4 rfl)) fun r0_14 hx0_14 w hm => gN rfl (gE (gsn 60 rfl (fun h0_7 => ?_) fun h0_7 => ?_)))))))))
  ·
   exact gct rfl (gS (gR (gA rfl (gE (gRt (gr1 results7 rfl ⟨rfl, hm.below⟩))))))
  refine gcf rfl (gSk (gS (gR (gA rfl (gE (gS (gR (gM rfl (gM rfl (gC hm rfl call20 (laws_heldIntSS_ok _ r0_10.2 v0_8 (hm.ow_rep 2 rfl) 1) fun r0_15 hx0_15 w hm => gA rfl (gE (gS (gS (gR (gM rfl (gB rfl (gE (gsd 65 rfl (fun h0_8 => ?_) fun h0_8 => ?_))))))))))))))))))
  ·
   exact gct rfl (gS (gR (gA rfl (gE (gRt (gr1 results7 rfl ⟨rfl, hm.below⟩))))))
  refine gcf rfl (gSk (gS (gS (gR (gM rfl (gM rfl (gB rfl (gE (gsd 68 rfl (fun h0_9 => ?_) fun h0_9 => ?_)))))))))
  ·
   exact gct rfl (gS (gR (gA rfl (gE (gRt (gr1 results7 rfl ⟨rfl, hm.below⟩))))))
  exact gcf rfl (gSk (gS (gR (gA rfl (gE (gRt (gr1 results7 rfl ⟨rfl, hm.below⟩)))))))

end Go.Proofs.YthfeimbpjeijpaaGreat
