/- A part of the proof of FnExactMostLiveSaid. -/
import Derived.Test.YthfeimbpjeijpaaGreatLmWalksA
namespace Go.Proofs.YthfeimbpjeijpaaGreat
open Go Go.Wk Go.RowKit
set_option maxRecDepth 4000
set_option maxHeartbeats 4000000

open Tryz
theorem laws_eqBlock_ok (w0 : World) (a_ : Block_) (v1 : Value) (h1 : GT.rep (hp w0) [v1] a_.phis) (v2 : Value) (h2 : GT.rep (hp w0) [v2] a_.ins) (v3 : Value) (h3 : GT.rep (hp w0) [v3] a_.next_) (b_ : Block_) (v4 : Value) (h4 : GT.rep (hp w0) [v4] b_.phis) (v5 : Value) (h5 : GT.rep (hp w0) [v5] b_.ins) (v6 : Value) (h6 : GT.rep (hp w0) [v6] b_.next_) :
    ConM Tryz.prog 140 [(.agg #[v1, v2, (nV a_.jump), (nV a_.on), v3]), (.agg #[v4, v5, (nV b_.jump), (nV b_.on), v6])] w0 (laws_eqBlock a_ b_) fun r v w' => v = (.bool (r)) ∧ Below w0.heap.size w0 w' := by
  unfold laws_eqBlock
  refine gcon func140 rfl fun r => ?_
  have hm := Mem.start w0
  refine gS (gR (gBx hm rfl fun b0_1 w hm => gBx hm rfl fun b0_2 w hm => gA rfl (gE (gS (gS (gR (gF fo_77_0 rfl (gL hm 1 isAgg74 rfl (gF fo_77_0 rfl (gL hm 0 isAgg74 rfl (gC hm rfl call159 (laws_eqPhiS_ok _ a_.phis v1 (hm.now h1) b_.phis v4 (hm.now h4)) fun r0_1 hx0_1 w hm => gN rfl (gE (gsn 10 rfl (fun h0_1 => ?_) fun h0_1 => ?_)))))))))))))
  ·
   exact gct rfl (gS (gR (gA rfl (gE (gRt (gr1 results140 rfl ⟨rfl, hm.below⟩))))))
  refine gcf rfl (gSk (gS (gS (gR (gF fo_77_1 rfl (gL hm 1 isAgg75 rfl (gF fo_77_1 rfl (gL hm 0 isAgg75 rfl (gC hm rfl call160 (laws_eqInsS_ok _ a_.ins v2 (hm.now h2) b_.ins v5 (hm.now h5)) fun r0_2 hx0_2 w hm => gN rfl (gE (gsn 16 rfl (fun h0_2 => ?_) fun h0_2 => ?_)))))))))))
  ·
   exact gct rfl (gS (gR (gA rfl (gE (gRt (gr1 results140 rfl ⟨rfl, hm.below⟩))))))
  refine gcf rfl (gSk (gS (gS (gR (gF fo_77_2 rfl (gL hm 1 isAgg3 rfl (gF fo_77_2 rfl (gL hm 0 isAgg3 rfl (gB rfl (gE (gsd 21 rfl (fun h0_3 => ?_) fun h0_3 => ?_)))))))))))
  ·
   exact gct rfl (gS (gR (gA rfl (gE (gRt (gr1 results140 rfl ⟨rfl, hm.below⟩))))))
  refine gcf rfl (gSk (gS (gS (gR (gF fo_77_3 rfl (gL hm 1 isAgg3 rfl (gF fo_77_3 rfl (gL hm 0 isAgg3 rfl (gB rfl (gE (gsd 26 rfl (fun h0_4 => ?_) fun h0_4 => ?_)))))))))))
  ·
   exact gct rfl (gS (gR (gA rfl (gE (gRt (gr1 results140 rfl ⟨rfl, hm.below⟩))))))
  refine gcf rfl (gSk (gS (gS (gR (gF fo_77_4 rfl (gL hm 1 isAgg37 rfl (gF fo_77_4 rfl (gL hm 0 isAgg37 rfl (gC hm rfl call25 (laws_eqIntS_ok _ a_.next_ v3 (hm.now h3) b_.next_ v6 (hm.now h6)) fun r0_3 hx0_3 w hm => gN rfl (gE (gsn 32 rfl (fun h0_5 => ?_) fun h0_5 => ?_)))))))))))
  ·
   exact gct rfl (gS (gR (gA rfl (gE (gRt (gr1 results140 rfl ⟨rfl, hm.below⟩))))))
  exact gcf rfl (gSk (gS (gR (gA rfl (gE (gRt (gr1 results140 rfl ⟨rfl, hm.below⟩)))))))

theorem laws_eqBlockS_ok (w0 : World) (a_ : List Block_) (v1 : Value) (h1 : GT.rep (hp w0) [v1] a_) (b_ : List Block_) (v2 : Value) (h2 : GT.rep (hp w0) [v2] b_) :
    ConM Tryz.prog 109 [v1, v2] w0 (laws_eqBlockS a_ b_) fun r v w' => v = (.bool (r)) ∧ Below w0.heap.size w0 w' := by
  unfold laws_eqBlockS
  refine gcon func109 rfl fun r => ?_
  have hm := Mem.start w0
  refine gS (gR (gA rfl (gE (gS (gS (gR (gM rfl ?_)))))))
  obtain ⟨p0_1, c0_1, rfl, hl0_1⟩ := ro_slice h1
  refine gY (yV st_56 rfl) (gM rfl ?_)
  obtain ⟨p0_2, c0_2, rfl, hl0_2⟩ := ro_slice h2
  refine gY (yV st_56 rfl) (gB rfl (gE (gsd 10 rfl (fun h0_1 => ?_) fun h0_1 => ?_)))
  ·
   exact gct rfl (gS (gR (gA rfl (gE (gRt (gr1 results109 rfl ⟨rfl, hm.below⟩))))))
  refine gcf rfl (gSk (gS (gS (gR (gA rfl (gE (gBk (gNf hm (fun i1_1 xs1_1 => [(0, (.slice p0_1 a_.length c0_1)), (1, (.slice p0_2 b_.length c0_2)), (5, (nV i1_1))]) (fun i1_1 xs1_1 => []) [] rfl ?_ ?_))))))))
  ·
   repeat clear hm
   intro r0_1 hq0_1 i1_1 xs1_1 w hm hi0_1 hi0_2 q0_1 ho0_1
   refine gS (gS (gR (gM rfl (gM rfl (gY (yV st_56 rfl) (gB rfl (gE (go _ 14 rfl (decide_eq_true (by omega)) (gct rfl (gSk (gS (gBk (gS (gW (.p 0 (.p 1 (.p 2 (.p 4 (.p 5 (.p 6 (.q 3 (.e 7 (.e 8 (.p 9 .fin) .nil) .nil)))))))) [7] [0, 1, 2, 4, 5, 6, 9] hm [] [] rfl mxo (by kernel_rfl) (fun _ _ _ h => h.2) fun w hm hS => tP rfl (fun w => yM rfl) (tP rfl (fun w => yM rfl) (gg fun x1_1 h1_1 hx1_2 => ?_))))))))))))))))
   obtain ⟨b1_1, o1_1, c1_1, he⟩ := idx_form' h1 hx1_2
   simp only [Value.slice.injEq, Option.some.injEq] at he; obtain ⟨rfl, _, rfl⟩ := he
   obtain ⟨v1_1, v1_2, v1_3, hc1_1, h1_2, h1_3, h1_4⟩ := rk_Block_ h1 hx1_2
   refine tP rfl (fun w => yI st_56 h1_1 (idx_lt hx1_2) rfl) (tP rfl (fun w => yM rfl) (tP rfl (fun w => yM rfl) (gg fun x1_2 h1_5 hx1_4 => ?_)))
   obtain ⟨b1_2, o1_2, c1_2, he⟩ := idx_form' h2 hx1_4
   simp only [Value.slice.injEq, Option.some.injEq] at he; obtain ⟨rfl, _, rfl⟩ := he
   obtain ⟨v1_4, v1_5, v1_6, hc1_2, h1_6, h1_7, h1_8⟩ := rk_Block_ h2 hx1_4
   refine tP rfl (fun w => yI st_56 h1_5 (idx_lt hx1_4) rfl) (tQ rfl hS (fun w hm => yn (hc1_1.mono hm.lez) isAgg77 sizeOf77 rfl) (tO (tY rfl (yn (hc1_2.mono hm.lez) isAgg77 sizeOf77 rfl) (tAs hS (tO (gb fun r1_1 hx1_5 => tf rfl rfl (fun a hf => e_call hf rfl call140 rfl (laws_eqBlock_ok _ x1_1 v1_1 (hm.now h1_2) v1_2 (hm.now h1_3) v1_3 (hm.now h1_4) x1_2 v1_4 (hm.now h1_6) v1_5 (hm.now h1_7) v1_6 (hm.now h1_8) _ hx1_5)) ?_))))))
   rintro v1_7 w ⟨rfl, hB⟩
   replace hm := hm.below' hB; clear hB
   refine tAn rfl (tP rfl (fun w => yN rfl) (tE (gsn 26 rfl (fun h1_9 => ?_) fun h1_9 => ?_)))
   ·
    exact gct rfl (gS (gR (gA rfl (gE (gRt (gLr ho0_1 hq0_1 (gr1 results109 rfl ⟨rfl, hm.below⟩)))))))
   exact gcf rfl (gSk (gR (gM rfl (gP (by omega) (by omega) rfl (gA rfl (gE (gze hm [] rfl)))))))
  repeat clear hm
  intro i0_1 xs0_1 w hm hi0_3 hi0_4
  exact gS (gS (gR (gM rfl (gM rfl (gY (yV st_56 rfl) (gB rfl (gE (go _ 14 rfl (decide_eq_false (by omega)) (gcf rfl (gXt (gHh (gS (gR (gA rfl (gE (gRt (gr1 results109 rfl ⟨rfl, hm.below⟩)))))))))))))))))

theorem laws_eqCode_ok (w0 : World) (a_ : Code_) (v1 : Value) (h1 : GT.rep (hp w0) [v1] a_.blocks) (b_ : Code_) (v2 : Value) (h2 : GT.rep (hp w0) [v2] b_.blocks) :
    ConM Tryz.prog 80 [(.agg #[(nV a_.params), (nV a_.regs), v1]), (.agg #[(nV b_.params), (nV b_.regs), v2])] w0 (laws_eqCode a_ b_) fun r v w' => v = (.bool (r)) ∧ Below w0.heap.size w0 w' := by
  unfold laws_eqCode
  refine gcon func80 rfl fun r => ?_
  have hm := Mem.start w0
  refine gS (gR (gBx hm rfl fun b0_1 w hm => gBx hm rfl fun b0_2 w hm => gA rfl (gE (gS (gS (gR (gF fo_58_0 rfl (gL hm 1 isAgg3 rfl (gF fo_58_0 rfl (gL hm 0 isAgg3 rfl (gB rfl (gE (gsd 9 rfl (fun h0_1 => ?_) fun h0_1 => ?_)))))))))))))
  ·
   exact gct rfl (gS (gR (gA rfl (gE (gRt (gr1 results80 rfl ⟨rfl, hm.below⟩))))))
  refine gcf rfl (gSk (gS (gS (gR (gF fo_58_1 rfl (gL hm 1 isAgg3 rfl (gF fo_58_1 rfl (gL hm 0 isAgg3 rfl (gB rfl (gE (gsd 14 rfl (fun h0_2 => ?_) fun h0_2 => ?_)))))))))))
  ·
   exact gct rfl (gS (gR (gA rfl (gE (gRt (gr1 results80 rfl ⟨rfl, hm.below⟩))))))
  refine gcf rfl (gSk (gS (gS (gR (gF fo_58_2 rfl (gL hm 1 isAgg56 rfl (gF fo_58_2 rfl (gL hm 0 isAgg56 rfl (gC hm rfl call109 (laws_eqBlockS_ok _ a_.blocks v1 (hm.now h1) b_.blocks v2 (hm.now h2)) fun r0_1 hx0_1 w hm => gN rfl (gE (gsn 20 rfl (fun h0_3 => ?_) fun h0_3 => ?_)))))))))))
  ·
   exact gct rfl (gS (gR (gA rfl (gE (gRt (gr1 results80 rfl ⟨rfl, hm.below⟩))))))
  exact gcf rfl (gSk (gS (gR (gA rfl (gE (gRt (gr1 results80 rfl ⟨rfl, hm.below⟩)))))))

theorem laws_eqCodeS_ok (w0 : World) (a_ : List Code_) (v1 : Value) (h1 : GT.rep (hp w0) [v1] a_) (b_ : List Code_) (v2 : Value) (h2 : GT.rep (hp w0) [v2] b_) :
    ConM Tryz.prog 51 [v1, v2] w0 (laws_eqCodeS a_ b_) fun r v w' => v = (.bool (r)) ∧ Below w0.heap.size w0 w' := by
  unfold laws_eqCodeS
  refine gcon func51 rfl fun r => ?_
  have hm := Mem.start w0
  refine gS (gR (gA rfl (gE (gS (gS (gR (gM rfl ?_)))))))
  obtain ⟨p0_1, c0_1, rfl, hl0_1⟩ := ro_slice h1
  refine gY (yV st_28 rfl) (gM rfl ?_)
  obtain ⟨p0_2, c0_2, rfl, hl0_2⟩ := ro_slice h2
  refine gY (yV st_28 rfl) (gB rfl (gE (gsd 10 rfl (fun h0_1 => ?_) fun h0_1 => ?_)))
  ·
   exact gct rfl (gS (gR (gA rfl (gE (gRt (gr1 results51 rfl ⟨rfl, hm.below⟩))))))
  refine gcf rfl (gSk (gS (gS (gR (gA rfl (gE (gBk (gNf hm (fun i1_1 xs1_1 => [(0, (.slice p0_1 a_.length c0_1)), (1, (.slice p0_2 b_.length c0_2)), (5, (nV i1_1))]) (fun i1_1 xs1_1 => []) [] rfl ?_ ?_))))))))
  ·
   repeat clear hm
   intro r0_1 hq0_1 i1_1 xs1_1 w hm hi0_1 hi0_2 q0_1 ho0_1
   refine gS (gS (gR (gM rfl (gM rfl (gY (yV st_28 rfl) (gB rfl (gE (go _ 14 rfl (decide_eq_true (by omega)) (gct rfl (gSk (gS (gBk (gS (gW (.p 0 (.p 1 (.p 2 (.p 4 (.p 5 (.p 6 (.q 3 (.e 7 (.e 8 (.p 9 .fin) .nil) .nil)))))))) [7] [0, 1, 2, 4, 5, 6, 9] hm [] [] rfl mxo (by kernel_rfl) (fun _ _ _ h => h.2) fun w hm hS => tP rfl (fun w => yM rfl) (tP rfl (fun w => yM rfl) (gg fun x1_1 h1_1 hx1_2 => ?_))))))))))))))))
   obtain ⟨b1_1, o1_1, c1_1, he⟩ := idx_form' h1 hx1_2
   simp only [Value.slice.injEq, Option.some.injEq] at he; obtain ⟨rfl, _, rfl⟩ := he
   obtain ⟨v1_1, hc1_1, h1_2⟩ := rk_Code_ h1 hx1_2
   refine tP rfl (fun w => yI st_28 h1_1 (idx_lt hx1_2) rfl) (tP rfl (fun w => yM rfl) (tP rfl (fun w => yM rfl) (gg fun x1_2 h1_3 hx1_4 => ?_)))
   obtain ⟨b1_2, o1_2, c1_2, he⟩ := idx_form' h2 hx1_4
   simp only [Value.slice.injEq, Option.some.injEq] at he; obtain ⟨rfl, _, rfl⟩ := he
   obtain ⟨v1_2, hc1_2, h1_4⟩ := rk_Code_ h2 hx1_4
   refine tP rfl (fun w => yI st_28 h1_3 (idx_lt hx1_4) rfl) (tQ rfl hS (fun w hm => yn (hc1_1.mono hm.lez) isAgg58 sizeOf58 rfl) (tO (tY rfl (yn (hc1_2.mono hm.lez) isAgg58 sizeOf58 rfl) (tAs hS (tO (gb fun r1_1 hx1_5 => tf rfl rfl (fun a hf => e_call hf rfl call80 rfl (laws_eqCode_ok _ x1_1 v1_1 (hm.now h1_2) x1_2 v1_2 (hm.now h1_4) _ hx1_5)) ?_))))))
   rintro v1_3 w ⟨rfl, hB⟩
   replace hm := hm.below' hB; clear hB
   refine tAn rfl (tP rfl (fun w => yN rfl) (tE (gsn 26 rfl (fun h1_5 => ?_) fun h1_5 => ?_)))
   ·
    exact gct rfl (gS (gR (gA rfl (gE (gRt (gLr ho0_1 hq0_1 (gr1 results51 rfl ⟨rfl, hm.below⟩)))))))
   exact gcf rfl (gSk (gR (gM rfl (gP (by omega) (by omega) rfl (gA rfl (gE (gze hm [] rfl)))))))
  repeat clear hm
  intro i0_1 xs0_1 w hm hi0_3 hi0_4
  exact gS (gS (gR (gM rfl (gM rfl (gY (yV st_28 rfl) (gB rfl (gE (go _ 14 rfl (decide_eq_false (by omega)) (gcf rfl (gXt (gHh (gS (gR (gA rfl (gE (gRt (gr1 results51 rfl ⟨rfl, hm.below⟩)))))))))))))))))

theorem laws_eqUnit_ok (w0 : World) (a_ : Unit_) (v1 : Value) (h1 : GT.rep (hp w0) [v1] a_.codes) (b_ : Unit_) (v2 : Value) (h2 : GT.rep (hp w0) [v2] b_.codes) :
    ConM Tryz.prog 17 [(.agg #[v1]), (.agg #[v2])] w0 (laws_eqUnit a_ b_) fun r v w' => v = (.bool (r)) ∧ Below w0.heap.size w0 w' := by
  unfold laws_eqUnit
  refine gcon func17 rfl fun r => ?_
  have hm := Mem.start w0
  refine gS (gR (gBx hm rfl fun b0_1 w hm => gBx hm rfl fun b0_2 w hm => gA rfl (gE (gS (gS (gR (gF fo_30_0 rfl (gL hm 1 isAgg28 rfl (gF fo_30_0 rfl (gL hm 0 isAgg28 rfl (gC hm rfl call51 (laws_eqCodeS_ok _ a_.codes v1 (hm.now h1) b_.codes v2 (hm.now h2)) fun r0_1 hx0_1 w hm => gN rfl (gE (gsn 10 rfl (fun h0_1 => ?_) fun h0_1 => ?_)))))))))))))
  ·
   exact gct rfl (gS (gR (gA rfl (gE (gRt (gr1 results17 rfl ⟨rfl, hm.below⟩))))))
  exact gcf rfl (gSk (gS (gR (gA rfl (gE (gRt (gr1 results17 rfl ⟨rfl, hm.below⟩)))))))

theorem spec_MostLive_ok (w0 : World) (u : Unit_) (v1 : Value) (h1 : GT.rep (hp w0) [v1] u.codes) (k_ : Int) :
    ConM Tryz.prog 28 [(.agg #[v1]), (nV k_)] w0 (spec_MostLive u k_) fun r v w' => v = (nV r) ∧ Below w0.heap.size w0 w' := by
  unfold spec_MostLive
  refine gcon func28 rfl fun r => ?_
  have hm := Mem.start w0
  refine gS (gR (gBx hm rfl fun b0_1 w hm => gA rfl (gE (gS (gS (gR (gY (yn (hm.blk_at 0 rfl) isAgg30 sizeOf30 rfl) (gM rfl (gC hm rfl call42 (spec_l12Has_ok _ u v1 (hm.now h1) k_) fun r0_1 hx0_1 w hm => gN rfl (gE (gsn 13 rfl (fun h0_1 => ?_) fun h0_1 => ?_)))))))))))
  ·
   exact gct rfl (gS (gR (gA rfl (gE (gRt (gr1 results28 rfl ⟨rfl, hm.below⟩))))))
  refine gcf rfl (gSk (gS (gR (gF fo_30_0 rfl (gL hm 0 isAgg28 rfl (gM rfl (gg fun x0_1 h0_2 hx0_3 => ?_)))))))
  obtain ⟨b0_2, o0_1, c0_1, he⟩ := idx_form' h1 hx0_3
  subst he
  obtain ⟨v0_2, hc0_1, h0_3⟩ := rk_Code_ h1 hx0_3
  refine gI st_28 h0_2 (idx_lt hx0_3) rfl (gY (yn (hc0_1.mono hm.lez) isAgg58 sizeOf58 rfl) (gAl hm zeroValue58 rfl fun b0_3 w hm => gSN hm 0 sizeOf58 (one_cons rfl (one_cons rfl (one_cons (rep_one h0_3) one_nil))) rfl fun w hm => gE (gS (gR (gY (yn (hm.blk_at 0 rfl) isAgg58 sizeOf58 rfl) (gCg rfl call44 (spec_l12Live_ok _ x0_1 v0_2 (hm.now h0_3)) ?_))))))
  rintro r0_2 hx0_4 v0_3 w ⟨v0_4, v0_5, rfl, hB⟩
  replace hm := hm.give hB; clear hB
  refine gAl hm zeroValue54 rfl fun b0_4 w hm => gSN hm 0 sizeOf54 (one_cons (rep_one (hm.ow_rep 1 rfl)) (one_cons (rep_one (hm.ow_rep 2 rfl)) one_nil)) rfl fun w hm => gE (gS (gR (gA rfl (gE (gS (gS (gR (gA rfl (gE ?_)))))))))
  obtain ⟨p0_1, c0_2, rfl, hl0_1⟩ := ro_slice (hm.ow_rep 1 rfl)
  obtain ⟨p0_2, c0_3, rfl, hl0_2⟩ := ro_slice (hm.ow_rep 2 rfl)
  refine gBk (gNg (fun i1_1 xs1_1 a w => 0 ≤ xs1_1 ∧ St 49 [(5, (pV b0_3)), (6, (pV b0_4)), (7, (nV xs1_1)), (8, (nV i1_1))] w0 (hp w0) [blk b0_3 [(nV x0_1.params), (nV x0_1.regs), v0_2] 58, blk b0_4 [(.slice p0_1 r0_2.ins.length c0_2), (.slice p0_2 r0_2.outs.length c0_3)] 54, ow [(.slice p0_1 r0_2.ins.length c0_2)] r0_2.ins, ow [(.slice p0_2 r0_2.outs.length c0_3)] r0_2.outs] a w) (fun a hf => ⟨(by first | omega | (dsimp only; omega)), hf.sb rfl, hm.pk [3, 0, 1, 2] rfl rfl⟩) ?_ ?_)
  ·
   repeat clear hm
   rintro _ _ i1_1 xs1_1 a w ⟨hn0_1, hf, hm⟩ hi0_1 hi0_2 q0_1 _
   refine gv hf (gS (gS (gR (gM rfl (gF fo_58_2 rfl (gL hm 0 isAgg56 rfl ?_))))))
   obtain ⟨p1_1, c1_1, rfl, hl1_1⟩ := ro_slice h0_3
   refine gY (yV st_56 rfl) (gB rfl (gE (go _ 25 rfl (decide_eq_true (by omega)) (gct rfl (gSk (gS (gBk (gS (gR (gA rfl (gE (gJg (fun s1_1 a w => 0 ≤ s1_1 ∧ St 49 [(5, (pV b0_3)), (6, (pV b0_4)), (7, (nV s1_1)), (8, (nV i1_1))] w0 (hp w0) [blk b0_3 [(nV x0_1.params), (nV x0_1.regs), (.slice p1_1 x0_1.blocks.length c1_1)] 58, blk b0_4 [(.slice p0_1 r0_2.ins.length c0_2), (.slice p0_2 r0_2.outs.length c0_3)] 54, ow [(.slice p0_1 r0_2.ins.length c0_2)] r0_2.ins, ow [(.slice p0_2 r0_2.outs.length c0_3)] r0_2.outs] a w) (fun s1_1 => ?_) ?_))))))))))))
   ·
    refine gBk (gMg (fun xs3_1 a w => 0 ≤ xs3_1.1 ∧ St 49 [(5, (pV b0_3)), (6, (pV b0_4)), (7, (nV xs3_1.1)), (8, (nV i1_1)), (9, (nV xs3_1.2))] w0 (hp w0) [blk b0_3 [(nV x0_1.params), (nV x0_1.regs), (.slice p1_1 x0_1.blocks.length c1_1)] 58, blk b0_4 [(.slice p0_1 r0_2.ins.length c0_2), (.slice p0_2 r0_2.outs.length c0_3)] 54, ow [(.slice p0_1 r0_2.ins.length c0_2)] r0_2.ins, ow [(.slice p0_2 r0_2.outs.length c0_3)] r0_2.outs] a w) (fun a hf => ⟨(by first | omega | (dsimp only; omega)), hf.sb rfl, hm.pk [0, 1, 2, 3] rfl rfl⟩) ?_)
    repeat clear hm
    rintro r2_1 hq2_1 xs3_1 a w ⟨hn2_1, hf, hm⟩ q2_1 ho2_1
    refine gv hf (gS (gS (gR (gM rfl (gF fo_58_2 rfl (gL hm 0 isAgg56 rfl (gM rfl (gg fun x3_1 h3_1 hx3_2 => ?_))))))))
    obtain ⟨b3_1, o3_1, c3_1, he⟩ := idx_form' h0_3 hx3_2
    simp only [Value.slice.injEq, Option.some.injEq] at he; obtain ⟨rfl, _, rfl⟩ := he
    obtain ⟨v3_1, v3_2, v3_3, hc3_1, h3_2, h3_3, h3_4⟩ := rk_Block_ h0_3 hx3_2
    refine gI st_56 h3_1 (idx_lt hx3_2) rfl (gF fo_77_1 rfl (gY (yl isAgg75 ((hc3_1.mono hm.lez).cell (j := 1) rfl) rfl) ?_))
    obtain ⟨p3_1, c3_2, rfl, hl3_1⟩ := ro_slice h3_3
    refine gY (yV st_75 rfl) (gB rfl (gE (gsd 36 rfl (fun h3_5 => ?_) fun h3_5 => ?_)))
    ·
     refine gct rfl (gSk (gS (gBk (gR (gM rfl (gY (yn (hm.blk_at 0 rfl) isAgg58 sizeOf58 rfl) (gY (yn (hm.blk_at 1 rfl) isAgg54 sizeOf54 rfl) (gM rfl (gM rfl (gCg rfl call56 (spec_l12Behind_ok _ x0_1 (sV b3_1 o3_1 x0_1.blocks.length c1_1) (hm.now h0_3) r0_2 (.slice p0_1 r0_2.ins.length c0_2) (hm.ow_rep 2 rfl) (.slice p0_2 r0_2.outs.length c0_3) (hm.ow_rep 3 rfl) i1_1 xs3_1.2) ?_))))))))))
     rintro r3_1 hx3_3 v3_4 w ⟨_, rfl, hB⟩
     replace hm := hm.give hB; clear hB
     refine gCg rfl call55 (spec_l12List_ok _ r3_1 v3_4 (hm.ow_rep 0 rfl)) ?_
     rintro r3_2 hx3_4 v3_6 w ⟨_, rfl, hB⟩
     replace hm := hm.give hB; clear hB
     obtain ⟨p3_2, c3_3, rfl, hl3_2⟩ := ro_slice (hm.ow_rep 0 rfl)
     refine gY (yV st_37 rfl) (gY (yG rfl (y_max rfl rfl rfl)) ?_)
     have h3_6 : maxI xs3_1.1 (r3_2.length : Int) = max xs3_1.1 (r3_2.length : Int) := maxI_eq _ _
     exact gA rfl (gE (gR (gM rfl (gB rfl (gA rfl (gE (gZe fun a hf => ⟨(by first | omega | (dsimp only; omega)), hf.sb rfl, hm.pk [2, 3, 4, 5] rfl rfl⟩)))))))
    exact gcf rfl (gXt (gHh (gLp ho2_1 hq2_1 (gZ fun a hf => ⟨(by first | omega | (dsimp only; omega)), hf.sb rfl, hm.pk [0, 1, 2, 3] rfl rfl⟩))))
   repeat clear hm
   rintro s1_1 a w ⟨hn1_1, hf, hm⟩
   exact gv hf (gR (gM rfl (gP (by omega) (by omega) rfl (gA rfl (gE (gZe fun a hf => ⟨(by first | omega | (dsimp only; omega)), hf.sb rfl, hm.pk [0, 1, 2, 3] rfl rfl⟩))))))
  repeat clear hm
  rintro i0_1 xs0_1 a w ⟨hn0_2, hf, hm⟩ hi0_3 hi0_4
  refine gv hf (gS (gS (gR (gM rfl (gF fo_58_2 rfl (gL hm 0 isAgg56 rfl ?_))))))
  obtain ⟨p0_3, c0_4, rfl, hl0_3⟩ := ro_slice h0_3
  exact gY (yV st_56 rfl) (gB rfl (gE (go _ 25 rfl (decide_eq_false (by omega)) (gcf rfl (gXt (gHh (gS (gR (gM rfl (gA rfl (gE (gRt (gr1 results28 rfl ⟨rfl, hm.below⟩)))))))))))))

theorem impl_MostLive_ok (w0 : World) (u : Unit_) (v1 : Value) (h1 : GT.rep (hp w0) [v1] u.codes) (k_ : Int) :
    ConM Tryz.prog 29 [(.agg #[v1]), (nV k_)] w0 (impl_MostLive u k_) fun r v w' => v = (nV r) ∧ Below w0.heap.size w0 w' := by
  unfold impl_MostLive
  refine gcon func29 rfl fun r => ?_
  have hm := Mem.start w0
  refine gS (gR (gBx hm rfl fun b0_1 w hm => gA rfl (gE (gS (gS (gR (gY (yn (hm.blk_at 0 rfl) isAgg30 sizeOf30 rfl) (gM rfl (gC hm rfl call46 (impl_codeAt_ok _ u v1 (hm.now h1) k_) fun r0_1 hx0_1 w hm => gN rfl (gE (gsn 13 rfl (fun h0_1 => ?_) fun h0_1 => ?_)))))))))))
  ·
   exact gct rfl (gS (gR (gA rfl (gE (gRt (gr1 results29 rfl ⟨rfl, hm.below⟩))))))
  refine gcf rfl (gSk (gS (gR (gF fo_30_0 rfl (gL hm 0 isAgg28 rfl (gM rfl (gg fun x0_1 h0_2 hx0_3 => ?_)))))))
  obtain ⟨b0_2, o0_1, c0_1, he⟩ := idx_form' h1 hx0_3
  subst he
  obtain ⟨v0_2, hc0_1, h0_3⟩ := rk_Code_ h1 hx0_3
  refine gI st_28 h0_2 (idx_lt hx0_3) rfl (gY (yn (hc0_1.mono hm.lez) isAgg58 sizeOf58 rfl) (gCg rfl call48 (impl_liveOf_ok _ _ hm.lez x0_1 v0_2 h0_3 ) ?_))
  rintro r0_2 hx0_4 v0_3 w ⟨b0_3, v0_4, v0_5, v0_6, hz0_1, rfl, hle0_1, h0_4, hB⟩
  replace hm := Mem.giveA hm hle0_1 hB; clear hB
  refine gA rfl (gA rfl (gE (gS (gS (gR (gF fo_30_0 rfl (gL hm 3 isAgg28 rfl (gM rfl (gI st_28 h0_2 (idx_lt hx0_3) rfl (gF fo_58_2 rfl (gY (yl isAgg56 ((hc0_1.mono (Heap.le_trans hle0_1 hm.lez)).cell (j := 2) rfl) rfl) ?_)))))))))))
  obtain ⟨p0_1, c0_2, rfl, hl0_1⟩ := ro_slice h0_3
  refine gY (yV st_56 rfl) (gM rfl (gE ?_))
  obtain ⟨p0_2, c0_3, rfl, hl0_2⟩ := ro_slice (hm.ow_rep 1 rfl)
  obtain ⟨p0_3, c0_4, rfl, hl0_3⟩ := ro_slice (hm.ow_rep 2 rfl)
  refine gBk (gNg (fun i1_1 xs1_1 a w => 0 ≤ xs1_1 ∧ St 48 [(5, (pV b0_3)), (6, (nV xs1_1)), (25, (.slice p0_1 x0_1.blocks.length c0_2)), (26, (nV ((x0_1.blocks.length : Int)))), (27, (nV i1_1))] w0 hz0_1 [blk b0_3 [(nV r0_2.c.params), (nV r0_2.c.regs), v0_4, (.slice p0_2 r0_2.ins.length c0_3), (.slice p0_3 r0_2.preds.length c0_4)] 65, ow [(.slice p0_2 r0_2.ins.length c0_3)] r0_2.ins, ow [(.slice p0_3 r0_2.preds.length c0_4)] r0_2.preds] a w) (fun a hf => ⟨(by first | omega | (dsimp only; omega)), hf.sb rfl, hm.pk [0, 1, 2] rfl rfl⟩) ?_ ?_)
  ·
   repeat clear hm
   rintro _ _ i1_1 xs1_1 a w ⟨hn0_1, hf, hm⟩ hi0_1 hi0_2 q0_1 _
   refine gv hf (gS (gR (gB rfl (gE (gS (go _ 28 rfl (decide_eq_true (by omega)) (gct rfl (gSk (gS (gBk (gS (gR (gM rfl (gg fun x1_1 h1_1 hx1_2 => ?_))))))))))))))
   obtain ⟨b1_1, o1_1, c1_1, he⟩ := idx_form' h0_3 hx1_2
   simp only [Value.slice.injEq, Option.some.injEq] at he; obtain ⟨rfl, _, rfl⟩ := he
   obtain ⟨v1_1, v1_2, v1_3, hc1_1, h1_2, h1_3, h1_4⟩ := rk_Block_ h0_3 hx1_2
   refine gI st_56 h1_1 (idx_lt hx1_2) rfl (gY (yn (hc1_1.mono (Heap.le_trans hle0_1 hm.lez)) isAgg77 sizeOf77 rfl) (gAl hm zeroValue77 rfl fun b1_2 w hm => gA rfl (gSN hm 0 sizeOf77 (one_cons (rep_one h1_2) (one_cons (rep_one h1_3) (one_cons rfl (one_cons rfl (one_cons (rep_one h1_4) one_nil))))) rfl fun w hm => gE (gS (gR (gA rfl (gE (gJg (fun s1_1 a w => 0 ≤ s1_1 ∧ St 48 [(5, (pV b0_3)), (6, (nV s1_1)), (25, (sV b1_1 o1_1 x0_1.blocks.length c0_2)), (26, (nV ((x0_1.blocks.length : Int)))), (27, (nV i1_1))] w0 hz0_1 [blk b0_3 [(nV r0_2.c.params), (nV r0_2.c.regs), v0_4, (.slice p0_2 r0_2.ins.length c0_3), (.slice p0_3 r0_2.preds.length c0_4)] 65, ow [(.slice p0_2 r0_2.ins.length c0_3)] r0_2.ins, ow [(.slice p0_3 r0_2.preds.length c0_4)] r0_2.preds] a w) (fun s1_1 => ?_) ?_))))))))
   ·
    refine gBk (gMg (fun xs3_1 a w => 0 ≤ xs3_1.1 ∧ St 48 [(5, (pV b0_3)), (6, (nV xs3_1.1)), (7, (nV i1_1)), (8, (pV b1_2)), (9, (nV xs3_1.2)), (25, (sV b1_1 o1_1 x0_1.blocks.length c0_2)), (26, (nV ((x0_1.blocks.length : Int)))), (27, (nV i1_1))] w0 hz0_1 [blk b0_3 [(nV r0_2.c.params), (nV r0_2.c.regs), v0_4, (.slice p0_2 r0_2.ins.length c0_3), (.slice p0_3 r0_2.preds.length c0_4)] 65, ow [(.slice p0_2 r0_2.ins.length c0_3)] r0_2.ins, ow [(.slice p0_3 r0_2.preds.length c0_4)] r0_2.preds, blk b1_2 [v1_1, v1_2, (nV x1_1.jump), (nV x1_1.on), v1_3] 77] a w) (fun a hf => ⟨(by first | omega | (dsimp only; omega)), hf.sb rfl, hm.pk [1, 2, 3, 0] rfl rfl⟩) ?_)
    repeat clear hm
    rintro r2_1 hq2_1 xs3_1 a w ⟨hn2_1, hf, hm⟩ q2_1 ho2_1
    refine gv hf (gS (gS (gR (gM rfl (gF fo_77_1 rfl (gL hm 3 isAgg75 rfl ?_))))))
    obtain ⟨p3_1, c3_1, rfl, hl3_1⟩ := ro_slice h1_3
    refine gY (yV st_75 rfl) (gB rfl (gE (gsd 36 rfl (fun h3_1 => ?_) fun h3_1 => ?_)))
    ·
     refine gct rfl (gSk (gS (gBk (gR (gM rfl (gM rfl (gM rfl (gM rfl (gCg rfl call58 (pimpl_live__behind_ok _ r0_2 b0_3 v0_4 (hm.now h0_4) (.slice p0_2 r0_2.ins.length c0_3) (hm.ow_rep 1 rfl) (.slice p0_3 r0_2.preds.length c0_4) (hm.ow_rep 2 rfl) (hm.blk_cells 0 rfl).1 i1_1 xs3_1.2) ?_)))))))))
     rintro r3_1 hx3_1 v3_1 w ⟨_, rfl, hB⟩
     replace hm := hm.give hB; clear hB
     refine gY (yG rfl (y_lenS (m := (r3_1 : MapS Bool)) underlying62 (hm.owm_rep 0 rfl) rfl rfl)) (gY (yG rfl (y_max rfl rfl rfl)) ?_)
     have h3_2 : maxI xs3_1.1 (MapS.len r3_1) = max xs3_1.1 (MapS.len r3_1) := maxI_eq _ _
     exact gA rfl (gE (gR (gM rfl (gB rfl (gA rfl (gE (gZe fun a hf => ⟨(by first | omega | (dsimp only; omega)), hf.sb rfl, hm.pk [1, 2, 3, 4] rfl rfl⟩)))))))
    exact gcf rfl (gXt (gHh (gLp ho2_1 hq2_1 (gZ fun a hf => ⟨(by first | omega | (dsimp only; omega)), hf.sb rfl, hm.pk [0, 1, 2] rfl rfl⟩))))
   repeat clear hm
   rintro s1_1 a w ⟨hn1_1, hf, hm⟩
   exact gv hf (gR (gP (by omega) (by omega) rfl (gM rfl (gE (gZe fun a hf => ⟨(by first | omega | (dsimp only; omega)), hf.sb rfl, hm.pk [0, 1, 2] rfl rfl⟩)))))
  repeat clear hm
  rintro i0_1 xs0_1 a w ⟨hn0_2, hf, hm⟩ hi0_3 hi0_4
  refine gv hf (gS (gR (gB rfl (gE (gS (go _ 28 rfl (decide_eq_false (by omega)) (gcf rfl (gXt (gHh (gS (gR (gM rfl (gA rfl (gE (gRt ?_)))))))))))))))
  replace hm := hm.thaw hle0_1
  exact gr1 results29 rfl ⟨rfl, hm.below⟩

theorem laws_FnExactMostLive_ok (w0 : World) (aU : Unit_) (v1 : Value) (h1 : GT.rep (hp w0) [v1] aU.codes) (aK : Int) :
    ConM Tryz.prog 6 [(.agg #[v1]), (nV aK)] w0 (laws_FnExactMostLive aU aK) fun r v w' => v = (.bool (r)) ∧ Below w0.heap.size w0 w' := by
  unfold laws_FnExactMostLive
  refine gcon func6 rfl fun r => ?_
  have hm := Mem.start w0
  refine gS (gR (gBx hm rfl fun b0_1 w hm => gA rfl (gE (gS (gR (gA rfl (gE (gS (gR (gY (yn (hm.blk_at 0 rfl) isAgg24 sizeOf24 rfl) (gM rfl (gC hm rfl call12 (laws_szUnit_ok _ aU v1 (hm.now h1) 1048576) fun r0_1 hx0_1 w hm => gA rfl (gE (gS (gS (gR (gM rfl (gB rfl (gE (gsd 13 rfl (fun h0_1 => ?_) fun h0_1 => ?_))))))))))))))))))))
  ·
   exact gct rfl (gS (gR (gA rfl (gE (gRt (gr1 results6 rfl ⟨rfl, hm.below⟩))))))
  refine gcf rfl (gSk (gS (gR (gY (yn (hm.blk_at 0 rfl) isAgg24 sizeOf24 rfl) (gCg rfl call14 (laws_toUnit_ok _ aU v1 (hm.now h1)) ?_)))))
  rintro r0_2 hx0_2 v0_2 w ⟨v0_3, rfl, hB⟩
  replace hm := hm.give hB; clear hB
  refine gM rfl (gC hm rfl call28 (spec_MostLive_ok _ r0_2 v0_3 (hm.ow_rep 0 rfl) aK) fun r0_3 hx0_3 w hm => gA rfl (gE (gS (gR (gY (yn (hm.blk_at 1 rfl) isAgg24 sizeOf24 rfl) (gCg rfl call14 (laws_toUnit_ok _ aU v1 (hm.now h1)) ?_))))))
  rintro r0_4 hx0_4 v0_5 w ⟨v0_6, rfl, hB⟩
  replace hm := hm.give hB; clear hB
  refine gAl hm zeroValue30 rfl fun b0_2 w hm => gSN hm 0 sizeOf30 (one_cons (rep_one (hm.ow_rep 1 rfl)) one_nil) rfl fun w hm => gE (gS (gR (gY (yn (hm.blk_at 0 rfl) isAgg30 sizeOf30 rfl) (gM rfl (gC hm rfl call29 (impl_MostLive_ok _ r0_4 v0_6 (hm.ow_rep 1 rfl) aK) fun r0_5 hx0_5 w hm => gA rfl (gE (gS (gS (gR (gM rfl (gM rfl (gB rfl (gE (gsd 25 rfl (fun h0_2 => ?_) fun h0_2 => ?_))))))))))))))
  ·
   exact gct rfl (gS (gR (gA rfl (gE (gRt (gr1 results6 rfl ⟨rfl, hm.below⟩))))))
  refine gcf rfl (gSk (gS (gS (gW (.q 0 (.e 1 (.e 2 (.e 3 (.p 4 .fin) .nil) .nil) .nil)) [1, 2] [4] hm [0, 1, 2, 3] [blk b0_2 [v0_6] 30, ow [v0_6] r0_4.codes, ow [v0_3] r0_2.codes, blk b0_1 [v1] 24] rfl mxo (by kernel_rfl) (fun _ _ _ h => h.2) fun w hm hS => tQ rfl hS (fun w hm => yn (hm.blk_at 0 rfl) isAgg30 sizeOf30 rfl) (tO (tY rfl (yn (hm.blk_at 3 rfl) isAgg24 sizeOf24 rfl) (tAs hS (tO (gb fun r0_6 hx0_6 => tf rfl rfl (fun a hf => e_call hf rfl call14 rfl (laws_toUnit_ok _ aU v1 (hm.now h1) _ hx0_6)) ?_)))))))))
  rintro v0_8 w ⟨v0_9, rfl, hB⟩
  replace hm := hm.give hB; clear hB
  refine tAk hm [1, 2, 3, 4] rfl fun hS => tO (gb fun r0_7 hx0_7 => tf rfl rfl (fun a hf => e_call hf rfl call17 rfl (laws_eqUnit_ok _ r0_4 v0_6 (hm.ow_rep 2 rfl) r0_6 v0_9 (hm.ow_rep 0 rfl) _ hx0_7)) ?_)
  rintro v0_10 w ⟨rfl, hB⟩
  replace hm := hm.below' hB; clear hB
  refine tAn rfl (tP rfl (fun w => yN rfl) (tE (gsn 30 rfl (fun h0_3 => ?_) fun h0_3 => ?_)))
  ·
   exact gct rfl (gS (gR (gA rfl (gE (gRt (gr1 results6 rfl ⟨rfl, hm.below⟩))))))
  exact gcf rfl (gSk (gS (gR (gA rfl (gE (gRt (gr1 results6 rfl ⟨rfl, hm.below⟩)))))))

end Go.Proofs.YthfeimbpjeijpaaGreat
