/- A part of the proof of FnExactEvenJumpsSaid. -/
import Derived.Test.YtjkdjdicpfjifaaGreatEvWalksA
namespace Go.Proofs.YtjkdjdicpfjifaaGreat
open Go Go.Wk Go.RowKit
set_option maxRecDepth 4000
set_option maxHeartbeats 4000000

open Tryz
theorem impl_codeOk_ok (w0 : World) (u : Unit_) (v1 : Value) (h1 : GT.rep (hp w0) [v1] u.codes) (k_ : Int) :
    ConM Tryz.prog 92 [(.agg #[v1]), (nV k_)] w0 (impl_codeOk u k_) fun r v w' => v = (.bool (r)) ∧ Below w0.heap.size w0 w' := by
  unfold impl_codeOk
  refine gcon func92 rfl fun r => ?_
  have hm := Mem.start w0
  refine gS (gR (gBx hm rfl fun b0_1 w hm => gBx hm rfl fun b0_2 w hm => gA rfl (gE (gS (gR (gF fo_28_0 rfl (gL hm 1 isAgg26 rfl (gL hm 0 isAgg3 rfl (gg fun x0_1 h0_1 hx0_2 => ?_)))))))))
  obtain ⟨b0_3, o0_1, c0_1, he⟩ := idx_form' h1 hx0_2
  subst he
  obtain ⟨v0_1, hc0_1, h0_2⟩ := rk_Code_ h1 hx0_2
  refine gI st_26 h0_1 (idx_lt hx0_2) rfl (gY (yn (hc0_1.mono hm.lez) isAgg45 sizeOf45 rfl) (gAl hm zeroValue45 rfl fun b0_4 w hm => gSN hm 0 sizeOf45 (one_cons rfl (one_cons rfl (one_cons (rep_one h0_2) one_nil))) rfl fun w hm => gE (gS (gS (gJ hm (fun s0_1 => [(2, (pV b0_1)), (3, (pV b0_2)), (5, (pV b0_4)), (36, (.bool (s0_1)))]) (fun s0_1 => [blk b0_1 [(sV b0_3 o0_1 u.codes.length c0_1)] 28, blk b0_2 [(nV k_)] 3, blk b0_4 [(nV x0_1.params), (nV x0_1.regs), v0_1] 45]) (fun s0_1 => ?_) ?_)))))
  ·
   refine gR (gF fo_45_1 rfl (gL hm 0 isAgg3 rfl (gC hm rfl call91 (impl_within_ok _ x0_1.regs 0 300) fun r1_1 hx1_1 w hm => gN rfl (gM rfl (gsn 21 rfl (fun h1_1 => ?_) fun h1_1 => ?_)))))
   ·
    exact gO rfl (gO rfl (gO rfl (gO rfl (gO rfl (gO rfl (gO rfl (gKt rfl (gM rfl (gO rfl (gO rfl (gO rfl (gO rfl (gO rfl (gKt rfl (gE (gz hm [2, 1, 0] rfl))))))))))))))))
   refine gF fo_45_0 rfl (gL hm 0 isAgg3 rfl (gF fo_45_1 rfl (gL hm 0 isAgg3 rfl (gY (yG rfl (y_min rfl rfl rfl)) ?_))))
   have h1_2 : minI 3 x0_1.regs = min 3 x0_1.regs := minI_eq _ _
   refine gC hm rfl call91 (impl_within_ok _ x0_1.params 0 (minI 3 x0_1.regs)) fun r1_2 hx1_2 w hm => gN rfl (gKf rfl (gM rfl (gsn 30 rfl (fun h1_3 => ?_) fun h1_3 => ?_)))
   ·
    exact gO rfl (gO rfl (gO rfl (gO rfl (gO rfl (gKt rfl (gE (gz hm [2, 1, 0] rfl)))))))
   refine gF fo_45_2 rfl (gL hm 0 isAgg43 rfl ?_)
   obtain ⟨p1_1, c1_1, rfl, hl1_1⟩ := ro_slice h0_2
   exact gY (yV st_43 rfl) (gC hm rfl call91 (impl_within_ok _ (x0_1.blocks.length : Int) 1 160) fun r1_3 hx1_3 w hm => gN rfl (gKf rfl (gE (gz hm [2, 1, 0] rfl))))
  repeat clear hm
  intro s0_1 w hm
  refine gs 36 rfl (fun h0_3 => ?_) fun h0_3 => ?_
  ·
   exact gct rfl (gS (gR (gA rfl (gE (gRt (gr1 results92 rfl ⟨rfl, hm.below⟩))))))
  refine gcf rfl (gSk (gS (gR (gY (yU rfl) (gAl hm zeroValue111 rfl fun b0_5 w hm => gS1 hm 0 sizeOf111 rfl rfl fun w hm => gE (gS (gS (gR (gF fo_45_2 rfl (gL hm 3 isAgg43 rfl ?_))))))))))
  obtain ⟨p0_1, c0_2, rfl, hl0_1⟩ := ro_slice h0_2
  refine gY (yV st_43 rfl) (gM rfl (gE (gBk (gNf hm (fun i1_1 xs1_1 => [(2, (pV b0_1)), (3, (pV b0_2)), (5, (pV b0_4)), (6, (pV b0_5)), (39, (.slice p0_1 x0_1.blocks.length c0_2)), (40, (nV ((x0_1.blocks.length : Int)))), (41, (nV i1_1))]) (fun i1_1 xs1_1 => [blk b0_1 [(sV b0_3 o0_1 u.codes.length c0_1)] 28, blk b0_2 [(nV k_)] 3, blk b0_4 [(nV x0_1.params), (nV x0_1.regs), (.slice p0_1 x0_1.blocks.length c0_2)] 45, blk b0_5 [(.func (.func 153) #[] #[(pV b0_4)])] 111]) [1, 2, 3, 0] rfl ?_ ?_))))
  ·
   repeat clear hm
   intro r0_1 hq0_2 i1_1 xs1_1 w hm hi0_1 hi0_2 q0_1 ho0_1
   refine gS (gR (gB rfl (gE (gS (go _ 42 rfl (decide_eq_true (by omega)) (gct rfl (gSk (gS (gBk (gS (gR (gM rfl (gg fun x1_1 h1_4 hx1_5 => ?_)))))))))))))
   obtain ⟨b1_1, o1_1, c1_2, he⟩ := idx_form' h0_2 hx1_5
   simp only [Value.slice.injEq, Option.some.injEq] at he; obtain ⟨rfl, _, rfl⟩ := he
   obtain ⟨v1_4, v1_5, v1_6, hc1_1, h1_5, h1_6, h1_7⟩ := rk_Block_ h0_2 hx1_5
   refine gI st_43 h1_4 (idx_lt hx1_5) rfl (gY (yn (hc1_1.mono hm.lez) isAgg61 sizeOf61 rfl) (gAl hm zeroValue61 rfl fun b1_2 w hm => gA rfl (gSN hm 0 sizeOf61 (one_cons (rep_one h1_5) (one_cons (rep_one h1_6) (one_cons rfl (one_cons rfl (one_cons (rep_one h1_7) one_nil))))) rfl fun w hm => gE (gS (gS (gJ hm (fun s1_1 => [(2, (pV b0_1)), (3, (pV b0_2)), (5, (pV b0_4)), (6, (pV b0_5)), (7, (nV i1_1)), (8, (pV b1_2)), (39, (sV b1_1 o1_1 x0_1.blocks.length c0_2)), (40, (nV ((x0_1.blocks.length : Int)))), (41, (nV i1_1)), (75, (.bool (s1_1)))]) (fun s1_1 => [blk b0_1 [(sV b0_3 o0_1 u.codes.length c0_1)] 28, blk b0_2 [(nV k_)] 3, blk b0_4 [(nV x0_1.params), (nV x0_1.regs), (sV b1_1 o1_1 x0_1.blocks.length c0_2)] 45, blk b0_5 [(.func (.func 153) #[] #[(pV b0_4)])] 111, blk b1_2 [v1_4, v1_5, (nV x1_1.jump), (nV x1_1.on), v1_6] 61]) (fun s1_1 => ?_) ?_))))))
   ·
    refine gW (.p 0 (.p 3 (.q 1 (.p 2 (.e 4 (.e 5 (.p 6 (.p 7 (.p 8 (.e 9 (.e 10 (.p 11 (.p 13 (.q 12 (.e 14 (.e 15 (.p 16 (.p 17 (.p 18 (.p 19 (.p 20 (.e 21 (.e 22 (.p 23 (.p 24 (.p 25 (.e 26 (.p 27 (.p 28 (.p 29 .fin))) .nil)))) .nil) .nil)))))) .nil) .nil)))) .nil) .nil)))) .nil) .nil))))) [4, 5, 14] [0, 2, 3, 6, 7, 8, 11, 13, 16, 17, 18, 19, 20, 23, 24, 25, 27, 28, 29] hm [0, 1, 2, 3, 4] [blk b1_2 [v1_4, v1_5, (nV x1_1.jump), (nV x1_1.on), v1_6] 61, blk b0_1 [(sV b0_3 o0_1 u.codes.length c0_1)] 28, blk b0_2 [(nV k_)] 3, blk b0_4 [(nV x0_1.params), (nV x0_1.regs), (sV b1_1 o1_1 x0_1.blocks.length c0_2)] 45, blk b0_5 [(.func (.func 153) #[] #[(pV b0_4)])] 111] rfl mxo (by kernel_rfl) (fun _ _ _ h => h.2) fun w hm hS => tP rfl (fun w => yF fo_61_4 rfl) (tP rfl (fun w => yF fo_61_2 rfl) (tQ rfl hS (fun w hm => yL hm 0 isAgg47 rfl) ?_))
    obtain ⟨p2_1, c2_1, rfl, hl2_1⟩ := ro_slice h1_7
    refine tP rfl (fun w => yV st_47 rfl) (tO (tY rfl (yL hm 0 isAgg3 rfl) (tAs hS (tO (gb fun r2_1 hx2_1 => tf rfl rfl (fun a hf => e_call hf rfl call154 rfl (impl_nextCount_ok _ x1_1.jump _ hx2_1)) ?_)))))
    rintro v2_1 w ⟨rfl, hB⟩
    replace hm := hm.below' hB; clear hB
    refine tAk hm [0, 1, 2, 3, 4] rfl fun hS => tP rfl (fun w => yB rfl) (tP rfl (fun w => yM rfl) (gsd 53 rfl (fun h2_1 => ?_) fun h2_1 => ?_))
    ·
     refine tPo rfl rfl (tO (tEo rfl rfl (tAn rfl (tO (tEo rfl rfl (tAn rfl (tPo rfl rfl (tPo rfl rfl (tQo rfl hS rfl (tO (tEo rfl rfl (tAs hS (tO (tEo rfl rfl (tAn rfl (tPo rfl rfl (tPo rfl rfl (tP rfl (fun w => yKt rfl) (tP rfl (fun w => yM rfl) (tPo rfl rfl (tO (tEo rfl rfl (tAn rfl (tO (tEo rfl rfl (tAn rfl (tPo rfl rfl (tPo rfl rfl (tPo rfl rfl (tO ?_))))))))))))))))))))))))))))))
     exact tEo rfl rfl (tAn rfl (tPo rfl rfl (tPo rfl rfl (tP rfl (fun w => yKt rfl) (tE (gz hm [1, 2, 3, 4, 0] rfl))))))
    refine tP rfl (fun w => yF fo_61_2 rfl) (tO (tY rfl (yL hm 0 isAgg3 rfl) (tAn rfl (tO (gb fun r2_2 hx2_2 => tf rfl rfl (fun a hf => e_call hf rfl call117 rfl (impl_usesOn_ok _ x1_1.jump _ hx2_2)) ?_)))))
    rintro v2_2 w ⟨rfl, hB⟩
    replace hm := hm.below' hB; clear hB
    refine tAk hm [0, 1, 2, 3, 4] rfl fun hS => tP rfl (fun w => yM rfl) (gs 57 rfl (fun h2_2 => ?_) fun h2_2 => ?_)
    ·
     refine tP rfl (fun w => yF fo_61_3 rfl) (tQ rfl hS (fun w hm => yL hm 4 isAgg111 rfl) (tO (tY rfl (yL hm 0 isAgg3 rfl) (tAs hS (tO (gb fun r2_3 hx2_3 => tf rfl rfl (fun a hf => e_callv hf rfl rfl rfl ⟨153, [(pV b0_4)], rfl, call153, impl_codeOk_1_ok _ x1_1.on x0_1 (sV b1_1 o1_1 x0_1.blocks.length c0_2) (rep_later (hm.now h0_2) (Below.refl _ _)) b0_4 (hm.blk_later 3 rfl (Below.refl _ _)) _ hx2_3⟩) ?_))))))
     rintro v2_3 w ⟨rfl, hB⟩
     replace hm := hm.below' hB; clear hB
     refine tAn rfl (tP rfl (fun w => yN rfl) (tP rfl (fun w => yKt rfl) (tP rfl (fun w => yKf rfl) (tP rfl (fun w => yM rfl) (gsn 65 rfl (fun h2_3 => ?_) fun h2_3 => ?_)))))
     ·
      exact tPo rfl rfl (tO (tEo rfl rfl (tAn rfl (tO (tEo rfl rfl (tAn rfl (tPo rfl rfl (tPo rfl rfl (tPo rfl rfl (tO (tEo rfl rfl (tAn rfl (tPo rfl rfl (tPo rfl rfl (tP rfl (fun w => yKt rfl) (tE (gz hm [1, 2, 3, 4, 0] rfl)))))))))))))))))
     refine tP rfl (fun w => yF fo_61_2 rfl) (tO (tY rfl (yL hm 0 isAgg3 rfl) (tAn rfl (tO (gb fun r2_4 hx2_4 => tf rfl rfl (fun a hf => e_call hf rfl call117 rfl (impl_usesOn_ok _ x1_1.jump _ hx2_4)) ?_)))))
     rintro v2_4 w ⟨rfl, hB⟩
     replace hm := hm.below' hB; clear hB
     refine tAn rfl (tP rfl (fun w => yN rfl) (tP rfl (fun w => yM rfl) (gsn 70 rfl (fun h2_4 => ?_) fun h2_4 => ?_)))
     ·
      exact tP rfl (fun w => yF fo_61_3 rfl) (tO (tY rfl (yL hm 0 isAgg3 rfl) (tAn rfl (tP rfl (fun w => yB rfl) (tP rfl (fun w => yKt rfl) (tP rfl (fun w => yKf rfl) (tE (gz hm [1, 2, 3, 4, 0] rfl))))))))
     exact tPo rfl rfl (tO (tEo rfl rfl (tAn rfl (tPo rfl rfl (tP rfl (fun w => yKf rfl) (tP rfl (fun w => yKf rfl) (tE (gz hm [1, 2, 3, 4, 0] rfl))))))))
    refine tPo rfl rfl (tQo rfl hS rfl (tO (tEo rfl rfl (tAs hS (tO (tEo rfl rfl (tAn rfl (tPo rfl rfl (tP rfl (fun w => yKf rfl) (tP rfl (fun w => yKf rfl) (tP rfl (fun w => yM rfl) (tP rfl (fun w => yF fo_61_2 rfl) (tO (tY rfl (yL hm 0 isAgg3 rfl) (tAn rfl (tO (gb fun r2_5 hx2_5 => tf rfl rfl (fun a hf => e_call hf rfl call117 rfl (impl_usesOn_ok _ x1_1.jump _ hx2_5)) ?_)))))))))))))))))
    rintro v2_5 w ⟨rfl, hB⟩
    replace hm := hm.below' hB; clear hB
    refine tAn rfl (tP rfl (fun w => yN rfl) (tP rfl (fun w => yM rfl) (gsn 70 rfl (fun h2_5 => ?_) fun h2_5 => ?_)))
    ·
     exact tP rfl (fun w => yF fo_61_3 rfl) (tO (tY rfl (yL hm 0 isAgg3 rfl) (tAn rfl (tP rfl (fun w => yB rfl) (tP rfl (fun w => yKt rfl) (tP rfl (fun w => yKf rfl) (tE (gz hm [1, 2, 3, 4, 0] rfl))))))))
    exact tPo rfl rfl (tO (tEo rfl rfl (tAn rfl (tPo rfl rfl (tP rfl (fun w => yKf rfl) (tP rfl (fun w => yKf rfl) (tE (gz hm [1, 2, 3, 4, 0] rfl))))))))
   repeat clear hm
   intro s1_1 w hm
   refine gs 75 rfl (fun h1_8 => ?_) fun h1_8 => ?_
   ·
    exact gct rfl (gS (gR (gA rfl (gE (gRt (gLr ho0_1 hq0_2 (gr1 results92 rfl ⟨rfl, hm.below⟩)))))))
   refine gcf rfl (gSk (gS (gS (gJ hm (fun s1_2 => [(2, (pV b0_1)), (3, (pV b0_2)), (5, (pV b0_4)), (6, (pV b0_5)), (7, (nV i1_1)), (8, (pV b1_2)), (39, (sV b1_1 o1_1 x0_1.blocks.length c0_2)), (40, (nV ((x0_1.blocks.length : Int)))), (41, (nV i1_1)), (85, (.bool (s1_2)))]) (fun s1_2 => [blk b0_1 [(sV b0_3 o0_1 u.codes.length c0_1)] 28, blk b0_2 [(nV k_)] 3, blk b0_4 [(nV x0_1.params), (nV x0_1.regs), (sV b1_1 o1_1 x0_1.blocks.length c0_2)] 45, blk b0_5 [(.func (.func 153) #[] #[(pV b0_4)])] 111, blk b1_2 [v1_4, v1_5, (nV x1_1.jump), (nV x1_1.on), v1_6] 61]) (fun s1_2 => ?_) ?_))))
   ·
    refine gR (gF fo_61_4 rfl (gL hm 4 isAgg47 rfl (gY (yU rfl) (gC hm rfl call111 (slices_ContainsFunc_S_int_int_ok _ x1_1.next_ v1_6 (hm.now h1_7) (fun y0 => impl_codeOk_2 y0 x0_1) (.func (.func 155) #[] #[(pV b0_4)]) (fun w y0 r hB hq => ⟨155, [(pV b0_4)], rfl, call155, impl_codeOk_2_ok w y0 x0_1 (sV b1_1 o1_1 x0_1.blocks.length c0_2) (rep_later (hm.now h0_2) hB) b0_4 (hm.blk_later 2 rfl hB) r hq⟩)) fun r2_6 hx2_6 w hm => gM rfl (gs 80 rfl (fun h2_6 => ?_) fun h2_6 => ?_)))))
    ·
     exact gO rfl (gO rfl (gO rfl (gO rfl (gKt rfl (gE (gz hm [0, 1, 2, 3, 4] rfl))))))
    exact gF fo_61_1 rfl (gL hm 4 isAgg59 rfl (gY (yU rfl) (gC hm rfl call156 (slices_ContainsFunc_S_impl_Ins_impl_Ins_ok _ x1_1.ins v1_5 (hm.now h1_6) (fun y0 => impl_codeOk_3 y0 u k_) (.func (.func 157) #[] #[(pV b0_1), (pV b0_2)]) (fun w y0 z0_0 z0_1 r hB hq => ⟨157, [(pV b0_1), (pV b0_2)], rfl, call157, impl_codeOk_3_ok w y0 z0_0 z0_1 u (sV b0_3 o0_1 u.codes.length c0_1) (rep_later (hm.now h1) hB) b0_1 (hm.blk_later 0 rfl hB) k_ b0_2 (hm.blk_later 1 rfl hB) r hq⟩)) fun r2_7 hx2_7 w hm => gKf rfl (gE (gz hm [0, 1, 2, 3, 4] rfl)))))
   repeat clear hm
   intro s1_2 w hm
   refine gs 85 rfl (fun h1_9 => ?_) fun h1_9 => ?_
   ·
    exact gct rfl (gS (gR (gA rfl (gE (gRt (gLr ho0_1 hq0_2 (gr1 results92 rfl ⟨rfl, hm.below⟩)))))))
   refine gcf rfl (gSk (gS (gR (gY (yn (hm.blk_at 2 rfl) isAgg45 sizeOf45 rfl) (gM rfl (gCg rfl call65 (impl_PredsOf_ok _ x0_1 (sV b1_1 o1_1 x0_1.blocks.length c0_2) (hm.now h0_2) i1_1) ?_))))))
   rintro r1_4 hx1_6 v1_7 w ⟨_, rfl, hB⟩
   replace hm := hm.give hB; clear hB
   obtain ⟨p1_2, c1_3, rfl, hl1_2⟩ := ro_slice (hm.ow_rep 0 rfl)
   refine gY (yV st_47 rfl) (gA rfl (gE (gS (gR (gF fo_61_0 rfl (gL hm 5 isAgg58 rfl ?_))))))
   obtain ⟨p1_3, c1_4, rfl, hl1_3⟩ := ro_slice h1_5
   refine gY (yV st_58 rfl) (gM rfl (gE (gBk (gNf hm (fun i2_1 xs2_1 => [(2, (pV b0_1)), (3, (pV b0_2)), (5, (pV b0_4)), (6, (pV b0_5)), (7, (nV i1_1)), (9, (nV ((r1_4.length : Int)))), (39, (sV b1_1 o1_1 x0_1.blocks.length c0_2)), (40, (nV ((x0_1.blocks.length : Int)))), (41, (nV i1_1)), (91, (.slice p1_3 x1_1.phis.length c1_4)), (92, (nV ((x1_1.phis.length : Int)))), (93, (nV i2_1))]) (fun i2_1 xs2_1 => [blk b0_1 [(sV b0_3 o0_1 u.codes.length c0_1)] 28, blk b0_2 [(nV k_)] 3, blk b0_4 [(nV x0_1.params), (nV x0_1.regs), (sV b1_1 o1_1 x0_1.blocks.length c0_2)] 45, blk b0_5 [(.func (.func 153) #[] #[(pV b0_4)])] 111]) [1, 2, 3, 4] rfl ?_ ?_))))
   ·
    repeat clear hm
    intro r1_5 hq1_3 i2_1 xs2_1 w hm hi1_1 hi1_2 q1_1 ho1_5
    refine gS (gR (gB rfl (gE (gS (go _ 94 rfl (decide_eq_true (by omega)) (gct rfl (gSk (gS (gBk (gS (gR (gg fun x2_1 h2_7 hx2_9 => ?_))))))))))))
    obtain ⟨b2_1, o2_1, c2_2, he⟩ := idx_form' h1_5 hx2_9
    simp only [Value.slice.injEq, Option.some.injEq] at he; obtain ⟨rfl, _, rfl⟩ := he
    obtain ⟨v2_8, hc2_1, h2_8⟩ := rk_Phi_ h1_5 hx2_9
    refine gI st_58 h2_7 (idx_lt hx2_9) rfl (gY (yn (hc2_1.mono hm.lez) isAgg86 sizeOf86 rfl) (gAl hm zeroValue86 rfl fun b2_2 w hm => gSN hm 0 sizeOf86 (one_cons rfl (one_cons (rep_one h2_8) one_nil)) rfl fun w hm => gE (gS (gJ hm (fun s2_1 => [(2, (pV b0_1)), (3, (pV b0_2)), (5, (pV b0_4)), (6, (pV b0_5)), (7, (nV i1_1)), (9, (nV ((r1_4.length : Int)))), (39, (sV b1_1 o1_1 x0_1.blocks.length c0_2)), (40, (nV ((x0_1.blocks.length : Int)))), (41, (nV i1_1)), (91, (sV b2_1 o2_1 x1_1.phis.length c1_4)), (92, (nV ((x1_1.phis.length : Int)))), (93, (nV i2_1)), (118, (.bool (s2_1)))]) (fun s2_1 => [blk b0_1 [(sV b0_3 o0_1 u.codes.length c0_1)] 28, blk b0_2 [(nV k_)] 3, blk b0_4 [(nV x0_1.params), (nV x0_1.regs), (sV b1_1 o1_1 x0_1.blocks.length c0_2)] 45, blk b0_5 [(.func (.func 153) #[] #[(pV b0_4)])] 111]) (fun s2_1 => ?_) ?_))))
    ·
     refine gR (gM rfl (gB rfl (gM rfl (gsd 99 rfl (fun h3_1 => ?_) fun h3_1 => ?_))))
     ·
      exact gO rfl (gO rfl (gO rfl (gO rfl (gO rfl (gKt rfl (gM rfl (gO rfl (gO rfl (gO rfl (gO rfl (gO rfl (gKt rfl (gM rfl (gO rfl (gO rfl (gO rfl (gO rfl (gKt rfl (gE (gz hm [1, 2, 3, 4] rfl))))))))))))))))))))
     refine gL hm 4 isAgg111 rfl (gF fo_86_0 rfl (gL hm 0 isAgg3 rfl (gb fun r3_1 hx3_1 => gf rfl (fun a hf => e_callv hf rfl rfl rfl ⟨153, [(pV b0_4)], rfl, call153, impl_codeOk_1_ok _ x2_1.to x0_1 (sV b1_1 o1_1 x0_1.blocks.length c0_2) (rep_later (hm.now h0_2) (Below.refl _ _)) b0_4 (hm.blk_later 3 rfl (Below.refl _ _)) _ hx3_1⟩) ?_)))
     rintro v3_1 w ⟨rfl, hB⟩
     replace hm := hm.below' hB; clear hB
     refine gN rfl (gKf rfl (gM rfl (gsn 106 rfl (fun h3_2 => ?_) fun h3_2 => ?_)))
     ·
      exact gO rfl (gO rfl (gO rfl (gO rfl (gO rfl (gKt rfl (gM rfl (gO rfl (gO rfl (gO rfl (gO rfl (gKt rfl (gE (gz hm [1, 2, 3, 4] rfl)))))))))))))
     refine gF fo_86_1 rfl (gL hm 0 isAgg47 rfl ?_)
     obtain ⟨p3_1, c3_1, rfl, hl3_1⟩ := ro_slice h2_8
     refine gY (yV st_47 rfl) (gM rfl (gB rfl (gKf rfl (gM rfl (gsd 113 rfl (fun h3_3 => ?_) fun h3_3 => ?_)))))
     ·
      exact gO rfl (gO rfl (gO rfl (gO rfl (gKt rfl (gE (gz hm [1, 2, 3, 4] rfl))))))
     exact gF fo_86_1 rfl (gL hm 0 isAgg47 rfl (gY (yU rfl) (gC hm rfl call111 (slices_ContainsFunc_S_int_int_ok _ x2_1.args (.slice p3_1 x2_1.args.length c3_1) (hm.now h2_8) (fun y0 => impl_codeOk_4 y0 x0_1) (.func (.func 159) #[] #[(pV b0_5)]) (fun w y0 r hB hq => ⟨159, [(pV b0_5)], rfl, call159, impl_codeOk_4_ok w y0 x0_1 (sV b1_1 o1_1 x0_1.blocks.length c0_2) (rep_later (hm.now h0_2) hB) b0_4 (hm.blk_later 3 rfl hB) b0_5 (hm.blk_later 4 rfl hB) r hq⟩)) fun r3_2 hx3_2 w hm => gKf rfl (gE (gz hm [1, 2, 3, 4] rfl)))))
    repeat clear hm
    intro s2_1 w hm
    refine gs 118 rfl (fun h2_9 => ?_) fun h2_9 => ?_
    ·
     exact gct rfl (gS (gR (gA rfl (gE (gRt (gLr ho1_5 hq1_3 (gLr ho0_1 hq0_2 (gr1 results92 rfl ⟨rfl, hm.below⟩))))))))
    exact gcf rfl (gSk (gR (gP (by omega) (by omega) rfl (gM rfl (gE (gze hm [0, 1, 2, 3] rfl))))))
   repeat clear hm
   intro i1_2 xs1_2 w hm hi1_3 hi1_4
   exact gS (gR (gB rfl (gE (gS (go _ 94 rfl (decide_eq_false (by omega)) (gcf rfl (gXt (gHh (gR (gP (by omega) (by omega) rfl (gM rfl (gE (gze hm [0, 1, 2, 3] rfl)))))))))))))
  repeat clear hm
  intro i0_1 xs0_1 w hm hi0_3 hi0_4
  exact gS (gR (gB rfl (gE (gS (go _ 42 rfl (decide_eq_false (by omega)) (gcf rfl (gXt (gHh (gS (gR (gA rfl (gE (gRt (gr1 results92 rfl ⟨rfl, hm.below⟩))))))))))))))

theorem impl_codeCount_ok (w0 : World) (c_ : Code_) (v1 : Value) (h1 : GT.rep (hp w0) [v1] c_.blocks) :
    ConM Tryz.prog 73 [(.agg #[(nV c_.params), (nV c_.regs), v1])] w0 (impl_codeCount c_) fun r v w' => v = (nV r) ∧ Below w0.heap.size w0 w' := by
  unfold impl_codeCount
  refine gcon func73 rfl fun r => ?_
  have hm := Mem.start w0
  refine gS (gR (gBx hm rfl fun b0_1 w hm => gA rfl (gE (gS (gR (gA rfl (gE (gS (gS (gR (gF fo_45_2 rfl (gL hm 0 isAgg43 rfl ?_))))))))))))
  obtain ⟨p0_1, c0_1, rfl, hl0_1⟩ := ro_slice h1
  refine gY (yV st_43 rfl) (gM rfl (gE (gBk (gNf hm (fun i1_1 xs1_1 => [(3, (nV xs1_1)), (7, (.slice p0_1 c_.blocks.length c0_1)), (8, (nV ((c_.blocks.length : Int)))), (9, (nV i1_1))]) (fun i1_1 xs1_1 => []) [] rfl ?_ ?_))))
  ·
   repeat clear hm
   intro _ _ i1_1 xs1_1 w hm hi0_1 hi0_2 q0_1 _
   refine gS (gR (gB rfl (gE (gS (go _ 10 rfl (decide_eq_true (by omega)) (gct rfl (gSk (gS (gBk (gS (gR (gg fun x1_1 h1_1 hx1_2 => ?_))))))))))))
   obtain ⟨b1_1, o1_1, c1_1, he⟩ := idx_form' h1 hx1_2
   simp only [Value.slice.injEq, Option.some.injEq] at he; obtain ⟨rfl, _, rfl⟩ := he
   obtain ⟨v1_1, v1_2, v1_3, hc1_1, h1_2, h1_3, h1_4⟩ := rk_Block_ h1 hx1_2
   refine gI st_43 h1_1 (idx_lt hx1_2) rfl (gY (yn (hc1_1.mono hm.lez) isAgg61 sizeOf61 rfl) (gAl hm zeroValue61 rfl fun b1_2 w hm => gSN hm 0 sizeOf61 (one_cons (rep_one h1_2) (one_cons (rep_one h1_3) (one_cons rfl (one_cons rfl (one_cons (rep_one h1_4) one_nil))))) rfl fun w hm => gE (gR (gM rfl (gF fo_61_0 rfl (gL hm 0 isAgg58 rfl ?_))))))
   obtain ⟨p1_1, c1_2, rfl, hl1_1⟩ := ro_slice h1_2
   refine gY (yV st_58 rfl) (gF fo_61_1 rfl (gL hm 0 isAgg59 rfl ?_))
   obtain ⟨p1_2, c1_3, rfl, hl1_2⟩ := ro_slice h1_3
   exact gY (yV st_59 rfl) (gP (by omega) (by omega) rfl (gB rfl (gA rfl (gE (gR (gP (by omega) (by omega) rfl (gM rfl (gE (gze hm [] rfl)))))))))
  repeat clear hm
  intro i0_1 xs0_1 w hm hi0_3 hi0_4
  exact gS (gR (gB rfl (gE (gS (go _ 10 rfl (decide_eq_false (by omega)) (gcf rfl (gXt (gHh (gS (gR (gM rfl (gA rfl (gE (gRt (gr1 results73 rfl ⟨rfl, hm.below⟩)))))))))))))))

theorem impl_UnitValid_ok (w0 : World) (u : Unit_) (v1 : Value) (h1 : GT.rep (hp w0) [v1] u.codes) :
    ConM Tryz.prog 50 [(.agg #[v1])] w0 (impl_UnitValid u) fun r v w' => v = (.bool (r)) ∧ Below w0.heap.size w0 w' := by
  unfold impl_UnitValid
  refine gcon func50 rfl fun r => ?_
  have hm := Mem.start w0
  refine gS (gR (gBx hm rfl fun b0_1 w hm => gA rfl (gE (gS (gS (gR (gF fo_28_0 rfl (gL hm 0 isAgg26 rfl ?_))))))))
  obtain ⟨p0_1, c0_1, rfl, hl0_1⟩ := ro_slice h1
  refine gY (yV st_26 rfl) (gC hm rfl call91 (impl_within_ok _ (u.codes.length : Int) 1 4) fun r0_1 hx0_1 w hm => gN rfl (gE (gsn 10 rfl (fun h0_1 => ?_) fun h0_1 => ?_)))
  ·
   exact gct rfl (gS (gR (gA rfl (gE (gRt (gr1 results50 rfl ⟨rfl, hm.below⟩))))))
  refine gcf rfl (gSk (gS (gR (gA rfl (gE (gS (gS (gR (gF fo_28_0 rfl (gL hm 0 isAgg26 rfl (gY (yV st_26 rfl) (gM rfl (gE (gBk (gNf hm (fun i1_1 xs1_1 => [(1, (pV b0_1)), (3, (nV xs1_1)), (12, (.slice p0_1 u.codes.length c0_1)), (13, (nV ((u.codes.length : Int)))), (14, (nV i1_1))]) (fun i1_1 xs1_1 => [blk b0_1 [(.slice p0_1 u.codes.length c0_1)] 28]) [0] rfl ?_ ?_)))))))))))))))
  ·
   repeat clear hm
   intro r0_2 hq0_1 i1_1 xs1_1 w hm hi0_1 hi0_2 q0_1 ho0_2
   refine gS (gR (gB rfl (gE (gS (go _ 15 rfl (decide_eq_true (by omega)) (gct rfl (gSk (gS (gBk (gS (gR (gM rfl (gg fun x1_1 h1_1 hx1_2 => ?_)))))))))))))
   obtain ⟨b1_1, o1_1, c1_1, he⟩ := idx_form' h1 hx1_2
   simp only [Value.slice.injEq, Option.some.injEq] at he; obtain ⟨rfl, _, rfl⟩ := he
   obtain ⟨v1_1, hc1_1, h1_2⟩ := rk_Code_ h1 hx1_2
   refine gI st_26 h1_1 (idx_lt hx1_2) rfl (gY (yn (hc1_1.mono hm.lez) isAgg45 sizeOf45 rfl) (gAl hm zeroValue45 rfl fun b1_2 w hm => gA rfl (gSN hm 0 sizeOf45 (one_cons rfl (one_cons rfl (one_cons (rep_one h1_2) one_nil))) rfl fun w hm => gE (gS (gS (gR (gY (yn (hm.blk_at 1 rfl) isAgg28 sizeOf28 rfl) (gM rfl (gC hm rfl call92 (impl_codeOk_ok _ u (sV b1_1 o1_1 u.codes.length c0_1) (hm.now h1) i1_1) fun r1_1 hx1_3 w hm => gN rfl (gE (gsn 22 rfl (fun h1_3 => ?_) fun h1_3 => ?_)))))))))))
   ·
    exact gct rfl (gS (gR (gA rfl (gE (gRt (gLr ho0_2 hq0_1 (gr1 results50 rfl ⟨rfl, hm.below⟩)))))))
   exact gcf rfl (gSk (gR (gM rfl (gY (yn (hm.blk_at 0 rfl) isAgg45 sizeOf45 rfl) (gC hm rfl call73 (impl_codeCount_ok _ x1_1 v1_1 (hm.now h1_2)) fun r1_2 hx1_4 w hm => gB rfl (gA rfl (gE (gR (gP (by omega) (by omega) rfl (gM rfl (gE (gze hm [1] rfl))))))))))))
  repeat clear hm
  intro i0_1 xs0_1 w hm hi0_3 hi0_4
  exact gS (gR (gB rfl (gE (gS (go _ 15 rfl (decide_eq_false (by omega)) (gcf rfl (gXt (gHh (gS (gR (gM rfl (gB rfl (gA rfl (gE (gRt (gr1 results50 rfl ⟨rfl, hm.below⟩))))))))))))))))

theorem impl_mapped_impl_Code_impl_Code_ok (w0 : World) (list : List Code_) (v1 : Value) (h1 : GT.rep (hp w0) [v1] list) (f : Code_ → Option Code_) (fv1 : Value) (hfn1 : ∀ (w : World) (y0 : Code_) (z1 : Value) (_ : GT.rep (hp w) [z1] y0.blocks) (r : Code_), Below w0.heap.size w0 w → f y0 = some r → FnOk Tryz.prog fv1 [(.agg #[(nV y0.params), (nV y0.regs), z1])] w (fun v w' => ∃ (x1 : Value), v = (.agg #[(nV r.params), (nV r.regs), x1]) ∧ Mem w (hp w) w' [ow [x1] r.blocks])) :
    ConM Tryz.prog 51 [v1, fv1] w0 (impl_mapped_impl_Code_impl_Code list f) fun r v w' => ∃ (x1 : Value), v = x1 ∧ Mem w0 (hp w0) w' [ow [x1] r] := by
  unfold impl_mapped_impl_Code_impl_Code
  refine gcon func51 rfl fun r => ?_
  have hm := Mem.start w0
  refine gS (gR (gA rfl (gE (gS (gR (gA rfl (gE (gS (gS (gR (gM rfl ?_)))))))))))
  obtain ⟨p0_1, c0_1, rfl, hl0_1⟩ := ro_slice h1
  refine gY (yV st_26 rfl) (gM rfl (gE (gBk ?_)))
  replace hm := hm.nilow (α := Code_)
  refine gNg (fun i1_1 xs1_1 a w => ∃ (v1_1 : Value), St 22 [(1, fv1), (5, v1_1), (8, (.slice p0_1 list.length c0_1)), (9, (nV ((list.length : Int)))), (10, (nV i1_1))] w0 (hp w0) [ow [v1_1] xs1_1] a w) (fun a hf => ⟨(.slice none 0 0), hf.sb rfl, hm.pk [0] rfl rfl⟩) ?_ ?_
  ·
   repeat clear hm
   rintro _ _ i1_1 xs1_1 a w ⟨v1_1, hf, hm⟩ hi0_1 hi0_2 q0_1 _
   refine gv hf (gS (gR (gB rfl (gE (gS (go _ 11 rfl (decide_eq_true (by omega)) (gct rfl (gSk (gS (gBk (gS (gR (gg fun x1_1 h1_1 hx1_2 => ?_)))))))))))))
   obtain ⟨b1_1, o1_1, c1_1, he⟩ := idx_form' h1 hx1_2
   simp only [Value.slice.injEq, Option.some.injEq] at he; obtain ⟨rfl, _, rfl⟩ := he
   obtain ⟨v1_2, hc1_1, h1_2⟩ := rk_Code_ h1 hx1_2
   refine gI st_26 h1_1 (idx_lt hx1_2) rfl (gY (yn (hc1_1.mono hm.lez) isAgg45 sizeOf45 rfl) (gAl hm zeroValue45 rfl fun b1_2 w hm => gSN hm 0 sizeOf45 (one_cons rfl (one_cons rfl (one_cons (rep_one h1_2) one_nil))) rfl fun w hm => gE (gR (gM rfl (gM rfl (gY (yn (hm.blk_at 0 rfl) isAgg45 sizeOf45 rfl) (gb fun r1_1 hx1_3 => gf rfl (fun a hf => e_callv hf rfl rfl rfl (hfn1 _ x1_1 v1_2 (hm.now h1_2) _ hm.below hx1_3)) ?_)))))))
   rintro v1_3 w ⟨v1_4, rfl, hB⟩
   replace hm := hm.give hB; clear hB
   refine gf rfl (fun a hf => e_build (vs := #[(0, (.agg #[(nV r1_1.params), (nV r1_1.regs), v1_4]))]) (cs := [(nV r1_1.params), (nV r1_1.regs), v1_4]) et_26 hf hm rfl rfl (by kernel_rfl) rfl rfl) ?_
   rintro _ w ⟨b1_3, rfl, hm⟩
   replace hm := hm.els_nil (α := Code_)
   replace hm : Mem w0 (hp w0) _ [els [] ([] : List Code_), blk b1_3 [(nV r1_1.params), (nV r1_1.regs), v1_4] 45, ow [(nV r1_1.params), (nV r1_1.regs), v1_4] (r1_1 : Code_), blk b1_2 [(nV x1_1.params), (nV x1_1.regs), v1_2] 45, ow [v1_1] xs1_1] := mk_Code_ r1_1.params r1_1.regs hm 2 rfl
   replace hm := (hm.els_cons 0 2 (by decide) rfl rfl).pk (L' := [els [(nV r1_1.params), (nV r1_1.regs), v1_4] ([r1_1] : List Code_), blk b1_3 [(nV r1_1.params), (nV r1_1.regs), v1_4] 45, blk b1_2 [(nV x1_1.params), (nV x1_1.regs), v1_2] 45, ow [v1_1] xs1_1]) [0, 1, 3, 4] rfl rfl
   replace hm := (hm.lit_els 1 0 (by decide) rfl rfl rfl rfl).pk (L' := [ow [(sV b1_3 0 1 1)] ([r1_1] : List Code_), blk b1_2 [(nV x1_1.params), (nV x1_1.regs), v1_2] 45, ow [v1_1] xs1_1]) [1, 2, 3] rfl rfl
   refine gb fun ys1_1 hx1_4 => ?_
   obtain ⟨h1_3, h1_3e⟩ := appM_some.1 hx1_4
   replace hm := (hm.both 2 0 (by decide) rfl rfl).pk (L' := [blk b1_2 [(nV x1_1.params), (nV x1_1.regs), v1_2] 45, both (ow [v1_1] xs1_1) (ow [(sV b1_3 0 1 1)] ([r1_1] : List Code_))]) [1, 2] rfl rfl
   refine gf rfl (fun a hf => e_appendD (xs := xs1_1) (ys := ([r1_1] : List Code_)) 1 et_26 hf hm rfl rfl rfl rfl h1_3) ?_
   rintro v1_5 w hm
   rw [h1_3e] at hm
   exact gA rfl (gE (gR (gP (by omega) (by omega) rfl (gM rfl (gE (gZe fun a hf => ⟨v1_5, hf.sb rfl, hm.pk [1] rfl rfl⟩))))))
  repeat clear hm
  rintro i0_1 xs0_1 a w ⟨v0_1, hf, hm⟩ hi0_3 hi0_4
  exact gv hf (gS (gR (gB rfl (gE (gS (go _ 11 rfl (decide_eq_false (by omega)) (gcf rfl (gXt (gHh (gS (gR (gM rfl (gA rfl (gE (gRt (gr1 results51 rfl ⟨v0_1, rfl, hm.pk [0] rfl rfl⟩))))))))))))))))

theorem impl_perCode_ok (w0 : World) (u : Unit_) (v1 : Value) (h1 : GT.rep (hp w0) [v1] u.codes) (f : Code_ → Option Code_) (fv1 : Value) (hfn1 : ∀ (w : World) (y0 : Code_) (z1 : Value) (_ : GT.rep (hp w) [z1] y0.blocks) (r : Code_), Below w0.heap.size w0 w → f y0 = some r → FnOk Tryz.prog fv1 [(.agg #[(nV y0.params), (nV y0.regs), z1])] w (fun v w' => ∃ (x1 : Value), v = (.agg #[(nV r.params), (nV r.regs), x1]) ∧ Mem w (hp w) w' [ow [x1] r.blocks])) :
    ConM Tryz.prog 32 [(.agg #[v1]), fv1] w0 (impl_perCode u f) fun r v w' => ∃ (x1 : Value), v = (.tuple #[(.agg #[x1]), (.bool (r.2))]) ∧ Mem w0 (hp w0) w' [ow [x1] r.1.codes] := by
  unfold impl_perCode
  refine gcon func32 rfl fun r => ?_
  have hm := Mem.start w0
  refine gS (gR (gBx hm rfl fun b0_1 w hm => gAl hm zeroValue28 rfl fun b0_2 w hm => gA rfl (gE (gS (gS (gR (gY (yn (hm.blk_at 1 rfl) isAgg28 sizeOf28 rfl) (gC hm rfl call50 (impl_UnitValid_ok _ u v1 (hm.now h1)) fun r0_1 hx0_1 w hm => gN rfl (gE (gsn 8 rfl (fun h0_1 => ?_) fun h0_1 => ?_))))))))))
  ·
   refine gct rfl (gS (gR (gY (yG rfl (y_build (vs := []) (cs := #[(.slice none 0 0)]) rfl rfl (by kernel_rfl))) (gSN hm 0 sizeOf28 (one_cons rfl one_nil) rfl fun w hm => gA rfl (gE (gRt ?_))))))
   replace hm := hm.nilow (α := Code_)
   exact grct 1 results32 hm rfl isAgg28 sizeOf28 ⟨(.slice none 0 0), rfl, hm.pk [0] rfl rfl⟩
  refine gcf rfl (gSk (gS (gR (gF fo_28_0 rfl (gL hm 1 isAgg26 rfl (gM rfl (gCg rfl call51 (impl_mapped_impl_Code_impl_Code_ok _ u.codes v1 (hm.now h1) f fv1 (fun w y0 z0_0 z0_1 r hB hq => hfn1 w y0 z0_0 z0_1 r (hm.below.trans (hB.mono hm.below.size)) hq)) ?_)))))))
  rintro r0_2 hx0_2 v0_2 w ⟨_, rfl, hB⟩
  replace hm := hm.give hB; clear hB
  obtain ⟨p0_1, c0_1, rfl, hl0_1⟩ := ro_slice (hm.ow_rep 0 rfl)
  exact gY (yG rfl (y_build (vs := [(0, (.slice p0_1 r0_2.length c0_1))]) (cs := #[(.slice p0_1 r0_2.length c0_1)]) rfl rfl (by kernel_rfl))) (gSN hm 1 sizeOf28 (one_cons rfl one_nil) rfl fun w hm => gA rfl (gE (gRt (grct 1 results32 hm rfl isAgg28 sizeOf28 ⟨(.slice p0_1 r0_2.length c0_1), rfl, hm.pk [0] rfl rfl⟩))))

theorem impl_mapped_impl_Block_impl_Block_ok (w0 : World) (list : List Block_) (v1 : Value) (h1 : GT.rep (hp w0) [v1] list) (f : Block_ → Option Block_) (fv1 : Value) (hfn1 : ∀ (w : World) (y0 : Block_) (z1 : Value) (_ : GT.rep (hp w) [z1] y0.phis) (z2 : Value) (_ : GT.rep (hp w) [z2] y0.ins) (z3 : Value) (_ : GT.rep (hp w) [z3] y0.next_) (r : Block_), Below w0.heap.size w0 w → f y0 = some r → FnOk Tryz.prog fv1 [(.agg #[z1, z2, (nV y0.jump), (nV y0.on), z3])] w (fun v w' => ∃ (x1 : Value) (x2 : Value) (x3 : Value), v = (.agg #[x1, x2, (nV r.jump), (nV r.on), x3]) ∧ Mem w (hp w) w' [ow [x1] r.phis, ow [x2] r.ins, ow [x3] r.next_])) :
    ConM Tryz.prog 93 [v1, fv1] w0 (impl_mapped_impl_Block_impl_Block list f) fun r v w' => ∃ (x1 : Value), v = x1 ∧ Mem w0 (hp w0) w' [ow [x1] r] := by
  unfold impl_mapped_impl_Block_impl_Block
  refine gcon func93 rfl fun r => ?_
  have hm := Mem.start w0
  refine gS (gR (gA rfl (gE (gS (gR (gA rfl (gE (gS (gS (gR (gM rfl ?_)))))))))))
  obtain ⟨p0_1, c0_1, rfl, hl0_1⟩ := ro_slice h1
  refine gY (yV st_43 rfl) (gM rfl (gE (gBk ?_)))
  replace hm := hm.nilow (α := Block_)
  refine gNg (fun i1_1 xs1_1 a w => ∃ (v1_1 : Value), St 22 [(1, fv1), (5, v1_1), (8, (.slice p0_1 list.length c0_1)), (9, (nV ((list.length : Int)))), (10, (nV i1_1))] w0 (hp w0) [ow [v1_1] xs1_1] a w) (fun a hf => ⟨(.slice none 0 0), hf.sb rfl, hm.pk [0] rfl rfl⟩) ?_ ?_
  ·
   repeat clear hm
   rintro _ _ i1_1 xs1_1 a w ⟨v1_1, hf, hm⟩ hi0_1 hi0_2 q0_1 _
   refine gv hf (gS (gR (gB rfl (gE (gS (go _ 11 rfl (decide_eq_true (by omega)) (gct rfl (gSk (gS (gBk (gS (gR (gg fun x1_1 h1_1 hx1_2 => ?_)))))))))))))
   obtain ⟨b1_1, o1_1, c1_1, he⟩ := idx_form' h1 hx1_2
   simp only [Value.slice.injEq, Option.some.injEq] at he; obtain ⟨rfl, _, rfl⟩ := he
   obtain ⟨v1_2, v1_3, v1_4, hc1_1, h1_2, h1_3, h1_4⟩ := rk_Block_ h1 hx1_2
   refine gI st_43 h1_1 (idx_lt hx1_2) rfl (gY (yn (hc1_1.mono hm.lez) isAgg61 sizeOf61 rfl) (gAl hm zeroValue61 rfl fun b1_2 w hm => gSN hm 0 sizeOf61 (one_cons (rep_one h1_2) (one_cons (rep_one h1_3) (one_cons rfl (one_cons rfl (one_cons (rep_one h1_4) one_nil))))) rfl fun w hm => gE (gR (gM rfl (gM rfl (gY (yn (hm.blk_at 0 rfl) isAgg61 sizeOf61 rfl) (gb fun r1_1 hx1_3 => gf rfl (fun a hf => e_callv hf rfl rfl rfl (hfn1 _ x1_1 v1_2 (hm.now h1_2) v1_3 (hm.now h1_3) v1_4 (hm.now h1_4) _ hm.below hx1_3)) ?_)))))))
   rintro v1_5 w ⟨v1_6, v1_7, v1_8, rfl, hB⟩
   replace hm := hm.give hB; clear hB
   refine gf rfl (fun a hf => e_build (vs := #[(0, (.agg #[v1_6, v1_7, (nV r1_1.jump), (nV r1_1.on), v1_8]))]) (cs := [v1_6, v1_7, (nV r1_1.jump), (nV r1_1.on), v1_8]) et_43 hf hm rfl rfl (by kernel_rfl) rfl rfl) ?_
   rintro _ w ⟨b1_3, rfl, hm⟩
   replace hm := hm.els_nil (α := Block_)
   replace hm := (mk_Block_ r1_1.jump r1_1.on hm 2 3 4 rfl).pk (L' := [els [] ([] : List Block_), blk b1_3 [v1_6, v1_7, (nV r1_1.jump), (nV r1_1.on), v1_8] 61, ow [v1_6, v1_7, (nV r1_1.jump), (nV r1_1.on), v1_8] (r1_1 : Block_), blk b1_2 [v1_2, v1_3, (nV x1_1.jump), (nV x1_1.on), v1_4] 61, ow [v1_1] xs1_1]) [0, 1, 2, 5, 6] rfl rfl
   replace hm := (hm.els_cons 0 2 (by decide) rfl rfl).pk (L' := [els [v1_6, v1_7, (nV r1_1.jump), (nV r1_1.on), v1_8] ([r1_1] : List Block_), blk b1_3 [v1_6, v1_7, (nV r1_1.jump), (nV r1_1.on), v1_8] 61, blk b1_2 [v1_2, v1_3, (nV x1_1.jump), (nV x1_1.on), v1_4] 61, ow [v1_1] xs1_1]) [0, 1, 3, 4] rfl rfl
   replace hm := (hm.lit_els 1 0 (by decide) rfl rfl rfl rfl).pk (L' := [ow [(sV b1_3 0 1 1)] ([r1_1] : List Block_), blk b1_2 [v1_2, v1_3, (nV x1_1.jump), (nV x1_1.on), v1_4] 61, ow [v1_1] xs1_1]) [1, 2, 3] rfl rfl
   refine gb fun ys1_1 hx1_4 => ?_
   obtain ⟨h1_5, h1_5e⟩ := appM_some.1 hx1_4
   replace hm := (hm.both 2 0 (by decide) rfl rfl).pk (L' := [blk b1_2 [v1_2, v1_3, (nV x1_1.jump), (nV x1_1.on), v1_4] 61, both (ow [v1_1] xs1_1) (ow [(sV b1_3 0 1 1)] ([r1_1] : List Block_))]) [1, 2] rfl rfl
   refine gf rfl (fun a hf => e_appendD (xs := xs1_1) (ys := ([r1_1] : List Block_)) 1 et_43 hf hm rfl rfl rfl rfl h1_5) ?_
   rintro v1_9 w hm
   rw [h1_5e] at hm
   exact gA rfl (gE (gR (gP (by omega) (by omega) rfl (gM rfl (gE (gZe fun a hf => ⟨v1_9, hf.sb rfl, hm.pk [1] rfl rfl⟩))))))
  repeat clear hm
  rintro i0_1 xs0_1 a w ⟨v0_1, hf, hm⟩ hi0_3 hi0_4
  exact gv hf (gS (gR (gB rfl (gE (gS (go _ 11 rfl (decide_eq_false (by omega)) (gcf rfl (gXt (gHh (gS (gR (gM rfl (gA rfl (gE (gRt (gr1 results93 rfl ⟨v0_1, rfl, hm.pk [0] rfl rfl⟩))))))))))))))))

theorem impl_mapped_impl_Phi_impl_Phi_ok (w0 : World) (list : List Phi_) (v1 : Value) (h1 : GT.rep (hp w0) [v1] list) (f : Phi_ → Option Phi_) (fv1 : Value) (hfn1 : ∀ (w : World) (y0 : Phi_) (z1 : Value) (_ : GT.rep (hp w) [z1] y0.args) (r : Phi_), Below w0.heap.size w0 w → f y0 = some r → FnOk Tryz.prog fv1 [(.agg #[(nV y0.to), z1])] w (fun v w' => ∃ (x1 : Value), v = (.agg #[(nV r.to), x1]) ∧ Mem w (hp w) w' [ow [x1] r.args])) :
    ConM Tryz.prog 104 [v1, fv1] w0 (impl_mapped_impl_Phi_impl_Phi list f) fun r v w' => ∃ (x1 : Value), v = x1 ∧ Mem w0 (hp w0) w' [ow [x1] r] := by
  unfold impl_mapped_impl_Phi_impl_Phi
  refine gcon func104 rfl fun r => ?_
  have hm := Mem.start w0
  refine gS (gR (gA rfl (gE (gS (gR (gA rfl (gE (gS (gS (gR (gM rfl ?_)))))))))))
  obtain ⟨p0_1, c0_1, rfl, hl0_1⟩ := ro_slice h1
  refine gY (yV st_58 rfl) (gM rfl (gE (gBk ?_)))
  replace hm := hm.nilow (α := Phi_)
  refine gNg (fun i1_1 xs1_1 a w => ∃ (v1_1 : Value), St 22 [(1, fv1), (5, v1_1), (8, (.slice p0_1 list.length c0_1)), (9, (nV ((list.length : Int)))), (10, (nV i1_1))] w0 (hp w0) [ow [v1_1] xs1_1] a w) (fun a hf => ⟨(.slice none 0 0), hf.sb rfl, hm.pk [0] rfl rfl⟩) ?_ ?_
  ·
   repeat clear hm
   rintro _ _ i1_1 xs1_1 a w ⟨v1_1, hf, hm⟩ hi0_1 hi0_2 q0_1 _
   refine gv hf (gS (gR (gB rfl (gE (gS (go _ 11 rfl (decide_eq_true (by omega)) (gct rfl (gSk (gS (gBk (gS (gR (gg fun x1_1 h1_1 hx1_2 => ?_)))))))))))))
   obtain ⟨b1_1, o1_1, c1_1, he⟩ := idx_form' h1 hx1_2
   simp only [Value.slice.injEq, Option.some.injEq] at he; obtain ⟨rfl, _, rfl⟩ := he
   obtain ⟨v1_2, hc1_1, h1_2⟩ := rk_Phi_ h1 hx1_2
   refine gI st_58 h1_1 (idx_lt hx1_2) rfl (gY (yn (hc1_1.mono hm.lez) isAgg86 sizeOf86 rfl) (gAl hm zeroValue86 rfl fun b1_2 w hm => gSN hm 0 sizeOf86 (one_cons rfl (one_cons (rep_one h1_2) one_nil)) rfl fun w hm => gE (gR (gM rfl (gM rfl (gY (yn (hm.blk_at 0 rfl) isAgg86 sizeOf86 rfl) (gb fun r1_1 hx1_3 => gf rfl (fun a hf => e_callv hf rfl rfl rfl (hfn1 _ x1_1 v1_2 (hm.now h1_2) _ hm.below hx1_3)) ?_)))))))
   rintro v1_3 w ⟨v1_4, rfl, hB⟩
   replace hm := hm.give hB; clear hB
   refine gf rfl (fun a hf => e_build (vs := #[(0, (.agg #[(nV r1_1.to), v1_4]))]) (cs := [(nV r1_1.to), v1_4]) et_58 hf hm rfl rfl (by kernel_rfl) rfl rfl) ?_
   rintro _ w ⟨b1_3, rfl, hm⟩
   replace hm := hm.els_nil (α := Phi_)
   replace hm : Mem w0 (hp w0) _ [els [] ([] : List Phi_), blk b1_3 [(nV r1_1.to), v1_4] 86, ow [(nV r1_1.to), v1_4] (r1_1 : Phi_), blk b1_2 [(nV x1_1.to), v1_2] 86, ow [v1_1] xs1_1] := mk_Phi_ r1_1.to hm 2 rfl
   replace hm := (hm.els_cons 0 2 (by decide) rfl rfl).pk (L' := [els [(nV r1_1.to), v1_4] ([r1_1] : List Phi_), blk b1_3 [(nV r1_1.to), v1_4] 86, blk b1_2 [(nV x1_1.to), v1_2] 86, ow [v1_1] xs1_1]) [0, 1, 3, 4] rfl rfl
   replace hm := (hm.lit_els 1 0 (by decide) rfl rfl rfl rfl).pk (L' := [ow [(sV b1_3 0 1 1)] ([r1_1] : List Phi_), blk b1_2 [(nV x1_1.to), v1_2] 86, ow [v1_1] xs1_1]) [1, 2, 3] rfl rfl
   refine gb fun ys1_1 hx1_4 => ?_
   obtain ⟨h1_3, h1_3e⟩ := appM_some.1 hx1_4
   replace hm := (hm.both 2 0 (by decide) rfl rfl).pk (L' := [blk b1_2 [(nV x1_1.to), v1_2] 86, both (ow [v1_1] xs1_1) (ow [(sV b1_3 0 1 1)] ([r1_1] : List Phi_))]) [1, 2] rfl rfl
   refine gf rfl (fun a hf => e_appendD (xs := xs1_1) (ys := ([r1_1] : List Phi_)) 1 et_58 hf hm rfl rfl rfl rfl h1_3) ?_
   rintro v1_5 w hm
   rw [h1_3e] at hm
   exact gA rfl (gE (gR (gP (by omega) (by omega) rfl (gM rfl (gE (gZe fun a hf => ⟨v1_5, hf.sb rfl, hm.pk [1] rfl rfl⟩))))))
  repeat clear hm
  rintro i0_1 xs0_1 a w ⟨v0_1, hf, hm⟩ hi0_3 hi0_4
  exact gv hf (gS (gR (gB rfl (gE (gS (go _ 11 rfl (decide_eq_false (by omega)) (gcf rfl (gXt (gHh (gS (gR (gM rfl (gA rfl (gE (gRt (gr1 results104 rfl ⟨v0_1, rfl, hm.pk [0] rfl rfl⟩))))))))))))))))

theorem slices_Clone_S_int_int_ok (w0 : World) (s_ : List Int) (v1 : Value) (h1 : GT.rep (hp w0) [v1] s_) :
    ConM Tryz.prog 108 [v1] w0 (slices_Clone_S_int_int s_) fun r v w' => ∃ (x1 : Value), v = x1 ∧ Mem w0 (hp w0) w' [ow [x1] r] := by
  unfold slices_Clone_S_int_int
  refine gcon func108 rfl fun r => ?_
  have hm := Mem.start w0
  refine gS (gR (gA rfl (gE (gS (gS (gR (gM rfl ?_)))))))
  rcases nil_or h1 with ⟨he, h0_1⟩ | ⟨p0_1, c0_1, he⟩
  ·
   subst he; subst h0_1
   refine gcg (m' := some ([] : List Int)) (by simp [appM]) (gY (yG rfl (y_eqnil_t st_47.und rfl rfl rfl)) (gE (gct rfl (gS (gR (gA rfl (gE (gRt ?_))))))))
   replace hm := hm.nilow (α := Int)
   exact gr1 results108 rfl ⟨(.slice none 0 0), rfl, hm.pk [0] rfl rfl⟩
  subst he
  refine gY (yG rfl (y_eqnil_f st_47.und rfl rfl rfl)) (gE (gcf rfl (gSk (gS (gR (gf rfl (fun a hf => e_build0 (α := Int) et_47 hm rfl) ?_))))))
  rintro v0_1 w hm
  refine gM rfl (gb fun ys0_1 hx0_1 => ?_)
  obtain ⟨h0_2, h0_2e⟩ := appM_some.1 hx0_1
  refine gf rfl (fun a hf => e_append 0 et_47 hf hm rfl (hm.now h1) rfl rfl rfl h0_2) ?_
  rintro v0_2 w hm
  rw [h0_2e] at hm
  exact gA rfl (gE (gRt (gr1 results108 rfl ⟨v0_2, rfl, hm.pk [0] rfl rfl⟩)))

theorem impl_clonePhi_ok (w0 : World) (f : Phi_) (v1 : Value) (h1 : GT.rep (hp w0) [v1] f.args) :
    ConM Tryz.prog 105 [(.agg #[(nV f.to), v1])] w0 (impl_clonePhi f) fun r v w' => ∃ (x1 : Value), v = (.agg #[(nV r.to), x1]) ∧ Mem w0 (hp w0) w' [ow [x1] r.args] := by
  unfold impl_clonePhi
  refine gcon func105 rfl fun r => ?_
  have hm := Mem.start w0
  refine gS (gR (gBx hm rfl fun b0_1 w hm => gAl hm zeroValue86 rfl fun b0_2 w hm => gE (gS (gW (.p 0 (.p 2 (.q 1 (.e 3 (.e 4 (.p 5 (.e 6 .fin .nil)) .nil) .nil)))) [3, 4] [0, 2, 5] hm [0, 1] [blk b0_2 [(nV 0), (.slice none 0 0)] 86, blk b0_1 [(nV f.to), v1] 86] rfl mxo (by kernel_rfl) (fun _ _ _ h => h.2) fun w hm hS => tP rfl (fun w => yF fo_86_0 rfl) (tP rfl (fun w => yF fo_86_1 rfl) (tQ rfl hS (fun w hm => yL hm 1 isAgg3 rfl) (tO (tY rfl (yL hm 1 isAgg47 rfl) (tAs hS (tO (gb fun r0_1 hx0_1 => tf rfl rfl (fun a hf => e_call hf rfl call108 rfl (slices_Clone_S_int_int_ok _ f.args v1 (hm.now h1) _ hx0_1)) ?_)))))))))))
  rintro v0_1 w ⟨_, rfl, hB⟩
  replace hm := hm.give hB; clear hB
  refine tAk hm [1, 2] rfl fun hS => ?_
  obtain ⟨p0_1, c0_1, rfl, hl0_1⟩ := ro_slice (hm.ow_rep 0 rfl)
  refine tP rfl (fun w => yG rfl (y_build (vs := [(0, (nV f.to)), (1, (.slice p0_1 r0_1.length c0_1))]) (cs := #[(nV f.to), (.slice p0_1 r0_1.length c0_1)]) rfl rfl (by kernel_rfl))) (tO (tf0 rfl rfl (fun a hf => e_storeN 1 hf hm rfl sizeOf86 rfl rfl rfl (one_cons rfl (one_cons rfl one_nil)) rfl rfl) ?_))
  rintro _ w hm
  exact tAn rfl (tE (gRt (grc 1 results105 hm rfl isAgg86 sizeOf86 ⟨(.slice p0_1 r0_1.length c0_1), rfl, hm.pk [0] rfl rfl⟩)))

theorem impl_mapped_impl_Ins_impl_Ins_ok (w0 : World) (list : List Ins_) (v1 : Value) (h1 : GT.rep (hp w0) [v1] list) (f : Ins_ → Option Ins_) (fv1 : Value) (hfn1 : ∀ (w : World) (y0 : Ins_) (z1 : Value) (_ : GT.rep (hp w) [z1] y0.args) (r : Ins_), Below w0.heap.size w0 w → f y0 = some r → FnOk Tryz.prog fv1 [(.agg #[(nV y0.op), (nV y0.to), z1, (nV y0.n_)])] w (fun v w' => ∃ (x1 : Value), v = (.agg #[(nV r.op), (nV r.to), x1, (nV r.n_)]) ∧ Mem w (hp w) w' [ow [x1] r.args])) :
    ConM Tryz.prog 106 [v1, fv1] w0 (impl_mapped_impl_Ins_impl_Ins list f) fun r v w' => ∃ (x1 : Value), v = x1 ∧ Mem w0 (hp w0) w' [ow [x1] r] := by
  unfold impl_mapped_impl_Ins_impl_Ins
  refine gcon func106 rfl fun r => ?_
  have hm := Mem.start w0
  refine gS (gR (gA rfl (gE (gS (gR (gA rfl (gE (gS (gS (gR (gM rfl ?_)))))))))))
  obtain ⟨p0_1, c0_1, rfl, hl0_1⟩ := ro_slice h1
  refine gY (yV st_59 rfl) (gM rfl (gE (gBk ?_)))
  replace hm := hm.nilow (α := Ins_)
  refine gNg (fun i1_1 xs1_1 a w => ∃ (v1_1 : Value), St 22 [(1, fv1), (5, v1_1), (8, (.slice p0_1 list.length c0_1)), (9, (nV ((list.length : Int)))), (10, (nV i1_1))] w0 (hp w0) [ow [v1_1] xs1_1] a w) (fun a hf => ⟨(.slice none 0 0), hf.sb rfl, hm.pk [0] rfl rfl⟩) ?_ ?_
  ·
   repeat clear hm
   rintro _ _ i1_1 xs1_1 a w ⟨v1_1, hf, hm⟩ hi0_1 hi0_2 q0_1 _
   refine gv hf (gS (gR (gB rfl (gE (gS (go _ 11 rfl (decide_eq_true (by omega)) (gct rfl (gSk (gS (gBk (gS (gR (gg fun x1_1 h1_1 hx1_2 => ?_)))))))))))))
   obtain ⟨b1_1, o1_1, c1_1, he⟩ := idx_form' h1 hx1_2
   simp only [Value.slice.injEq, Option.some.injEq] at he; obtain ⟨rfl, _, rfl⟩ := he
   obtain ⟨v1_2, hc1_1, h1_2⟩ := rk_Ins_ h1 hx1_2
   refine gI st_59 h1_1 (idx_lt hx1_2) rfl (gY (yn (hc1_1.mono hm.lez) isAgg89 sizeOf89 rfl) (gAl hm zeroValue89 rfl fun b1_2 w hm => gSN hm 0 sizeOf89 (one_cons rfl (one_cons rfl (one_cons (rep_one h1_2) (one_cons rfl one_nil)))) rfl fun w hm => gE (gR (gM rfl (gM rfl (gY (yn (hm.blk_at 0 rfl) isAgg89 sizeOf89 rfl) (gb fun r1_1 hx1_3 => gf rfl (fun a hf => e_callv hf rfl rfl rfl (hfn1 _ x1_1 v1_2 (hm.now h1_2) _ hm.below hx1_3)) ?_)))))))
   rintro v1_3 w ⟨v1_4, rfl, hB⟩
   replace hm := hm.give hB; clear hB
   refine gf rfl (fun a hf => e_build (vs := #[(0, (.agg #[(nV r1_1.op), (nV r1_1.to), v1_4, (nV r1_1.n_)]))]) (cs := [(nV r1_1.op), (nV r1_1.to), v1_4, (nV r1_1.n_)]) et_59 hf hm rfl rfl (by kernel_rfl) rfl rfl) ?_
   rintro _ w ⟨b1_3, rfl, hm⟩
   replace hm := hm.els_nil (α := Ins_)
   replace hm : Mem w0 (hp w0) _ [els [] ([] : List Ins_), blk b1_3 [(nV r1_1.op), (nV r1_1.to), v1_4, (nV r1_1.n_)] 89, ow [(nV r1_1.op), (nV r1_1.to), v1_4, (nV r1_1.n_)] (r1_1 : Ins_), blk b1_2 [(nV x1_1.op), (nV x1_1.to), v1_2, (nV x1_1.n_)] 89, ow [v1_1] xs1_1] := mk_Ins_ r1_1.op r1_1.to r1_1.n_ hm 2 rfl
   replace hm := (hm.els_cons 0 2 (by decide) rfl rfl).pk (L' := [els [(nV r1_1.op), (nV r1_1.to), v1_4, (nV r1_1.n_)] ([r1_1] : List Ins_), blk b1_3 [(nV r1_1.op), (nV r1_1.to), v1_4, (nV r1_1.n_)] 89, blk b1_2 [(nV x1_1.op), (nV x1_1.to), v1_2, (nV x1_1.n_)] 89, ow [v1_1] xs1_1]) [0, 1, 3, 4] rfl rfl
   replace hm := (hm.lit_els 1 0 (by decide) rfl rfl rfl rfl).pk (L' := [ow [(sV b1_3 0 1 1)] ([r1_1] : List Ins_), blk b1_2 [(nV x1_1.op), (nV x1_1.to), v1_2, (nV x1_1.n_)] 89, ow [v1_1] xs1_1]) [1, 2, 3] rfl rfl
   refine gb fun ys1_1 hx1_4 => ?_
   obtain ⟨h1_3, h1_3e⟩ := appM_some.1 hx1_4
   replace hm := (hm.both 2 0 (by decide) rfl rfl).pk (L' := [blk b1_2 [(nV x1_1.op), (nV x1_1.to), v1_2, (nV x1_1.n_)] 89, both (ow [v1_1] xs1_1) (ow [(sV b1_3 0 1 1)] ([r1_1] : List Ins_))]) [1, 2] rfl rfl
   refine gf rfl (fun a hf => e_appendD (xs := xs1_1) (ys := ([r1_1] : List Ins_)) 1 et_59 hf hm rfl rfl rfl rfl h1_3) ?_
   rintro v1_5 w hm
   rw [h1_3e] at hm
   exact gA rfl (gE (gR (gP (by omega) (by omega) rfl (gM rfl (gE (gZe fun a hf => ⟨v1_5, hf.sb rfl, hm.pk [1] rfl rfl⟩))))))
  repeat clear hm
  rintro i0_1 xs0_1 a w ⟨v0_1, hf, hm⟩ hi0_3 hi0_4
  exact gv hf (gS (gR (gB rfl (gE (gS (go _ 11 rfl (decide_eq_false (by omega)) (gcf rfl (gXt (gHh (gS (gR (gM rfl (gA rfl (gE (gRt (gr1 results106 rfl ⟨v0_1, rfl, hm.pk [0] rfl rfl⟩))))))))))))))))

theorem impl_cloneIns_ok (w0 : World) (x_ : Ins_) (v1 : Value) (h1 : GT.rep (hp w0) [v1] x_.args) :
    ConM Tryz.prog 107 [(.agg #[(nV x_.op), (nV x_.to), v1, (nV x_.n_)])] w0 (impl_cloneIns x_) fun r v w' => ∃ (x1 : Value), v = (.agg #[(nV r.op), (nV r.to), x1, (nV r.n_)]) ∧ Mem w0 (hp w0) w' [ow [x1] r.args] := by
  unfold impl_cloneIns
  refine gcon func107 rfl fun r => ?_
  have hm := Mem.start w0
  refine gS (gR (gBx hm rfl fun b0_1 w hm => gAl hm zeroValue89 rfl fun b0_2 w hm => gE (gS (gR (gF fo_89_2 rfl (gL hm 1 isAgg47 rfl (gCg rfl call108 (slices_Clone_S_int_int_ok _ x_.args v1 (hm.now h1)) ?_)))))))
  rintro r0_1 hx0_1 v0_1 w ⟨_, rfl, hB⟩
  replace hm := hm.give hB; clear hB
  exact gF fo_89_2 rfl (gS1 hm 2 sizeOf47 (rep_one (hm.ow_rep 0 rfl)) rfl fun w hm => gE (gS (gR (gY (yn (hm.blk_at 2 rfl) isAgg89 sizeOf89 rfl) (gSN hm 1 sizeOf89 (one_cons rfl (one_cons rfl (one_cons (rep_one (hm.ow_rep 0 rfl)) (one_cons rfl one_nil)))) rfl fun w hm => gE (gRt (grc 1 results107 hm rfl isAgg89 sizeOf89 ⟨v0_1, rfl, hm.pk [0] rfl rfl⟩)))))))

theorem impl_cloneBlock_ok (w0 : World) (b_ : Block_) (v1 : Value) (h1 : GT.rep (hp w0) [v1] b_.phis) (v2 : Value) (h2 : GT.rep (hp w0) [v2] b_.ins) (v3 : Value) (h3 : GT.rep (hp w0) [v3] b_.next_) :
    ConM Tryz.prog 60 [(.agg #[v1, v2, (nV b_.jump), (nV b_.on), v3])] w0 (impl_cloneBlock b_) fun r v w' => ∃ (x1 : Value) (x2 : Value) (x3 : Value), v = (.agg #[x1, x2, (nV r.jump), (nV r.on), x3]) ∧ Mem w0 (hp w0) w' [ow [x1] r.phis, ow [x2] r.ins, ow [x3] r.next_] := by
  unfold impl_cloneBlock
  refine gcon func60 rfl fun r => ?_
  have hm := Mem.start w0
  refine gS (gR (gBx hm rfl fun b0_1 w hm => gAl hm zeroValue61 rfl fun b0_2 w hm => gE (gS (gR (gF fo_61_0 rfl (gL hm 1 isAgg58 rfl (gCg rfl call104 (impl_mapped_impl_Phi_impl_Phi_ok _ b_.phis v1 (hm.now h1) (fun y0 => impl_clonePhi y0) (.func (.func 105) #[] #[]) (fun w y0 z0_0 z0_1 r hB hq => ⟨105, [], rfl, call105, impl_clonePhi_ok w y0 z0_0 z0_1  r hq⟩)) ?_)))))))
  rintro r0_1 hx0_1 v0_1 w ⟨_, rfl, hB⟩
  replace hm := hm.give hB; clear hB
  refine gF fo_61_0 rfl (gS1 hm 2 sizeOf58 (rep_one (hm.ow_rep 0 rfl)) rfl fun w hm => gE (gS (gR (gF fo_61_1 rfl (gL hm 2 isAgg59 rfl (gCg rfl call106 (impl_mapped_impl_Ins_impl_Ins_ok _ b_.ins v2 (hm.now h2) (fun y0 => impl_cloneIns y0) (.func (.func 107) #[] #[]) (fun w y0 z0_0 z0_1 r hB hq => ⟨107, [], rfl, call107, impl_cloneIns_ok w y0 z0_0 z0_1  r hq⟩)) ?_))))))
  rintro r0_2 hx0_2 v0_3 w ⟨_, rfl, hB⟩
  replace hm := hm.give hB; clear hB
  refine gF fo_61_1 rfl (gS1 hm 3 sizeOf59 (rep_one (hm.ow_rep 0 rfl)) rfl fun w hm => gE (gS (gR (gF fo_61_4 rfl (gL hm 3 isAgg47 rfl (gCg rfl call108 (slices_Clone_S_int_int_ok _ b_.next_ v3 (hm.now h3)) ?_))))))
  rintro r0_3 hx0_3 v0_5 w ⟨_, rfl, hB⟩
  replace hm := hm.give hB; clear hB
  exact gF fo_61_4 rfl (gS1 hm 4 sizeOf47 (rep_one (hm.ow_rep 0 rfl)) rfl fun w hm => gE (gS (gR (gY (yn (hm.blk_at 4 rfl) isAgg61 sizeOf61 rfl) (gSN hm 3 sizeOf61 (one_cons (rep_one (hm.ow_rep 2 rfl)) (one_cons (rep_one (hm.ow_rep 1 rfl)) (one_cons rfl (one_cons rfl (one_cons (rep_one (hm.ow_rep 0 rfl)) one_nil))))) rfl fun w hm => gE (gRt (grc 3 results60 hm rfl isAgg61 sizeOf61 ⟨v0_1, v0_3, v0_5, rfl, hm.pk [2, 1, 0] rfl rfl⟩)))))))

theorem impl_cloneCode_ok (w0 : World) (c_ : Code_) (v1 : Value) (h1 : GT.rep (hp w0) [v1] c_.blocks) :
    ConM Tryz.prog 52 [(.agg #[(nV c_.params), (nV c_.regs), v1])] w0 (impl_cloneCode c_) fun r v w' => ∃ (x1 : Value), v = (.agg #[(nV r.params), (nV r.regs), x1]) ∧ Mem w0 (hp w0) w' [ow [x1] r.blocks] := by
  unfold impl_cloneCode
  refine gcon func52 rfl fun r => ?_
  have hm := Mem.start w0
  refine gS (gR (gBx hm rfl fun b0_1 w hm => gAl hm zeroValue45 rfl fun b0_2 w hm => gE (gS (gR (gF fo_45_2 rfl (gL hm 1 isAgg43 rfl (gCg rfl call93 (impl_mapped_impl_Block_impl_Block_ok _ c_.blocks v1 (hm.now h1) (fun y0 => impl_cloneBlock y0) (.func (.func 60) #[] #[]) (fun w y0 z0_0 z0_1 z0_2 z0_3 z0_4 z0_5 r hB hq => ⟨60, [], rfl, call60, impl_cloneBlock_ok w y0 z0_0 z0_1 z0_2 z0_3 z0_4 z0_5  r hq⟩)) ?_)))))))
  rintro r0_1 hx0_1 v0_1 w ⟨_, rfl, hB⟩
  replace hm := hm.give hB; clear hB
  exact gF fo_45_2 rfl (gS1 hm 2 sizeOf43 (rep_one (hm.ow_rep 0 rfl)) rfl fun w hm => gE (gS (gR (gY (yn (hm.blk_at 2 rfl) isAgg45 sizeOf45 rfl) (gSN hm 1 sizeOf45 (one_cons rfl (one_cons rfl (one_cons (rep_one (hm.ow_rep 0 rfl)) one_nil))) rfl fun w hm => gE (gRt (grc 1 results52 hm rfl isAgg45 sizeOf45 ⟨v0_1, rfl, hm.pk [0] rfl rfl⟩)))))))

theorem impl_even_ok (w0 : World) (c_ : Code_) (v1 : Value) (h1 : GT.rep (hp w0) [v1] c_.blocks) :
    ConM Tryz.prog 33 [(.agg #[(nV c_.params), (nV c_.regs), v1])] w0 (impl_even c_) fun r v w' => ∃ (x1 : Value), v = (.agg #[(nV r.params), (nV r.regs), x1]) ∧ Mem w0 (hp w0) w' [ow [x1] r.blocks] := by
  unfold impl_even
  refine gcon func33 rfl fun r => ?_
  have hm := Mem.start w0
  refine gS (gR (gBx hm rfl fun b0_1 w hm => gAl hm zeroValue45 rfl fun b0_2 w hm => gE (gS (gR (gY (yn (hm.blk_at 1 rfl) isAgg45 sizeOf45 rfl) (gCg rfl call52 (impl_cloneCode_ok _ c_ v1 (hm.now h1)) ?_))))))
  rintro r0_1 hx0_1 v0_1 w ⟨v0_2, rfl, hB⟩
  replace hm := hm.give hB; clear hB
  refine gSN hm 2 sizeOf45 (one_cons rfl (one_cons rfl (one_cons (rep_one (hm.ow_rep 0 rfl)) one_nil))) rfl fun w hm => gE (gS (gS (gR (gF fo_45_2 rfl (gL hm 2 isAgg43 rfl ?_)))))
  obtain ⟨p0_1, c0_1, rfl, hl0_1⟩ := ro_slice (hm.ow_rep 0 rfl)
  refine gY (yV st_43 rfl) (gM rfl (gE (gBk (gNf hm (fun i1_1 xs1_1 => [(1, (pV b0_1)), (2, (pV b0_2)), (9, (nV ((r0_1.blocks.length : Int)))), (10, (nV i1_1))]) (fun i1_1 xs1_1 => [blk b0_1 [(nV r0_1.params), (nV r0_1.regs), (.slice p0_1 r0_1.blocks.length c0_1)] 45, ow [(.slice p0_1 r0_1.blocks.length c0_1)] xs1_1, blk b0_2 [(nV 0), (nV 0), (.slice none 0 0)] 45]) [2, 0, 1] rfl ?_ ?_))))
  ·
   repeat clear hm
   intro _ _ i1_1 xs1_1 w hm hi0_1 hi0_2 q0_1 _
   refine gS (gR (gB rfl (gE (gS (go _ 11 rfl (decide_eq_true (by omega)) (gct rfl (gSk (gS (gJ hm (fun s1_1 => [(1, (pV b0_1)), (2, (pV b0_2)), (9, (nV ((r0_1.blocks.length : Int)))), (10, (nV i1_1))]) (fun s1_1 => [blk b0_1 [(nV r0_1.params), (nV r0_1.regs), (.slice p0_1 r0_1.blocks.length c0_1)] 45, ow [(.slice p0_1 r0_1.blocks.length c0_1)] s1_1, blk b0_2 [(nV 0), (nV 0), (.slice none 0 0)] 45]) (fun s1_1 => ?_) ?_)))))))))
   ·
    refine gBk (gS (gR (gM rfl (gA rfl (gE (gS (gR (gF fo_45_2 rfl (gL hm 0 isAgg43 rfl (gM rfl (gg fun x2_1 h2_1 hx2_2 => ?_)))))))))))
    obtain ⟨b2_1, o2_1, c2_1, he⟩ := idx_form' (hm.ow_rep 1 rfl) hx2_2
    simp only [Value.slice.injEq, Option.some.injEq] at he; obtain ⟨rfl, _, rfl⟩ := he
    obtain ⟨v2_1, v2_2, v2_3, hc2_1, h2_2, h2_3, h2_4⟩ := rk_Block_ (hm.ow_rep 1 rfl) hx2_2
    have hL2_1 := rep_slice_len (hm.ow_rep 1 rfl)
    refine gI st_43 h2_1 (idx_lt2 hx2_2 hL2_1) rfl (gA rfl (gE (gS ?_)))
    obtain ⟨v2_4, v2_5, v2_6, hm⟩ := pin_Block_ hm 1 rfl hx2_2
    refine gJ hm (fun s2_1 => [(1, (pV b0_1)), (2, (pV b0_2)), (4, (.pointer (some ⟨b2_1, o2_1 + (i1_1).toNat * 5, none⟩))), (9, (nV ((r0_1.blocks.length : Int)))), (10, (nV i1_1)), (36, (.bool (s2_1)))]) (fun s2_1 => [blk b0_1 [(nV r0_1.params), (nV r0_1.regs), (sV b2_1 o2_1 r0_1.blocks.length c0_1)] 45, holeE b2_1 o2_1 r0_1.blocks.length c0_1 (xs1_1 : List Block_) (i1_1).toNat [v2_4, v2_5, (nV x2_1.jump), (nV x2_1.on), v2_6], ow [v2_4] x2_1.phis, ow [v2_5] x2_1.ins, ow [v2_6] x2_1.next_, blk b0_2 [(nV 0), (nV 0), (.slice none 0 0)] 45]) (fun s2_1 => ?_) ?_
    ·
     refine gW (.p 0 (.p 1 (.p 2 (.e 3 (.p 4 (.p 5 (.p 6 (.p 7 (.p 8 (.p 12 (.p 13 (.p 14 (.q 9 (.p 10 (.q 11 (.e 15 (.p 16 (.e 17 (.p 18 (.p 19 .fin)) .nil)) .nil)))))))))))) .nil)))) [15, 17] [0, 1, 2, 4, 5, 6, 7, 8, 10, 12, 13, 14, 16, 18, 19] hm [0, 1, 2, 3, 4, 5] [ow [v2_6] x2_1.next_, ow [v2_5] x2_1.ins, ow [v2_4] x2_1.phis, blk b0_1 [(nV r0_1.params), (nV r0_1.regs), (sV b2_1 o2_1 r0_1.blocks.length c0_1)] 45, holeE b2_1 o2_1 r0_1.blocks.length c0_1 (xs1_1 : List Block_) (i1_1).toNat [v2_4, v2_5, (nV x2_1.jump), (nV x2_1.on), v2_6], blk b0_2 [(nV 0), (nV 0), (.slice none 0 0)] 45] rfl mxo (by kernel_rfl) (fun _ _ _ h => h.2) fun w hm hS => tP rfl (fun w => yM rfl) (tP rfl (fun w => yG rfl (y_nilptr rfl rfl)) (tP rfl (fun w => yF fo_61_2 rfl) (tO (tY rfl (yl isAgg3 ((hm.holeE_at 4 rfl).cell (j := 2) rfl) rfl) (tAn rfl (tP rfl (fun w => yB rfl) (tP rfl (fun w => yM rfl) (gsd 22 rfl (fun h3_1 => ?_) fun h3_1 => ?_))))))))
     ·
      refine tP rfl (fun w => yM rfl) (tP rfl (fun w => yG rfl (y_nilptr rfl rfl)) (tP rfl (fun w => yF fo_61_4 rfl) (tP rfl (fun w => yM rfl) (tP rfl (fun w => yG rfl (y_nilptr rfl rfl)) (tP rfl (fun w => yF fo_61_4 rfl) (tQ rfl hS (fun w hm => yl isAgg47 ((hm.holeE_at 4 rfl).cell (j := 4) rfl) rfl) (gg fun x3_1 h3_2 hx3_2 => ?_)))))))
      obtain ⟨b3_1, o3_1, c3_1, he⟩ := idx_form (hm.ow_rep 0 rfl) hx3_2
      subst he
      exact tP rfl (fun w => yI st_47 h3_2 (idx_lt hx3_2) rfl) (tQ rfl hS (fun w hm => yl isAgg3 ((flat_cells (cs := [(nV x3_1)]) (hm.ow_rep 0 rfl) hx3_2 rfl).cell (j := 0) rfl) rfl) (tO (tY rfl (yl isAgg47 ((hm.holeE_at 4 rfl).cell (j := 4) rfl) rfl) (tAs hS (gg fun x3_2 h3_3 hx3_4 => tP rfl (fun w => yI st_47 h3_3 (idx_lt hx3_4) rfl) (tO (tY rfl (yl isAgg3 ((flat_cells (cs := [(nV x3_2)]) (hm.ow_rep 0 rfl) hx3_4 rfl).cell (j := 0) rfl) rfl) (tAs hS (tP rfl (fun w => yB rfl) (tP rfl (fun w => yKt rfl) (tE (gz hm [3, 4, 2, 1, 0, 5] rfl))))))))))))
     exact tPo rfl rfl (tPo rfl rfl (tPo rfl rfl (tPo rfl rfl (tPo rfl rfl (tPo rfl rfl (tQo rfl hS rfl (tPo rfl rfl (tQo rfl hS rfl (tO (tEo rfl rfl (tAs hS (tPo rfl rfl (tO (tEo rfl rfl (tAs hS (tPo rfl rfl (tP rfl (fun w => yKf rfl) (tE (gz hm [3, 4, 2, 1, 0, 5] rfl)))))))))))))))))))
    repeat clear hm
    intro s2_1 w hm
    refine gJ hm (fun s2_2 => [(1, (pV b0_1)), (2, (pV b0_2)), (9, (nV ((r0_1.blocks.length : Int)))), (10, (nV i1_1))]) (fun s2_2 => [blk b0_1 [(nV r0_1.params), (nV r0_1.regs), (sV b2_1 o2_1 r0_1.blocks.length c0_1)] 45, ow [(sV b2_1 o2_1 r0_1.blocks.length c0_1)] s2_2, blk b0_2 [(nV 0), (nV 0), (.slice none 0 0)] 45]) (fun s2_2 => ?_) ?_
    ·
     refine gs 36 rfl (fun h3_4 => ?_) fun h3_4 => ?_
     ·
      refine gct rfl (gW (.p 0 (.p 1 (.p 2 (.p 3 (.p 4 (.p 5 (.e 6 (.p 7 (.p 8 (.p 9 (.e 10 (.p 11 (.p 12 (.e 13 (.p 14 (.p 15 (.e 16 .fin .nil))) .nil))) .nil)))) .nil))))))) [] [0, 1, 2, 3, 4, 5, 7, 8, 9, 11, 12, 14, 15] hm [0, 1, 2, 3, 4, 5] [blk b0_1 [(nV r0_1.params), (nV r0_1.regs), (sV b2_1 o2_1 r0_1.blocks.length c0_1)] 45, holeE b2_1 o2_1 r0_1.blocks.length c0_1 (xs1_1 : List Block_) (i1_1).toNat [v2_4, v2_5, (nV x2_1.jump), (nV x2_1.on), v2_6], ow [v2_4] x2_1.phis, ow [v2_5] x2_1.ins, ow [v2_6] x2_1.next_, blk b0_2 [(nV 0), (nV 0), (.slice none 0 0)] 45] rfl mxo (by kernel_rfl) (fun _ _ _ h => h.2) fun w hm hS => tP rfl (fun w => yM rfl) (tP rfl (fun w => yM rfl) (tP rfl (fun w => yM rfl) (tP rfl (fun w => yM rfl) (tP rfl (fun w => yG rfl (y_nilptr rfl rfl)) (tP rfl (fun w => yF fo_61_4 rfl) (tO (tY rfl (yl isAgg47 ((hm.holeE_at 1 rfl).cell (j := 4) rfl) rfl) (tAn rfl (gb fun x3_3 hx3_5 => ?_))))))))))
      obtain ⟨h3_5, h3_5e⟩ := subM_some.1 hx3_5
      have hr3_1 := (hm.ow_rep 4 rfl)
      obtain ⟨v3_1, hy3_1⟩ : ∃ nv, nv = subC (GT.sz (Int)) v2_6 (0 : Int).toNat (1 : Int).toNat := ⟨_, rfl⟩
      refine tP rfl (fun w => yG rfl (yl_eq hy3_1 (y_slcHC (α := Int) st_47 hr3_1 rfl rfl rfl rfl h3_5 _))) (tP rfl (fun w => yG rfl (y_nilptr rfl rfl)) (tP rfl (fun w => yF fo_61_2 rfl) (tO ?_)))
      have h13_1 : ∀ u ∈ ([(nV 1)] : List Value), u.oneCell' = true := (one_cons rfl one_nil)
      refine tf0 rfl rfl (fun a hf => e_storeH (j := 2) (vs := [(nV 1)]) 1 hf hm rfl rfl rfl sizeOf3 rfl rfl rfl h13_1 rfl) ?_
      rintro _ w hm
      replace hm : Mem w0 (hp w0) _ [blk b0_1 [(nV r0_1.params), (nV r0_1.regs), (sV b2_1 o2_1 r0_1.blocks.length c0_1)] 45, holeE b2_1 o2_1 r0_1.blocks.length c0_1 (xs1_1 : List Block_) (i1_1).toNat [v2_4, v2_5, (nV 1), (nV x2_1.on), v2_6], ow [v2_4] x2_1.phis, ow [v2_5] x2_1.ins, ow [v2_6] x2_1.next_, blk b0_2 [(nV 0), (nV 0), (.slice none 0 0)] 45] := hm
      refine tAn rfl (tP rfl (fun w => yG rfl (y_nilptr rfl rfl)) (tP rfl (fun w => yF fo_61_3 rfl) (tO ?_)))
      have h13_2 : ∀ u ∈ ([(nV 0)] : List Value), u.oneCell' = true := (one_cons rfl one_nil)
      refine tf0 rfl rfl (fun a hf => e_storeH (j := 3) (vs := [(nV 0)]) 1 hf hm rfl rfl rfl sizeOf3 rfl rfl rfl h13_2 rfl) ?_
      rintro _ w hm
      replace hm : Mem w0 (hp w0) _ [blk b0_1 [(nV r0_1.params), (nV r0_1.regs), (sV b2_1 o2_1 r0_1.blocks.length c0_1)] 45, holeE b2_1 o2_1 r0_1.blocks.length c0_1 (xs1_1 : List Block_) (i1_1).toNat [v2_4, v2_5, (nV 1), (nV 0), v2_6], ow [v2_4] x2_1.phis, ow [v2_5] x2_1.ins, ow [v2_6] x2_1.next_, blk b0_2 [(nV 0), (nV 0), (.slice none 0 0)] 45] := hm
      refine tAn rfl (tP rfl (fun w => yG rfl (y_nilptr rfl rfl)) (tP rfl (fun w => yF fo_61_4 rfl) (tO ?_)))
      replace hm := hm.imp (c' := ow [v3_1] x3_3) 4 rfl (fun F h0 => by rw [hy3_1, ← h3_5e]; exact own_subC h0 (by omega) (by omega))
      have h13_3 : ∀ u ∈ ([v3_1] : List Value), u.oneCell' = true := (one_cons (rep_one (hm.ow_rep 4 rfl)) one_nil)
      refine tf0 rfl rfl (fun a hf => e_storeH (j := 4) (vs := [v3_1]) 1 hf hm rfl rfl rfl sizeOf47 rfl rfl (cells_one (h13_3 _ (List.mem_singleton.2 rfl))) h13_3 rfl) ?_
      rintro _ w hm
      replace hm : Mem w0 (hp w0) _ [blk b0_1 [(nV r0_1.params), (nV r0_1.regs), (sV b2_1 o2_1 r0_1.blocks.length c0_1)] 45, holeE b2_1 o2_1 r0_1.blocks.length c0_1 (xs1_1 : List Block_) (i1_1).toNat [v2_4, v2_5, (nV 1), (nV 0), v3_1], ow [v2_4] x2_1.phis, ow [v2_5] x2_1.ins, ow [v3_1] x3_3, blk b0_2 [(nV 0), (nV 0), (.slice none 0 0)] 45] := hm
      refine tAn rfl (tE ?_)
      replace hm := (mk_Block_ 1 0 hm 2 3 4 rfl).pk (L' := [blk b0_1 [(nV r0_1.params), (nV r0_1.regs), (sV b2_1 o2_1 r0_1.blocks.length c0_1)] 45, holeE b2_1 o2_1 r0_1.blocks.length c0_1 (xs1_1 : List Block_) (i1_1).toNat [v2_4, v2_5, (nV 1), (nV 0), v3_1], ow [v2_4, v2_5, (nV 1), (nV 0), v3_1] ((⟨x2_1.phis, x2_1.ins, 1, 0, x3_3⟩ : Block_) : Block_), blk b0_2 [(nV 0), (nV 0), (.slice none 0 0)] 45]) [0, 1, 2, 5] rfl rfl
      replace hm := (hm.shutE (y := ((⟨x2_1.phis, x2_1.ins, 1, 0, x3_3⟩ : Block_) : Block_)) 1 2 (by decide) rfl rfl).pk (L' := [blk b0_1 [(nV r0_1.params), (nV r0_1.regs), (sV b2_1 o2_1 r0_1.blocks.length c0_1)] 45, ow [(sV b2_1 o2_1 r0_1.blocks.length c0_1)] (xs1_1.set (i1_1).toNat (⟨x2_1.phis, x2_1.ins, 1, 0, x3_3⟩ : Block_)), blk b0_2 [(nV 0), (nV 0), (.slice none 0 0)] 45]) [0, 1, 3] rfl rfl
      have hx3_6 := List.getElem?_set_self (a := ((⟨x2_1.phis, x2_1.ins, 1, 0, x3_3⟩ : Block_) : Block_)) (idx_lt hx2_2)
      exact gz hm [0, 1, 2] rfl
     refine gcf rfl (gSk ?_)
     replace hm := (mk_Block_ x2_1.jump x2_1.on hm 2 3 4 rfl).pk (L' := [blk b0_1 [(nV r0_1.params), (nV r0_1.regs), (sV b2_1 o2_1 r0_1.blocks.length c0_1)] 45, holeE b2_1 o2_1 r0_1.blocks.length c0_1 (xs1_1 : List Block_) (i1_1).toNat [v2_4, v2_5, (nV x2_1.jump), (nV x2_1.on), v2_6], ow [v2_4, v2_5, (nV x2_1.jump), (nV x2_1.on), v2_6] (x2_1 : Block_), blk b0_2 [(nV 0), (nV 0), (.slice none 0 0)] 45]) [0, 1, 2, 5] rfl rfl
     replace hm := (hm.shutE (y := (x2_1 : Block_)) 1 2 (by decide) rfl rfl).pk (L' := [blk b0_1 [(nV r0_1.params), (nV r0_1.regs), (sV b2_1 o2_1 r0_1.blocks.length c0_1)] 45, ow [(sV b2_1 o2_1 r0_1.blocks.length c0_1)] (xs1_1.set (i1_1).toNat x2_1), blk b0_2 [(nV 0), (nV 0), (.slice none 0 0)] 45]) [0, 1, 3] rfl rfl
     rw [set_same hx2_2] at hm
     exact gz hm [0, 1, 2] rfl
    repeat clear hm
    intro s2_2 w hm
    exact gz hm [0, 1, 2] rfl
   repeat clear hm
   intro s1_1 w hm
   exact gR (gP (by omega) (by omega) rfl (gM rfl (gE (gze hm [0, 1, 2] rfl))))
  repeat clear hm
  intro i0_1 xs0_1 w hm hi0_3 hi0_4
  exact gS (gR (gB rfl (gE (gS (go _ 11 rfl (decide_eq_false (by omega)) (gcf rfl (gXt (gHh (gS (gR (gY (yn (hm.blk_at 0 rfl) isAgg45 sizeOf45 rfl) (gSN hm 2 sizeOf45 (one_cons rfl (one_cons rfl (one_cons rfl one_nil))) rfl fun w hm => gE (gRt (grc 2 results33 hm rfl isAgg45 sizeOf45 ⟨(.slice p0_1 r0_1.blocks.length c0_1), rfl, hm.pk [1] rfl rfl⟩))))))))))))))

theorem impl_EvenJumps_ok (w0 : World) (u : Unit_) (v1 : Value) (h1 : GT.rep (hp w0) [v1] u.codes) :
    ConM Tryz.prog 13 [(.agg #[v1])] w0 (impl_EvenJumps u) fun r v w' => ∃ (x1 : Value), v = (.tuple #[(.agg #[x1]), (.bool (r.2))]) ∧ Mem w0 (hp w0) w' [ow [x1] r.1.codes] := by
  unfold impl_EvenJumps
  refine gcon func13 rfl fun r => ?_
  have hm := Mem.start w0
  refine gS (gR (gBx hm rfl fun b0_1 w hm => gAl hm zeroValue28 rfl fun b0_2 w hm => gA rfl (gE (gS (gR (gY (yn (hm.blk_at 1 rfl) isAgg28 sizeOf28 rfl) (gCg rfl call32 (impl_perCode_ok _ u v1 (hm.now h1) (fun y0 => impl_even y0) (.func (.func 33) #[] #[]) (fun w y0 z0_0 z0_1 r hB hq => ⟨33, [], rfl, call33, impl_even_ok w y0 z0_0 z0_1  r hq⟩)) ?_)))))))
  rintro r0_1 hx0_1 v0_1 w ⟨v0_2, rfl, hB⟩
  replace hm := hm.give hB; clear hB
  exact gX rfl (gX rfl (gSN hm 1 sizeOf28 (one_cons (rep_one (hm.ow_rep 0 rfl)) one_nil) rfl fun w hm => gA rfl (gE (gRt (grct 1 results13 hm rfl isAgg28 sizeOf28 ⟨v0_2, rfl, hm.pk [0] rfl rfl⟩)))))

theorem laws_eqIntS_ok (w0 : World) (a_ : List Int) (v1 : Value) (h1 : GT.rep (hp w0) [v1] a_) (b_ : List Int) (v2 : Value) (h2 : GT.rep (hp w0) [v2] b_) :
    ConM Tryz.prog 198 [v1, v2] w0 (laws_eqIntS a_ b_) fun r v w' => v = (.bool (r)) ∧ Below w0.heap.size w0 w' := by
  unfold laws_eqIntS
  refine gcon func198 rfl fun r => ?_
  have hm := Mem.start w0
  refine gS (gR (gA rfl (gE (gS (gS (gR (gM rfl ?_)))))))
  obtain ⟨p0_1, c0_1, rfl, hl0_1⟩ := ro_slice h1
  refine gY (yV st_47 rfl) (gM rfl ?_)
  obtain ⟨p0_2, c0_2, rfl, hl0_2⟩ := ro_slice h2
  refine gY (yV st_47 rfl) (gB rfl (gE (gsd 10 rfl (fun h0_1 => ?_) fun h0_1 => ?_)))
  ·
   exact gct rfl (gS (gR (gA rfl (gE (gRt (gr1 results198 rfl ⟨rfl, hm.below⟩))))))
  refine gcf rfl (gSk (gS (gS (gR (gA rfl (gE (gBk (gNf hm (fun i1_1 xs1_1 => [(0, (.slice p0_1 a_.length c0_1)), (1, (.slice p0_2 b_.length c0_2)), (5, (nV i1_1))]) (fun i1_1 xs1_1 => []) [] rfl ?_ ?_))))))))
  ·
   repeat clear hm
   intro r0_1 hq0_1 i1_1 xs1_1 w hm hi0_1 hi0_2 q0_1 ho0_1
   refine gS (gS (gR (gM rfl (gM rfl (gY (yV st_47 rfl) (gB rfl (gE (go _ 14 rfl (decide_eq_true (by omega)) (gct rfl (gSk (gS (gBk (gS (gW (.p 0 (.p 1 (.p 2 (.p 4 (.p 5 (.p 6 (.q 3 (.e 7 (.p 8 .fin) .nil)))))))) [7] [0, 1, 2, 4, 5, 6, 8] hm [] [] rfl mxo (by kernel_rfl) (fun _ _ _ h => h.2) fun w hm hS => tP rfl (fun w => yM rfl) (tP rfl (fun w => yM rfl) (gg fun x1_1 h1_1 hx1_2 => ?_))))))))))))))))
   obtain ⟨b1_1, o1_1, c1_1, he⟩ := idx_form h1 hx1_2
   simp only [Value.slice.injEq, Option.some.injEq] at he; obtain ⟨rfl, _, rfl⟩ := he
   refine tP rfl (fun w => yI st_47 h1_1 (idx_lt hx1_2) rfl) (tP rfl (fun w => yM rfl) (tP rfl (fun w => yM rfl) (gg fun x1_2 h1_2 hx1_4 => ?_)))
   obtain ⟨b1_2, o1_2, c1_2, he⟩ := idx_form h2 hx1_4
   simp only [Value.slice.injEq, Option.some.injEq] at he; obtain ⟨rfl, _, rfl⟩ := he
   refine tP rfl (fun w => yI st_47 h1_2 (idx_lt hx1_4) rfl) (tQ rfl hS (fun w hm => yl isAgg3 ((flat_cells (cs := [(nV x1_1)]) (hm.now h1) hx1_2 rfl).cell (j := 0) rfl) rfl) (tO (tY rfl (yl isAgg3 ((flat_cells (cs := [(nV x1_2)]) (hm.now h2) hx1_4 rfl).cell (j := 0) rfl) rfl) (tAs hS (tP rfl (fun w => yB rfl) (tE (gsd 25 rfl (fun h1_3 => ?_) fun h1_3 => ?_)))))))
   ·
    exact gct rfl (gS (gR (gA rfl (gE (gRt (gLr ho0_1 hq0_1 (gr1 results198 rfl ⟨rfl, hm.below⟩)))))))
   exact gcf rfl (gSk (gR (gM rfl (gP (by omega) (by omega) rfl (gA rfl (gE (gze hm [] rfl)))))))
  repeat clear hm
  intro i0_1 xs0_1 w hm hi0_3 hi0_4
  exact gS (gS (gR (gM rfl (gM rfl (gY (yV st_47 rfl) (gB rfl (gE (go _ 14 rfl (decide_eq_false (by omega)) (gcf rfl (gXt (gHh (gS (gR (gA rfl (gE (gRt (gr1 results198 rfl ⟨rfl, hm.below⟩)))))))))))))))))

theorem laws_eqPhi_ok (w0 : World) (a_ : Phi_) (v1 : Value) (h1 : GT.rep (hp w0) [v1] a_.args) (b_ : Phi_) (v2 : Value) (h2 : GT.rep (hp w0) [v2] b_.args) :
    ConM Tryz.prog 226 [(.agg #[(nV a_.to), v1]), (.agg #[(nV b_.to), v2])] w0 (laws_eqPhi a_ b_) fun r v w' => v = (.bool (r)) ∧ Below w0.heap.size w0 w' := by
  unfold laws_eqPhi
  refine gcon func226 rfl fun r => ?_
  have hm := Mem.start w0
  refine gS (gR (gBx hm rfl fun b0_1 w hm => gBx hm rfl fun b0_2 w hm => gA rfl (gE (gS (gS (gR (gF fo_86_0 rfl (gL hm 1 isAgg3 rfl (gF fo_86_0 rfl (gL hm 0 isAgg3 rfl (gB rfl (gE (gsd 9 rfl (fun h0_1 => ?_) fun h0_1 => ?_)))))))))))))
  ·
   exact gct rfl (gS (gR (gA rfl (gE (gRt (gr1 results226 rfl ⟨rfl, hm.below⟩))))))
  refine gcf rfl (gSk (gS (gS (gR (gF fo_86_1 rfl (gL hm 1 isAgg47 rfl (gF fo_86_1 rfl (gL hm 0 isAgg47 rfl (gC hm rfl call198 (laws_eqIntS_ok _ a_.args v1 (hm.now h1) b_.args v2 (hm.now h2)) fun r0_1 hx0_1 w hm => gN rfl (gE (gsn 15 rfl (fun h0_2 => ?_) fun h0_2 => ?_)))))))))))
  ·
   exact gct rfl (gS (gR (gA rfl (gE (gRt (gr1 results226 rfl ⟨rfl, hm.below⟩))))))
  exact gcf rfl (gSk (gS (gR (gA rfl (gE (gRt (gr1 results226 rfl ⟨rfl, hm.below⟩)))))))

theorem laws_eqPhiS_ok (w0 : World) (a_ : List Phi_) (v1 : Value) (h1 : GT.rep (hp w0) [v1] a_) (b_ : List Phi_) (v2 : Value) (h2 : GT.rep (hp w0) [v2] b_) :
    ConM Tryz.prog 196 [v1, v2] w0 (laws_eqPhiS a_ b_) fun r v w' => v = (.bool (r)) ∧ Below w0.heap.size w0 w' := by
  unfold laws_eqPhiS
  refine gcon func196 rfl fun r => ?_
  have hm := Mem.start w0
  refine gS (gR (gA rfl (gE (gS (gS (gR (gM rfl ?_)))))))
  obtain ⟨p0_1, c0_1, rfl, hl0_1⟩ := ro_slice h1
  refine gY (yV st_58 rfl) (gM rfl ?_)
  obtain ⟨p0_2, c0_2, rfl, hl0_2⟩ := ro_slice h2
  refine gY (yV st_58 rfl) (gB rfl (gE (gsd 10 rfl (fun h0_1 => ?_) fun h0_1 => ?_)))
  ·
   exact gct rfl (gS (gR (gA rfl (gE (gRt (gr1 results196 rfl ⟨rfl, hm.below⟩))))))
  refine gcf rfl (gSk (gS (gS (gR (gA rfl (gE (gBk (gNf hm (fun i1_1 xs1_1 => [(0, (.slice p0_1 a_.length c0_1)), (1, (.slice p0_2 b_.length c0_2)), (5, (nV i1_1))]) (fun i1_1 xs1_1 => []) [] rfl ?_ ?_))))))))
  ·
   repeat clear hm
   intro r0_1 hq0_1 i1_1 xs1_1 w hm hi0_1 hi0_2 q0_1 ho0_1
   refine gS (gS (gR (gM rfl (gM rfl (gY (yV st_58 rfl) (gB rfl (gE (go _ 14 rfl (decide_eq_true (by omega)) (gct rfl (gSk (gS (gBk (gS (gW (.p 0 (.p 1 (.p 2 (.p 4 (.p 5 (.p 6 (.q 3 (.e 7 (.e 8 (.p 9 .fin) .nil) .nil)))))))) [7] [0, 1, 2, 4, 5, 6, 9] hm [] [] rfl mxo (by kernel_rfl) (fun _ _ _ h => h.2) fun w hm hS => tP rfl (fun w => yM rfl) (tP rfl (fun w => yM rfl) (gg fun x1_1 h1_1 hx1_2 => ?_))))))))))))))))
   obtain ⟨b1_1, o1_1, c1_1, he⟩ := idx_form' h1 hx1_2
   simp only [Value.slice.injEq, Option.some.injEq] at he; obtain ⟨rfl, _, rfl⟩ := he
   obtain ⟨v1_1, hc1_1, h1_2⟩ := rk_Phi_ h1 hx1_2
   refine tP rfl (fun w => yI st_58 h1_1 (idx_lt hx1_2) rfl) (tP rfl (fun w => yM rfl) (tP rfl (fun w => yM rfl) (gg fun x1_2 h1_3 hx1_4 => ?_)))
   obtain ⟨b1_2, o1_2, c1_2, he⟩ := idx_form' h2 hx1_4
   simp only [Value.slice.injEq, Option.some.injEq] at he; obtain ⟨rfl, _, rfl⟩ := he
   obtain ⟨v1_2, hc1_2, h1_4⟩ := rk_Phi_ h2 hx1_4
   refine tP rfl (fun w => yI st_58 h1_3 (idx_lt hx1_4) rfl) (tQ rfl hS (fun w hm => yn (hc1_1.mono hm.lez) isAgg86 sizeOf86 rfl) (tO (tY rfl (yn (hc1_2.mono hm.lez) isAgg86 sizeOf86 rfl) (tAs hS (tO (gb fun r1_1 hx1_5 => tf rfl rfl (fun a hf => e_call hf rfl call226 rfl (laws_eqPhi_ok _ x1_1 v1_1 (hm.now h1_2) x1_2 v1_2 (hm.now h1_4) _ hx1_5)) ?_))))))
   rintro v1_3 w ⟨rfl, hB⟩
   replace hm := hm.below' hB; clear hB
   refine tAn rfl (tP rfl (fun w => yN rfl) (tE (gsn 26 rfl (fun h1_5 => ?_) fun h1_5 => ?_)))
   ·
    exact gct rfl (gS (gR (gA rfl (gE (gRt (gLr ho0_1 hq0_1 (gr1 results196 rfl ⟨rfl, hm.below⟩)))))))
   exact gcf rfl (gSk (gR (gM rfl (gP (by omega) (by omega) rfl (gA rfl (gE (gze hm [] rfl)))))))
  repeat clear hm
  intro i0_1 xs0_1 w hm hi0_3 hi0_4
  exact gS (gS (gR (gM rfl (gM rfl (gY (yV st_58 rfl) (gB rfl (gE (go _ 14 rfl (decide_eq_false (by omega)) (gcf rfl (gXt (gHh (gS (gR (gA rfl (gE (gRt (gr1 results196 rfl ⟨rfl, hm.below⟩)))))))))))))))))

theorem laws_eqIns_ok (w0 : World) (a_ : Ins_) (v1 : Value) (h1 : GT.rep (hp w0) [v1] a_.args) (b_ : Ins_) (v2 : Value) (h2 : GT.rep (hp w0) [v2] b_.args) :
    ConM Tryz.prog 227 [(.agg #[(nV a_.op), (nV a_.to), v1, (nV a_.n_)]), (.agg #[(nV b_.op), (nV b_.to), v2, (nV b_.n_)])] w0 (laws_eqIns a_ b_) fun r v w' => v = (.bool (r)) ∧ Below w0.heap.size w0 w' := by
  unfold laws_eqIns
  refine gcon func227 rfl fun r => ?_
  have hm := Mem.start w0
  refine gS (gR (gBx hm rfl fun b0_1 w hm => gBx hm rfl fun b0_2 w hm => gA rfl (gE (gS (gS (gR (gF fo_89_0 rfl (gL hm 1 isAgg3 rfl (gF fo_89_0 rfl (gL hm 0 isAgg3 rfl (gB rfl (gE (gsd 9 rfl (fun h0_1 => ?_) fun h0_1 => ?_)))))))))))))
  ·
   exact gct rfl (gS (gR (gA rfl (gE (gRt (gr1 results227 rfl ⟨rfl, hm.below⟩))))))
  refine gcf rfl (gSk (gS (gS (gR (gF fo_89_1 rfl (gL hm 1 isAgg3 rfl (gF fo_89_1 rfl (gL hm 0 isAgg3 rfl (gB rfl (gE (gsd 14 rfl (fun h0_2 => ?_) fun h0_2 => ?_)))))))))))
  ·
   exact gct rfl (gS (gR (gA rfl (gE (gRt (gr1 results227 rfl ⟨rfl, hm.below⟩))))))
  refine gcf rfl (gSk (gS (gS (gR (gF fo_89_2 rfl (gL hm 1 isAgg47 rfl (gF fo_89_2 rfl (gL hm 0 isAgg47 rfl (gC hm rfl call198 (laws_eqIntS_ok _ a_.args v1 (hm.now h1) b_.args v2 (hm.now h2)) fun r0_1 hx0_1 w hm => gN rfl (gE (gsn 20 rfl (fun h0_3 => ?_) fun h0_3 => ?_)))))))))))
  ·
   exact gct rfl (gS (gR (gA rfl (gE (gRt (gr1 results227 rfl ⟨rfl, hm.below⟩))))))
  refine gcf rfl (gSk (gS (gS (gR (gF fo_89_3 rfl (gL hm 1 isAgg3 rfl (gF fo_89_3 rfl (gL hm 0 isAgg3 rfl (gB rfl (gE (gsd 25 rfl (fun h0_4 => ?_) fun h0_4 => ?_)))))))))))
  ·
   exact gct rfl (gS (gR (gA rfl (gE (gRt (gr1 results227 rfl ⟨rfl, hm.below⟩))))))
  exact gcf rfl (gSk (gS (gR (gA rfl (gE (gRt (gr1 results227 rfl ⟨rfl, hm.below⟩)))))))

theorem laws_eqInsS_ok (w0 : World) (a_ : List Ins_) (v1 : Value) (h1 : GT.rep (hp w0) [v1] a_) (b_ : List Ins_) (v2 : Value) (h2 : GT.rep (hp w0) [v2] b_) :
    ConM Tryz.prog 197 [v1, v2] w0 (laws_eqInsS a_ b_) fun r v w' => v = (.bool (r)) ∧ Below w0.heap.size w0 w' := by
  unfold laws_eqInsS
  refine gcon func197 rfl fun r => ?_
  have hm := Mem.start w0
  refine gS (gR (gA rfl (gE (gS (gS (gR (gM rfl ?_)))))))
  obtain ⟨p0_1, c0_1, rfl, hl0_1⟩ := ro_slice h1
  refine gY (yV st_59 rfl) (gM rfl ?_)
  obtain ⟨p0_2, c0_2, rfl, hl0_2⟩ := ro_slice h2
  refine gY (yV st_59 rfl) (gB rfl (gE (gsd 10 rfl (fun h0_1 => ?_) fun h0_1 => ?_)))
  ·
   exact gct rfl (gS (gR (gA rfl (gE (gRt (gr1 results197 rfl ⟨rfl, hm.below⟩))))))
  refine gcf rfl (gSk (gS (gS (gR (gA rfl (gE (gBk (gNf hm (fun i1_1 xs1_1 => [(0, (.slice p0_1 a_.length c0_1)), (1, (.slice p0_2 b_.length c0_2)), (5, (nV i1_1))]) (fun i1_1 xs1_1 => []) [] rfl ?_ ?_))))))))
  ·
   repeat clear hm
   intro r0_1 hq0_1 i1_1 xs1_1 w hm hi0_1 hi0_2 q0_1 ho0_1
   refine gS (gS (gR (gM rfl (gM rfl (gY (yV st_59 rfl) (gB rfl (gE (go _ 14 rfl (decide_eq_true (by omega)) (gct rfl (gSk (gS (gBk (gS (gW (.p 0 (.p 1 (.p 2 (.p 4 (.p 5 (.p 6 (.q 3 (.e 7 (.e 8 (.p 9 .fin) .nil) .nil)))))))) [7] [0, 1, 2, 4, 5, 6, 9] hm [] [] rfl mxo (by kernel_rfl) (fun _ _ _ h => h.2) fun w hm hS => tP rfl (fun w => yM rfl) (tP rfl (fun w => yM rfl) (gg fun x1_1 h1_1 hx1_2 => ?_))))))))))))))))
   obtain ⟨b1_1, o1_1, c1_1, he⟩ := idx_form' h1 hx1_2
   simp only [Value.slice.injEq, Option.some.injEq] at he; obtain ⟨rfl, _, rfl⟩ := he
   obtain ⟨v1_1, hc1_1, h1_2⟩ := rk_Ins_ h1 hx1_2
   refine tP rfl (fun w => yI st_59 h1_1 (idx_lt hx1_2) rfl) (tP rfl (fun w => yM rfl) (tP rfl (fun w => yM rfl) (gg fun x1_2 h1_3 hx1_4 => ?_)))
   obtain ⟨b1_2, o1_2, c1_2, he⟩ := idx_form' h2 hx1_4
   simp only [Value.slice.injEq, Option.some.injEq] at he; obtain ⟨rfl, _, rfl⟩ := he
   obtain ⟨v1_2, hc1_2, h1_4⟩ := rk_Ins_ h2 hx1_4
   refine tP rfl (fun w => yI st_59 h1_3 (idx_lt hx1_4) rfl) (tQ rfl hS (fun w hm => yn (hc1_1.mono hm.lez) isAgg89 sizeOf89 rfl) (tO (tY rfl (yn (hc1_2.mono hm.lez) isAgg89 sizeOf89 rfl) (tAs hS (tO (gb fun r1_1 hx1_5 => tf rfl rfl (fun a hf => e_call hf rfl call227 rfl (laws_eqIns_ok _ x1_1 v1_1 (hm.now h1_2) x1_2 v1_2 (hm.now h1_4) _ hx1_5)) ?_))))))
   rintro v1_3 w ⟨rfl, hB⟩
   replace hm := hm.below' hB; clear hB
   refine tAn rfl (tP rfl (fun w => yN rfl) (tE (gsn 26 rfl (fun h1_5 => ?_) fun h1_5 => ?_)))
   ·
    exact gct rfl (gS (gR (gA rfl (gE (gRt (gLr ho0_1 hq0_1 (gr1 results197 rfl ⟨rfl, hm.below⟩)))))))
   exact gcf rfl (gSk (gR (gM rfl (gP (by omega) (by omega) rfl (gA rfl (gE (gze hm [] rfl)))))))
  repeat clear hm
  intro i0_1 xs0_1 w hm hi0_3 hi0_4
  exact gS (gS (gR (gM rfl (gM rfl (gY (yV st_59 rfl) (gB rfl (gE (go _ 14 rfl (decide_eq_false (by omega)) (gcf rfl (gXt (gHh (gS (gR (gA rfl (gE (gRt (gr1 results197 rfl ⟨rfl, hm.below⟩)))))))))))))))))

theorem laws_eqBlock_ok (w0 : World) (a_ : Block_) (v1 : Value) (h1 : GT.rep (hp w0) [v1] a_.phis) (v2 : Value) (h2 : GT.rep (hp w0) [v2] a_.ins) (v3 : Value) (h3 : GT.rep (hp w0) [v3] a_.next_) (b_ : Block_) (v4 : Value) (h4 : GT.rep (hp w0) [v4] b_.phis) (v5 : Value) (h5 : GT.rep (hp w0) [v5] b_.ins) (v6 : Value) (h6 : GT.rep (hp w0) [v6] b_.next_) :
    ConM Tryz.prog 160 [(.agg #[v1, v2, (nV a_.jump), (nV a_.on), v3]), (.agg #[v4, v5, (nV b_.jump), (nV b_.on), v6])] w0 (laws_eqBlock a_ b_) fun r v w' => v = (.bool (r)) ∧ Below w0.heap.size w0 w' := by
  unfold laws_eqBlock
  refine gcon func160 rfl fun r => ?_
  have hm := Mem.start w0
  refine gS (gR (gBx hm rfl fun b0_1 w hm => gBx hm rfl fun b0_2 w hm => gA rfl (gE (gS (gS (gR (gF fo_61_0 rfl (gL hm 1 isAgg58 rfl (gF fo_61_0 rfl (gL hm 0 isAgg58 rfl (gC hm rfl call196 (laws_eqPhiS_ok _ a_.phis v1 (hm.now h1) b_.phis v4 (hm.now h4)) fun r0_1 hx0_1 w hm => gN rfl (gE (gsn 10 rfl (fun h0_1 => ?_) fun h0_1 => ?_)))))))))))))
  ·
   exact gct rfl (gS (gR (gA rfl (gE (gRt (gr1 results160 rfl ⟨rfl, hm.below⟩))))))
  refine gcf rfl (gSk (gS (gS (gR (gF fo_61_1 rfl (gL hm 1 isAgg59 rfl (gF fo_61_1 rfl (gL hm 0 isAgg59 rfl (gC hm rfl call197 (laws_eqInsS_ok _ a_.ins v2 (hm.now h2) b_.ins v5 (hm.now h5)) fun r0_2 hx0_2 w hm => gN rfl (gE (gsn 16 rfl (fun h0_2 => ?_) fun h0_2 => ?_)))))))))))
  ·
   exact gct rfl (gS (gR (gA rfl (gE (gRt (gr1 results160 rfl ⟨rfl, hm.below⟩))))))
  refine gcf rfl (gSk (gS (gS (gR (gF fo_61_2 rfl (gL hm 1 isAgg3 rfl (gF fo_61_2 rfl (gL hm 0 isAgg3 rfl (gB rfl (gE (gsd 21 rfl (fun h0_3 => ?_) fun h0_3 => ?_)))))))))))
  ·
   exact gct rfl (gS (gR (gA rfl (gE (gRt (gr1 results160 rfl ⟨rfl, hm.below⟩))))))
  refine gcf rfl (gSk (gS (gS (gR (gF fo_61_3 rfl (gL hm 1 isAgg3 rfl (gF fo_61_3 rfl (gL hm 0 isAgg3 rfl (gB rfl (gE (gsd 26 rfl (fun h0_4 => ?_) fun h0_4 => ?_)))))))))))
  ·
   exact gct rfl (gS (gR (gA rfl (gE (gRt (gr1 results160 rfl ⟨rfl, hm.below⟩))))))
  refine gcf rfl (gSk (gS (gS (gR (gF fo_61_4 rfl (gL hm 1 isAgg47 rfl (gF fo_61_4 rfl (gL hm 0 isAgg47 rfl (gC hm rfl call198 (laws_eqIntS_ok _ a_.next_ v3 (hm.now h3) b_.next_ v6 (hm.now h6)) fun r0_3 hx0_3 w hm => gN rfl (gE (gsn 32 rfl (fun h0_5 => ?_) fun h0_5 => ?_)))))))))))
  ·
   exact gct rfl (gS (gR (gA rfl (gE (gRt (gr1 results160 rfl ⟨rfl, hm.below⟩))))))
  exact gcf rfl (gSk (gS (gR (gA rfl (gE (gRt (gr1 results160 rfl ⟨rfl, hm.below⟩)))))))

theorem laws_eqBlockS_ok (w0 : World) (a_ : List Block_) (v1 : Value) (h1 : GT.rep (hp w0) [v1] a_) (b_ : List Block_) (v2 : Value) (h2 : GT.rep (hp w0) [v2] b_) :
    ConM Tryz.prog 94 [v1, v2] w0 (laws_eqBlockS a_ b_) fun r v w' => v = (.bool (r)) ∧ Below w0.heap.size w0 w' := by
  unfold laws_eqBlockS
  refine gcon func94 rfl fun r => ?_
  have hm := Mem.start w0
  refine gS (gR (gA rfl (gE (gS (gS (gR (gM rfl ?_)))))))
  obtain ⟨p0_1, c0_1, rfl, hl0_1⟩ := ro_slice h1
  refine gY (yV st_43 rfl) (gM rfl ?_)
  obtain ⟨p0_2, c0_2, rfl, hl0_2⟩ := ro_slice h2
  refine gY (yV st_43 rfl) (gB rfl (gE (gsd 10 rfl (fun h0_1 => ?_) fun h0_1 => ?_)))
  ·
   exact gct rfl (gS (gR (gA rfl (gE (gRt (gr1 results94 rfl ⟨rfl, hm.below⟩))))))
  refine gcf rfl (gSk (gS (gS (gR (gA rfl (gE (gBk (gNf hm (fun i1_1 xs1_1 => [(0, (.slice p0_1 a_.length c0_1)), (1, (.slice p0_2 b_.length c0_2)), (5, (nV i1_1))]) (fun i1_1 xs1_1 => []) [] rfl ?_ ?_))))))))
  ·
   repeat clear hm
   intro r0_1 hq0_1 i1_1 xs1_1 w hm hi0_1 hi0_2 q0_1 ho0_1
   refine gS (gS (gR (gM rfl (gM rfl (gY (yV st_43 rfl) (gB rfl (gE (go _ 14 rfl (decide_eq_true (by omega)) (gct rfl (gSk (gS (gBk (gS (gW (.p 0 (.p 1 (.p 2 (.p 4 (.p 5 (.p 6 (.q 3 (.e 7 (.e 8 (.p 9 .fin) .nil) .nil)))))))) [7] [0, 1, 2, 4, 5, 6, 9] hm [] [] rfl mxo (by kernel_rfl) (fun _ _ _ h => h.2) fun w hm hS => tP rfl (fun w => yM rfl) (tP rfl (fun w => yM rfl) (gg fun x1_1 h1_1 hx1_2 => ?_))))))))))))))))
   obtain ⟨b1_1, o1_1, c1_1, he⟩ := idx_form' h1 hx1_2
   simp only [Value.slice.injEq, Option.some.injEq] at he; obtain ⟨rfl, _, rfl⟩ := he
   obtain ⟨v1_1, v1_2, v1_3, hc1_1, h1_2, h1_3, h1_4⟩ := rk_Block_ h1 hx1_2
   refine tP rfl (fun w => yI st_43 h1_1 (idx_lt hx1_2) rfl) (tP rfl (fun w => yM rfl) (tP rfl (fun w => yM rfl) (gg fun x1_2 h1_5 hx1_4 => ?_)))
   obtain ⟨b1_2, o1_2, c1_2, he⟩ := idx_form' h2 hx1_4
   simp only [Value.slice.injEq, Option.some.injEq] at he; obtain ⟨rfl, _, rfl⟩ := he
   obtain ⟨v1_4, v1_5, v1_6, hc1_2, h1_6, h1_7, h1_8⟩ := rk_Block_ h2 hx1_4
   refine tP rfl (fun w => yI st_43 h1_5 (idx_lt hx1_4) rfl) (tQ rfl hS (fun w hm => yn (hc1_1.mono hm.lez) isAgg61 sizeOf61 rfl) (tO (tY rfl (yn (hc1_2.mono hm.lez) isAgg61 sizeOf61 rfl) (tAs hS (tO (gb fun r1_1 hx1_5 => tf rfl rfl (fun a hf => e_call hf rfl call160 rfl (laws_eqBlock_ok _ x1_1 v1_1 (hm.now h1_2) v1_2 (hm.now h1_3) v1_3 (hm.now h1_4) x1_2 v1_4 (hm.now h1_6) v1_5 (hm.now h1_7) v1_6 (hm.now h1_8) _ hx1_5)) ?_))))))
   rintro v1_7 w ⟨rfl, hB⟩
   replace hm := hm.below' hB; clear hB
   refine tAn rfl (tP rfl (fun w => yN rfl) (tE (gsn 26 rfl (fun h1_9 => ?_) fun h1_9 => ?_)))
   ·
    exact gct rfl (gS (gR (gA rfl (gE (gRt (gLr ho0_1 hq0_1 (gr1 results94 rfl ⟨rfl, hm.below⟩)))))))
   exact gcf rfl (gSk (gR (gM rfl (gP (by omega) (by omega) rfl (gA rfl (gE (gze hm [] rfl)))))))
  repeat clear hm
  intro i0_1 xs0_1 w hm hi0_3 hi0_4
  exact gS (gS (gR (gM rfl (gM rfl (gY (yV st_43 rfl) (gB rfl (gE (go _ 14 rfl (decide_eq_false (by omega)) (gcf rfl (gXt (gHh (gS (gR (gA rfl (gE (gRt (gr1 results94 rfl ⟨rfl, hm.below⟩)))))))))))))))))

theorem laws_eqCode_ok (w0 : World) (a_ : Code_) (v1 : Value) (h1 : GT.rep (hp w0) [v1] a_.blocks) (b_ : Code_) (v2 : Value) (h2 : GT.rep (hp w0) [v2] b_.blocks) :
    ConM Tryz.prog 53 [(.agg #[(nV a_.params), (nV a_.regs), v1]), (.agg #[(nV b_.params), (nV b_.regs), v2])] w0 (laws_eqCode a_ b_) fun r v w' => v = (.bool (r)) ∧ Below w0.heap.size w0 w' := by
  unfold laws_eqCode
  refine gcon func53 rfl fun r => ?_
  have hm := Mem.start w0
  refine gS (gR (gBx hm rfl fun b0_1 w hm => gBx hm rfl fun b0_2 w hm => gA rfl (gE (gS (gS (gR (gF fo_45_0 rfl (gL hm 1 isAgg3 rfl (gF fo_45_0 rfl (gL hm 0 isAgg3 rfl (gB rfl (gE (gsd 9 rfl (fun h0_1 => ?_) fun h0_1 => ?_)))))))))))))
  ·
   exact gct rfl (gS (gR (gA rfl (gE (gRt (gr1 results53 rfl ⟨rfl, hm.below⟩))))))
  refine gcf rfl (gSk (gS (gS (gR (gF fo_45_1 rfl (gL hm 1 isAgg3 rfl (gF fo_45_1 rfl (gL hm 0 isAgg3 rfl (gB rfl (gE (gsd 14 rfl (fun h0_2 => ?_) fun h0_2 => ?_)))))))))))
  ·
   exact gct rfl (gS (gR (gA rfl (gE (gRt (gr1 results53 rfl ⟨rfl, hm.below⟩))))))
  refine gcf rfl (gSk (gS (gS (gR (gF fo_45_2 rfl (gL hm 1 isAgg43 rfl (gF fo_45_2 rfl (gL hm 0 isAgg43 rfl (gC hm rfl call94 (laws_eqBlockS_ok _ a_.blocks v1 (hm.now h1) b_.blocks v2 (hm.now h2)) fun r0_1 hx0_1 w hm => gN rfl (gE (gsn 20 rfl (fun h0_3 => ?_) fun h0_3 => ?_)))))))))))
  ·
   exact gct rfl (gS (gR (gA rfl (gE (gRt (gr1 results53 rfl ⟨rfl, hm.below⟩))))))
  exact gcf rfl (gSk (gS (gR (gA rfl (gE (gRt (gr1 results53 rfl ⟨rfl, hm.below⟩)))))))

theorem laws_eqCodeS_ok (w0 : World) (a_ : List Code_) (v1 : Value) (h1 : GT.rep (hp w0) [v1] a_) (b_ : List Code_) (v2 : Value) (h2 : GT.rep (hp w0) [v2] b_) :
    ConM Tryz.prog 34 [v1, v2] w0 (laws_eqCodeS a_ b_) fun r v w' => v = (.bool (r)) ∧ Below w0.heap.size w0 w' := by
  unfold laws_eqCodeS
  refine gcon func34 rfl fun r => ?_
  have hm := Mem.start w0
  refine gS (gR (gA rfl (gE (gS (gS (gR (gM rfl ?_)))))))
  obtain ⟨p0_1, c0_1, rfl, hl0_1⟩ := ro_slice h1
  refine gY (yV st_26 rfl) (gM rfl ?_)
  obtain ⟨p0_2, c0_2, rfl, hl0_2⟩ := ro_slice h2
  refine gY (yV st_26 rfl) (gB rfl (gE (gsd 10 rfl (fun h0_1 => ?_) fun h0_1 => ?_)))
  ·
   exact gct rfl (gS (gR (gA rfl (gE (gRt (gr1 results34 rfl ⟨rfl, hm.below⟩))))))
  refine gcf rfl (gSk (gS (gS (gR (gA rfl (gE (gBk (gNf hm (fun i1_1 xs1_1 => [(0, (.slice p0_1 a_.length c0_1)), (1, (.slice p0_2 b_.length c0_2)), (5, (nV i1_1))]) (fun i1_1 xs1_1 => []) [] rfl ?_ ?_))))))))
  ·
   repeat clear hm
   intro r0_1 hq0_1 i1_1 xs1_1 w hm hi0_1 hi0_2 q0_1 ho0_1
   refine gS (gS (gR (gM rfl (gM rfl (gY (yV st_26 rfl) (gB rfl (gE (go _ 14 rfl (decide_eq_true (by omega)) (gct rfl (gSk (gS (gBk (gS (gW (.p 0 (.p 1 (.p 2 (.p 4 (.p 5 (.p 6 (.q 3 (.e 7 (.e 8 (.p 9 .fin) .nil) .nil)))))))) [7] [0, 1, 2, 4, 5, 6, 9] hm [] [] rfl mxo (by kernel_rfl) (fun _ _ _ h => h.2) fun w hm hS => tP rfl (fun w => yM rfl) (tP rfl (fun w => yM rfl) (gg fun x1_1 h1_1 hx1_2 => ?_))))))))))))))))
   obtain ⟨b1_1, o1_1, c1_1, he⟩ := idx_form' h1 hx1_2
   simp only [Value.slice.injEq, Option.some.injEq] at he; obtain ⟨rfl, _, rfl⟩ := he
   obtain ⟨v1_1, hc1_1, h1_2⟩ := rk_Code_ h1 hx1_2
   refine tP rfl (fun w => yI st_26 h1_1 (idx_lt hx1_2) rfl) (tP rfl (fun w => yM rfl) (tP rfl (fun w => yM rfl) (gg fun x1_2 h1_3 hx1_4 => ?_)))
   obtain ⟨b1_2, o1_2, c1_2, he⟩ := idx_form' h2 hx1_4
   simp only [Value.slice.injEq, Option.some.injEq] at he; obtain ⟨rfl, _, rfl⟩ := he
   obtain ⟨v1_2, hc1_2, h1_4⟩ := rk_Code_ h2 hx1_4
   refine tP rfl (fun w => yI st_26 h1_3 (idx_lt hx1_4) rfl) (tQ rfl hS (fun w hm => yn (hc1_1.mono hm.lez) isAgg45 sizeOf45 rfl) (tO (tY rfl (yn (hc1_2.mono hm.lez) isAgg45 sizeOf45 rfl) (tAs hS (tO (gb fun r1_1 hx1_5 => tf rfl rfl (fun a hf => e_call hf rfl call53 rfl (laws_eqCode_ok _ x1_1 v1_1 (hm.now h1_2) x1_2 v1_2 (hm.now h1_4) _ hx1_5)) ?_))))))
   rintro v1_3 w ⟨rfl, hB⟩
   replace hm := hm.below' hB; clear hB
   refine tAn rfl (tP rfl (fun w => yN rfl) (tE (gsn 26 rfl (fun h1_5 => ?_) fun h1_5 => ?_)))
   ·
    exact gct rfl (gS (gR (gA rfl (gE (gRt (gLr ho0_1 hq0_1 (gr1 results34 rfl ⟨rfl, hm.below⟩)))))))
   exact gcf rfl (gSk (gR (gM rfl (gP (by omega) (by omega) rfl (gA rfl (gE (gze hm [] rfl)))))))
  repeat clear hm
  intro i0_1 xs0_1 w hm hi0_3 hi0_4
  exact gS (gS (gR (gM rfl (gM rfl (gY (yV st_26 rfl) (gB rfl (gE (go _ 14 rfl (decide_eq_false (by omega)) (gcf rfl (gXt (gHh (gS (gR (gA rfl (gE (gRt (gr1 results34 rfl ⟨rfl, hm.below⟩)))))))))))))))))

theorem laws_eqUnit_ok (w0 : World) (a_ : Unit_) (v1 : Value) (h1 : GT.rep (hp w0) [v1] a_.codes) (b_ : Unit_) (v2 : Value) (h2 : GT.rep (hp w0) [v2] b_.codes) :
    ConM Tryz.prog 14 [(.agg #[v1]), (.agg #[v2])] w0 (laws_eqUnit a_ b_) fun r v w' => v = (.bool (r)) ∧ Below w0.heap.size w0 w' := by
  unfold laws_eqUnit
  refine gcon func14 rfl fun r => ?_
  have hm := Mem.start w0
  refine gS (gR (gBx hm rfl fun b0_1 w hm => gBx hm rfl fun b0_2 w hm => gA rfl (gE (gS (gS (gR (gF fo_28_0 rfl (gL hm 1 isAgg26 rfl (gF fo_28_0 rfl (gL hm 0 isAgg26 rfl (gC hm rfl call34 (laws_eqCodeS_ok _ a_.codes v1 (hm.now h1) b_.codes v2 (hm.now h2)) fun r0_1 hx0_1 w hm => gN rfl (gE (gsn 10 rfl (fun h0_1 => ?_) fun h0_1 => ?_)))))))))))))
  ·
   exact gct rfl (gS (gR (gA rfl (gE (gRt (gr1 results14 rfl ⟨rfl, hm.below⟩))))))
  exact gcf rfl (gSk (gS (gR (gA rfl (gE (gRt (gr1 results14 rfl ⟨rfl, hm.below⟩)))))))

theorem laws_markIntS_ok (w0 : World) (hz : Heap) (a_ : List Int) (v1 : Value) (k_ : Int) (hm0 : Mem w0 hz w0 [ow [v1] a_]) :
    ConM Tryz.prog 97 [v1, (nV k_)] w0 (laws_markIntS a_ k_) fun r v w' => v = (nV r.1) ∧ Mem w0 hz w' [ow [v1] r.2] := by
  unfold laws_markIntS
  refine gcon func97 rfl fun r => ?_
  have hm := hm0
  refine gS (gR (gA rfl (gE (gS (gS (gR (gA rfl (gE ?_))))))))
  obtain ⟨p0_1, c0_1, rfl, hl0_1⟩ := ro_slice (hm.ow_rep 0 rfl)
  refine gBk (gNf hm (fun i1_1 xs1_1 => [(0, (.slice p0_1 a_.length c0_1)), (1, (nV xs1_1.2)), (5, (nV i1_1))]) (fun i1_1 xs1_1 => [ow [(.slice p0_1 a_.length c0_1)] xs1_1.1]) [0] rfl ?_ ?_)
  ·
   repeat clear hm
   intro _ _ i1_1 xs1_1 w hm hi0_1 hi0_2 q0_1 _
   refine gS (gS (gR (gM rfl (gM rfl ?_))))
   have hl1_1 := rep_len (hm.ow_rep 0 rfl)
   refine gY (yV st_47 rfl) (gB rfl (gE (go _ 9 rfl (decide_eq_true (by omega)) (gct rfl (gSk (gS (gBk (gS (gR (gM rfl (gM rfl (gM rfl (gg fun x1_1 h1_1 hx1_2 => ?_)))))))))))))
   obtain ⟨b1_1, o1_1, c1_1, he⟩ := idx_form (hm.ow_rep 0 rfl) hx1_2
   simp only [Value.slice.injEq, Option.some.injEq] at he; obtain ⟨rfl, _, rfl⟩ := he
   have hL1_1 := rep_slice_len (hm.ow_rep 0 rfl)
   refine gI st_47 h1_1 (idx_lt2 hx1_2 hL1_1) rfl (gf0 rfl (fun a hf => e_setElem (x1 := xs1_1.2) (j := 0) (vs := [(nV xs1_1.2)]) 0 hf hm rfl hx1_2 rfl sizeOf3 rfl rfl rfl (one_cons rfl one_nil) rfl rfl) ?_)
   rintro _ w hm
   have hx1_3 := List.getElem?_set_self (a := xs1_1.2) (idx_lt hx1_2)
   exact gE (gR (gM rfl (gB rfl (gA rfl (gE (gR (gM rfl (gP (by omega) (by omega) rfl (gA rfl (gE (gze hm [0] rfl)))))))))))
  repeat clear hm
  intro i0_1 xs0_1 w hm hi0_3 hi0_4
  refine gS (gS (gR (gM rfl (gM rfl ?_))))
  have hl0_2 := rep_len (hm.ow_rep 0 rfl)
  exact gY (yV st_47 rfl) (gB rfl (gE (go _ 9 rfl (decide_eq_false (by omega)) (gcf rfl (gXt (gHh (gS (gR (gM rfl (gA rfl (gE (gRt (gr1 results97 rfl ⟨rfl, hm.pk [0] rfl rfl⟩)))))))))))))

theorem laws_markPhiS_ok (w0 : World) (hz : Heap) (a_ : List Phi_) (v1 : Value) (k_ : Int) (hm0 : Mem w0 hz w0 [ow [v1] a_]) :
    ConM Tryz.prog 95 [v1, (nV k_)] w0 (laws_markPhiS a_ k_) fun r v w' => v = (nV r.1) ∧ Mem w0 hz w' [ow [v1] r.2] := by
  unfold laws_markPhiS
  refine gcon func95 rfl fun r => ?_
  have hm := hm0
  refine gS (gR (gA rfl (gE (gS (gS (gR (gA rfl (gE ?_))))))))
  obtain ⟨p0_1, c0_1, rfl, hl0_1⟩ := ro_slice (hm.ow_rep 0 rfl)
  refine gBk (gNf hm (fun i1_1 xs1_1 => [(0, (.slice p0_1 a_.length c0_1)), (1, (nV xs1_1.2)), (5, (nV i1_1))]) (fun i1_1 xs1_1 => [ow [(.slice p0_1 a_.length c0_1)] xs1_1.1]) [0] rfl ?_ ?_)
  ·
   repeat clear hm
   intro _ _ i1_1 xs1_1 w hm hi0_1 hi0_2 q0_1 _
   refine gS (gS (gR (gM rfl (gM rfl ?_))))
   have hl1_1 := rep_len (hm.ow_rep 0 rfl)
   refine gY (yV st_58 rfl) (gB rfl (gE (go _ 9 rfl (decide_eq_true (by omega)) (gct rfl (gSk (gS (gBk (gS (gR (gM rfl (gM rfl (gM rfl (gg fun x1_1 h1_1 hx1_2 => ?_)))))))))))))
   obtain ⟨b1_1, o1_1, c1_1, he⟩ := idx_form' (hm.ow_rep 0 rfl) hx1_2
   simp only [Value.slice.injEq, Option.some.injEq] at he; obtain ⟨rfl, _, rfl⟩ := he
   obtain ⟨v1_1, hc1_1, h1_2⟩ := rk_Phi_ (hm.ow_rep 0 rfl) hx1_2
   have hL1_1 := rep_slice_len (hm.ow_rep 0 rfl)
   refine gI st_58 h1_1 (idx_lt2 hx1_2 hL1_1) rfl (gF fo_86_0 rfl (gf0 rfl (fun a hf => e_setElemR (x1 := ((⟨xs1_1.2, x1_1.args⟩ : Phi_) : Phi_)) (j := 0) (vs := [(nV xs1_1.2)]) 0 hf hm rfl hx1_2 hc1_1 rfl (fun F h ho => (fun _ => own_fst_map (α := Int) (β := (List Int)) (cs := [(nV x1_1.to)]) (cs' := [(nV xs1_1.2)]) (ds := [v1_1]) rfl (fun _ _ => Flat.own_iff.2 rfl)) F ho) rfl sizeOf3 rfl rfl rfl (one_cons rfl one_nil) rfl) ?_))
   rintro _ w hm
   have hx1_3 := List.getElem?_set_self (a := ((⟨xs1_1.2, x1_1.args⟩ : Phi_) : Phi_)) (idx_lt hx1_2)
   refine gE (gS (gR (gM rfl (gB rfl (gA rfl (gE (gR (gM rfl (gM rfl ?_)))))))))
   obtain ⟨_, _, hc1_2, hr1_1⟩ := ro_get' (hm.ow_rep 0 rfl) hx1_3
   obtain ⟨_, _, rfl, rfl, h1_3⟩ := hr1_1
   obtain ⟨v1_2, rfl, -⟩ := id h1_3
   replace h1_3 : GT.rep (hp _) [v1_2] x1_1.args := h1_3
   replace hc1_2 : CellsAt (hp _) b1_1 (o1_1 + (i1_1).toNat * 2) [(nV xs1_1.2), v1_2] := hc1_2
   have hL1_2 := rep_slice_len (hm.ow_rep 0 rfl)
   refine gI st_58 h1_1 (idx_lt2 hx1_3 hL1_2) rfl (gF fo_86_1 rfl (gY (yl isAgg47 (hc1_2.cell (j := 1) rfl) rfl) (gM rfl ?_)))
   replace hm : Mem w0 hz _ [ow [v1_2] x1_1.args, hole [(sV b1_1 o1_1 a_.length c0_1)] [v1_2] (fun (y : List Int) => ((xs1_1.1.set (i1_1).toNat (⟨xs1_1.2, x1_1.args⟩ : Phi_)) : List Phi_).set (i1_1).toNat (⟨xs1_1.2, y⟩ : Phi_))] := hm.open 0 rfl (foc_elem hx1_3 hc1_2 rfl (show FocH (α := Phi_) _ _ (⟨xs1_1.2, x1_1.args⟩ : Phi_) [v1_2] x1_1.args (fun y => (⟨xs1_1.2, y⟩ : Phi_)) from (foc_snd (α := Int) (β := (List Int)) (cs := [(nV xs1_1.2)]) (ds := [v1_2]) (v := [v1_2]) (inner := x1_1.args) (x := x1_1.args) (z := xs1_1.2) (put := fun (y : List Int) => y) rfl (foc_id [v1_2] x1_1.args))))
   obtain ⟨hz1_1, hle, hm1, hsub, hk1_1⟩ := hm.take2 (L1 := [ow [v1_2] x1_1.args]) (L2 := [hole [(sV b1_1 o1_1 a_.length c0_1)] [v1_2] (fun (y : List Int) => ((xs1_1.1.set (i1_1).toNat (⟨xs1_1.2, x1_1.args⟩ : Phi_)) : List Phi_).set (i1_1).toNat (⟨xs1_1.2, y⟩ : Phi_))]) [0] [1] (by decide) rfl rfl
   refine gCg rfl call97 (laws_markIntS_ok _ hz1_1 x1_1.args v1_2 (w64 (xs1_1.2 + 1)) hm1 ) ?_
   rintro r1_1 hx1_4 v1_3 w ⟨rfl, hB⟩
   replace hm := hk1_1 _ _ hB; clear hB
   replace hm := (hm.shut 1 0 (by decide) rfl rfl).pk (L' := [ow [(sV b1_1 o1_1 a_.length c0_1)] ((xs1_1.1.set (i1_1).toNat (⟨xs1_1.2, x1_1.args⟩ : Phi_)).set (i1_1).toNat (⟨xs1_1.2, r1_1.2⟩ : Phi_))]) [1] rfl rfl
   exact gA rfl (gE (gR (gM rfl (gP (by omega) (by omega) rfl (gA rfl (gE (gze hm [0] rfl)))))))
  repeat clear hm
  intro i0_1 xs0_1 w hm hi0_3 hi0_4
  refine gS (gS (gR (gM rfl (gM rfl ?_))))
  have hl0_2 := rep_len (hm.ow_rep 0 rfl)
  exact gY (yV st_58 rfl) (gB rfl (gE (go _ 9 rfl (decide_eq_false (by omega)) (gcf rfl (gXt (gHh (gS (gR (gM rfl (gA rfl (gE (gRt (gr1 results95 rfl ⟨rfl, hm.pk [0] rfl rfl⟩)))))))))))))

theorem laws_markInsS_ok (w0 : World) (hz : Heap) (a_ : List Ins_) (v1 : Value) (k_ : Int) (hm0 : Mem w0 hz w0 [ow [v1] a_]) :
    ConM Tryz.prog 96 [v1, (nV k_)] w0 (laws_markInsS a_ k_) fun r v w' => v = (nV r.1) ∧ Mem w0 hz w' [ow [v1] r.2] := by
  unfold laws_markInsS
  refine gcon func96 rfl fun r => ?_
  have hm := hm0
  refine gS (gR (gA rfl (gE (gS (gS (gR (gA rfl (gE ?_))))))))
  obtain ⟨p0_1, c0_1, rfl, hl0_1⟩ := ro_slice (hm.ow_rep 0 rfl)
  refine gBk (gNf hm (fun i1_1 xs1_1 => [(0, (.slice p0_1 a_.length c0_1)), (1, (nV xs1_1.2)), (5, (nV i1_1))]) (fun i1_1 xs1_1 => [ow [(.slice p0_1 a_.length c0_1)] xs1_1.1]) [0] rfl ?_ ?_)
  ·
   repeat clear hm
   intro _ _ i1_1 xs1_1 w hm hi0_1 hi0_2 q0_1 _
   refine gS (gS (gR (gM rfl (gM rfl ?_))))
   have hl1_1 := rep_len (hm.ow_rep 0 rfl)
   refine gY (yV st_59 rfl) (gB rfl (gE (go _ 9 rfl (decide_eq_true (by omega)) (gct rfl (gSk (gS (gBk (gS (gR (gM rfl (gM rfl (gM rfl (gg fun x1_1 h1_1 hx1_2 => ?_)))))))))))))
   obtain ⟨b1_1, o1_1, c1_1, he⟩ := idx_form' (hm.ow_rep 0 rfl) hx1_2
   simp only [Value.slice.injEq, Option.some.injEq] at he; obtain ⟨rfl, _, rfl⟩ := he
   obtain ⟨v1_1, hc1_1, h1_2⟩ := rk_Ins_ (hm.ow_rep 0 rfl) hx1_2
   have hL1_1 := rep_slice_len (hm.ow_rep 0 rfl)
   refine gI st_59 h1_1 (idx_lt2 hx1_2 hL1_1) rfl (gF fo_89_0 rfl (gf0 rfl (fun a hf => e_setElemR (x1 := ((⟨xs1_1.2, x1_1.to, x1_1.args, x1_1.n_⟩ : Ins_) : Ins_)) (j := 0) (vs := [(nV xs1_1.2)]) 0 hf hm rfl hx1_2 hc1_1 rfl (fun F h ho => (fun _ => own_fst_map (α := Int) (β := Int × (List Int) × Int) (cs := [(nV x1_1.op)]) (cs' := [(nV xs1_1.2)]) (ds := [(nV x1_1.to), v1_1, (nV x1_1.n_)]) rfl (fun _ _ => Flat.own_iff.2 rfl)) F ho) rfl sizeOf3 rfl rfl rfl (one_cons rfl one_nil) rfl) ?_))
   rintro _ w hm
   have hx1_3 := List.getElem?_set_self (a := ((⟨xs1_1.2, x1_1.to, x1_1.args, x1_1.n_⟩ : Ins_) : Ins_)) (idx_lt hx1_2)
   refine gE (gS (gR (gM rfl (gB rfl (gA rfl (gE (gS (gR (gM rfl (gM rfl (gM rfl ?_)))))))))))
   obtain ⟨_, _, hc1_2, hr1_1⟩ := ro_get' (hm.ow_rep 0 rfl) hx1_3
   obtain ⟨_, _, rfl, rfl, _, _, rfl, rfl, _, _, rfl, h1_3, rfl⟩ := hr1_1
   obtain ⟨v1_2, rfl, -⟩ := id h1_3
   replace h1_3 : GT.rep (hp _) [v1_2] x1_1.args := h1_3
   replace hc1_2 : CellsAt (hp _) b1_1 (o1_1 + (i1_1).toNat * 4) [(nV xs1_1.2), (nV x1_1.to), v1_2, (nV x1_1.n_)] := hc1_2
   have hL1_2 := rep_slice_len (hm.ow_rep 0 rfl)
   refine gI st_59 h1_1 (idx_lt2 hx1_3 hL1_2) rfl (gF fo_89_1 rfl (gf0 rfl (fun a hf => e_setElemR (x1 := ((⟨xs1_1.2, w64 (xs1_1.2 + 1), x1_1.args, x1_1.n_⟩ : Ins_) : Ins_)) (j := 1) (vs := [(nV (w64 (xs1_1.2 + 1)))]) 0 hf hm rfl hx1_3 hc1_2 rfl (fun F h ho => (fun _ => own_snd_map (α := Int) (β := Int × (List Int) × Int) (cs := [(nV xs1_1.2)]) (ds := [(nV x1_1.to), v1_2, (nV x1_1.n_)]) (ds' := [(nV (w64 (xs1_1.2 + 1))), v1_2, (nV x1_1.n_)]) rfl (fun _ => own_fst_map (α := Int) (β := (List Int) × Int) (cs := [(nV x1_1.to)]) (cs' := [(nV (w64 (xs1_1.2 + 1)))]) (ds := [v1_2, (nV x1_1.n_)]) rfl (fun _ _ => Flat.own_iff.2 rfl))) F ho) rfl sizeOf3 rfl rfl rfl (one_cons rfl one_nil) rfl) ?_))
   rintro _ w hm
   have hx1_4 := List.getElem?_set_self (a := ((⟨xs1_1.2, w64 (xs1_1.2 + 1), x1_1.args, x1_1.n_⟩ : Ins_) : Ins_)) (idx_lt hx1_3)
   refine gE (gS (gR (gM rfl (gB rfl (gA rfl (gE (gS (gR (gM rfl (gM rfl ?_))))))))))
   obtain ⟨_, _, hc1_3, hr1_2⟩ := ro_get' (hm.ow_rep 0 rfl) hx1_4
   obtain ⟨_, _, rfl, rfl, _, _, rfl, rfl, _, _, rfl, h1_4, rfl⟩ := hr1_2
   obtain ⟨v1_3, rfl, -⟩ := id h1_4
   replace h1_4 : GT.rep (hp _) [v1_3] x1_1.args := h1_4
   replace hc1_3 : CellsAt (hp _) b1_1 (o1_1 + (i1_1).toNat * 4) [(nV xs1_1.2), (nV (w64 (xs1_1.2 + 1))), v1_3, (nV x1_1.n_)] := hc1_3
   have hL1_3 := rep_slice_len (hm.ow_rep 0 rfl)
   refine gI st_59 h1_1 (idx_lt2 hx1_4 hL1_3) rfl (gF fo_89_2 rfl (gY (yl isAgg47 (hc1_3.cell (j := 2) rfl) rfl) (gM rfl ?_)))
   replace hm : Mem w0 hz _ [ow [v1_3] x1_1.args, hole [(sV b1_1 o1_1 a_.length c0_1)] [v1_3] (fun (y : List Int) => (((xs1_1.1.set (i1_1).toNat (⟨xs1_1.2, x1_1.to, x1_1.args, x1_1.n_⟩ : Ins_)).set (i1_1).toNat (⟨xs1_1.2, w64 (xs1_1.2 + 1), x1_1.args, x1_1.n_⟩ : Ins_)) : List Ins_).set (i1_1).toNat (⟨xs1_1.2, w64 (xs1_1.2 + 1), y, x1_1.n_⟩ : Ins_))] := hm.open 0 rfl (foc_elem hx1_4 hc1_3 rfl (show FocH (α := Ins_) _ _ (⟨xs1_1.2, w64 (xs1_1.2 + 1), x1_1.args, x1_1.n_⟩ : Ins_) [v1_3] x1_1.args (fun y => (⟨xs1_1.2, w64 (xs1_1.2 + 1), y, x1_1.n_⟩ : Ins_)) from (foc_snd (α := Int) (β := Int × (List Int) × Int) (cs := [(nV xs1_1.2)]) (ds := [(nV (w64 (xs1_1.2 + 1))), v1_3, (nV x1_1.n_)]) (v := [v1_3]) (inner := x1_1.args) (x := (w64 (xs1_1.2 + 1), x1_1.args, x1_1.n_)) (z := xs1_1.2) (put := fun (y : List Int) => (w64 (xs1_1.2 + 1), y, x1_1.n_)) rfl (foc_snd (α := Int) (β := (List Int) × Int) (cs := [(nV (w64 (xs1_1.2 + 1)))]) (ds := [v1_3, (nV x1_1.n_)]) (v := [v1_3]) (inner := x1_1.args) (x := (x1_1.args, x1_1.n_)) (z := w64 (xs1_1.2 + 1)) (put := fun (y : List Int) => (y, x1_1.n_)) rfl (foc_fst (α := List Int) (β := Int) (cs := [v1_3]) (ds := [(nV x1_1.n_)]) (v := [v1_3]) (inner := x1_1.args) (x := x1_1.args) (z := x1_1.n_) (put := fun (y : List Int) => y) rfl (foc_id [v1_3] x1_1.args))))))
   obtain ⟨hz1_1, hle, hm1, hsub, hk1_1⟩ := hm.take2 (L1 := [ow [v1_3] x1_1.args]) (L2 := [hole [(sV b1_1 o1_1 a_.length c0_1)] [v1_3] (fun (y : List Int) => (((xs1_1.1.set (i1_1).toNat (⟨xs1_1.2, x1_1.to, x1_1.args, x1_1.n_⟩ : Ins_)).set (i1_1).toNat (⟨xs1_1.2, w64 (xs1_1.2 + 1), x1_1.args, x1_1.n_⟩ : Ins_)) : List Ins_).set (i1_1).toNat (⟨xs1_1.2, w64 (xs1_1.2 + 1), y, x1_1.n_⟩ : Ins_))]) [0] [1] (by decide) rfl rfl
   refine gCg rfl call97 (laws_markIntS_ok _ hz1_1 x1_1.args v1_3 (w64 ((w64 (xs1_1.2 + 1)) + 1)) hm1 ) ?_
   rintro r1_1 hx1_5 v1_4 w ⟨rfl, hB⟩
   replace hm := hk1_1 _ _ hB; clear hB
   replace hm := (hm.shut 1 0 (by decide) rfl rfl).pk (L' := [ow [(sV b1_1 o1_1 a_.length c0_1)] (((xs1_1.1.set (i1_1).toNat (⟨xs1_1.2, x1_1.to, x1_1.args, x1_1.n_⟩ : Ins_)).set (i1_1).toNat (⟨xs1_1.2, w64 (xs1_1.2 + 1), x1_1.args, x1_1.n_⟩ : Ins_)).set (i1_1).toNat (⟨xs1_1.2, w64 (xs1_1.2 + 1), r1_1.2, x1_1.n_⟩ : Ins_))]) [1] rfl rfl
   refine gA rfl (gE (gS (gR (gM rfl (gM rfl (gM rfl (gg fun x1_2 h1_5 hx1_7 => ?_)))))))
   obtain ⟨v1_5, hc1_4, h1_6⟩ := rk_Ins_ (hm.ow_rep 0 rfl) hx1_7
   have hL1_4 := rep_slice_len (hm.ow_rep 0 rfl)
   refine gI st_59 h1_5 (idx_lt2 hx1_7 hL1_4) rfl (gF fo_89_3 rfl (gf0 rfl (fun a hf => e_setElemR (x1 := ((⟨x1_2.op, x1_2.to, x1_2.args, r1_1.1⟩ : Ins_) : Ins_)) (j := 3) (vs := [(nV r1_1.1)]) 0 hf hm rfl hx1_7 hc1_4 rfl (fun F h ho => (fun _ => own_snd_map (α := Int) (β := Int × (List Int) × Int) (cs := [(nV x1_2.op)]) (ds := [(nV x1_2.to), v1_5, (nV x1_2.n_)]) (ds' := [(nV x1_2.to), v1_5, (nV r1_1.1)]) rfl (fun _ => own_snd_map (α := Int) (β := (List Int) × Int) (cs := [(nV x1_2.to)]) (ds := [v1_5, (nV x1_2.n_)]) (ds' := [v1_5, (nV r1_1.1)]) rfl (fun _ => own_snd_map (α := List Int) (β := Int) (cs := [v1_5]) (ds := [(nV x1_2.n_)]) (ds' := [(nV r1_1.1)]) rfl (fun _ _ => Flat.own_iff.2 rfl)))) F ho) rfl sizeOf3 rfl rfl rfl (one_cons rfl one_nil) rfl) ?_))
   rintro _ w hm
   have hx1_8 := List.getElem?_set_self (a := ((⟨x1_2.op, x1_2.to, x1_2.args, r1_1.1⟩ : Ins_) : Ins_)) (idx_lt hx1_7)
   exact gE (gR (gM rfl (gB rfl (gA rfl (gE (gR (gM rfl (gP (by omega) (by omega) rfl (gA rfl (gE (gze hm [0] rfl)))))))))))
  repeat clear hm
  intro i0_1 xs0_1 w hm hi0_3 hi0_4
  refine gS (gS (gR (gM rfl (gM rfl ?_))))
  have hl0_2 := rep_len (hm.ow_rep 0 rfl)
  exact gY (yV st_59 rfl) (gB rfl (gE (go _ 9 rfl (decide_eq_false (by omega)) (gcf rfl (gXt (gHh (gS (gR (gM rfl (gA rfl (gE (gRt (gr1 results96 rfl ⟨rfl, hm.pk [0] rfl rfl⟩)))))))))))))

theorem laws_markBlockS_ok (w0 : World) (hz : Heap) (a_ : List Block_) (v1 : Value) (k_ : Int) (hm0 : Mem w0 hz w0 [ow [v1] a_]) :
    ConM Tryz.prog 54 [v1, (nV k_)] w0 (laws_markBlockS a_ k_) fun r v w' => v = (nV r.1) ∧ Mem w0 hz w' [ow [v1] r.2] := by
  unfold laws_markBlockS
  refine gcon func54 rfl fun r => ?_
  have hm := hm0
  refine gS (gR (gA rfl (gE (gS (gS (gR (gA rfl (gE ?_))))))))
  obtain ⟨p0_1, c0_1, rfl, hl0_1⟩ := ro_slice (hm.ow_rep 0 rfl)
  refine gBk (gNf hm (fun i1_1 xs1_1 => [(0, (.slice p0_1 a_.length c0_1)), (1, (nV xs1_1.2)), (5, (nV i1_1))]) (fun i1_1 xs1_1 => [ow [(.slice p0_1 a_.length c0_1)] xs1_1.1]) [0] rfl ?_ ?_)
  ·
   repeat clear hm
   intro _ _ i1_1 xs1_1 w hm hi0_1 hi0_2 q0_1 _
   refine gS (gS (gR (gM rfl (gM rfl ?_))))
   have hl1_1 := rep_len (hm.ow_rep 0 rfl)
   refine gY (yV st_43 rfl) (gB rfl (gE (go _ 9 rfl (decide_eq_true (by omega)) (gct rfl (gSk (gS (gBk (gS (gR (gM rfl (gM rfl (gg fun x1_1 h1_1 hx1_2 => ?_))))))))))))
   obtain ⟨b1_1, o1_1, c1_1, he⟩ := idx_form' (hm.ow_rep 0 rfl) hx1_2
   simp only [Value.slice.injEq, Option.some.injEq] at he; obtain ⟨rfl, _, rfl⟩ := he
   obtain ⟨v1_1, v1_2, v1_3, hc1_1, h1_2, h1_3, h1_4⟩ := rk_Block_ (hm.ow_rep 0 rfl) hx1_2
   have hL1_1 := rep_slice_len (hm.ow_rep 0 rfl)
   refine gI st_43 h1_1 (idx_lt2 hx1_2 hL1_1) rfl (gF fo_61_0 rfl (gY (yl isAgg58 (hc1_1.cell (j := 0) rfl) rfl) (gM rfl ?_)))
   replace hm : Mem w0 hz _ [ow [v1_1] x1_1.phis, hole [(sV b1_1 o1_1 a_.length c0_1)] [v1_1] (fun (y : List Phi_) => (xs1_1.1 : List Block_).set (i1_1).toNat (⟨y, x1_1.ins, x1_1.jump, x1_1.on, x1_1.next_⟩ : Block_))] := hm.open 0 rfl (foc_elem hx1_2 hc1_1 rfl (show FocH (α := Block_) _ _ x1_1 [v1_1] x1_1.phis (fun y => (⟨y, x1_1.ins, x1_1.jump, x1_1.on, x1_1.next_⟩ : Block_)) from (foc_fst (α := List Phi_) (β := (List Ins_) × Int × Int × (List Int)) (cs := [v1_1]) (ds := [v1_2, (nV x1_1.jump), (nV x1_1.on), v1_3]) (v := [v1_1]) (inner := x1_1.phis) (x := x1_1.phis) (z := (x1_1.ins, x1_1.jump, x1_1.on, x1_1.next_)) (put := fun (y : List Phi_) => y) rfl (foc_id [v1_1] x1_1.phis))))
   obtain ⟨hz1_1, hle, hm1, hsub, hk1_1⟩ := hm.take2 (L1 := [ow [v1_1] x1_1.phis]) (L2 := [hole [(sV b1_1 o1_1 a_.length c0_1)] [v1_1] (fun (y : List Phi_) => (xs1_1.1 : List Block_).set (i1_1).toNat (⟨y, x1_1.ins, x1_1.jump, x1_1.on, x1_1.next_⟩ : Block_))]) [0] [1] (by decide) rfl rfl
   refine gCg rfl call95 (laws_markPhiS_ok _ hz1_1 x1_1.phis v1_1 xs1_1.2 hm1 ) ?_
   rintro r1_1 hx1_3 v1_4 w ⟨rfl, hB⟩
   replace hm := hk1_1 _ _ hB; clear hB
   replace hm := (hm.shut 1 0 (by decide) rfl rfl).pk (L' := [ow [(sV b1_1 o1_1 a_.length c0_1)] (xs1_1.1.set (i1_1).toNat (⟨r1_1.2, x1_1.ins, x1_1.jump, x1_1.on, x1_1.next_⟩ : Block_))]) [1] rfl rfl
   refine gA rfl (gE (gS (gR (gM rfl (gM rfl (gg fun x1_2 h1_5 hx1_5 => ?_))))))
   obtain ⟨v1_5, v1_6, v1_7, hc1_2, h1_6, h1_7, h1_8⟩ := rk_Block_ (hm.ow_rep 0 rfl) hx1_5
   have hL1_2 := rep_slice_len (hm.ow_rep 0 rfl)
   refine gI st_43 h1_5 (idx_lt2 hx1_5 hL1_2) rfl (gF fo_61_1 rfl (gY (yl isAgg59 (hc1_2.cell (j := 1) rfl) rfl) (gM rfl ?_)))
   replace hm : Mem w0 hz _ [ow [v1_6] x1_2.ins, hole [(sV b1_1 o1_1 a_.length c0_1)] [v1_6] (fun (y : List Ins_) => ((xs1_1.1.set (i1_1).toNat (⟨r1_1.2, x1_1.ins, x1_1.jump, x1_1.on, x1_1.next_⟩ : Block_)) : List Block_).set (i1_1).toNat (⟨x1_2.phis, y, x1_2.jump, x1_2.on, x1_2.next_⟩ : Block_))] := hm.open 0 rfl (foc_elem hx1_5 hc1_2 rfl (show FocH (α := Block_) _ _ x1_2 [v1_6] x1_2.ins (fun y => (⟨x1_2.phis, y, x1_2.jump, x1_2.on, x1_2.next_⟩ : Block_)) from (foc_snd (α := List Phi_) (β := (List Ins_) × Int × Int × (List Int)) (cs := [v1_5]) (ds := [v1_6, (nV x1_2.jump), (nV x1_2.on), v1_7]) (v := [v1_6]) (inner := x1_2.ins) (x := (x1_2.ins, x1_2.jump, x1_2.on, x1_2.next_)) (z := x1_2.phis) (put := fun (y : List Ins_) => (y, x1_2.jump, x1_2.on, x1_2.next_)) rfl (foc_fst (α := List Ins_) (β := Int × Int × (List Int)) (cs := [v1_6]) (ds := [(nV x1_2.jump), (nV x1_2.on), v1_7]) (v := [v1_6]) (inner := x1_2.ins) (x := x1_2.ins) (z := (x1_2.jump, x1_2.on, x1_2.next_)) (put := fun (y : List Ins_) => y) rfl (foc_id [v1_6] x1_2.ins)))))
   obtain ⟨hz1_3, hle, hm1, hsub, hk1_2⟩ := hm.take2 (L1 := [ow [v1_6] x1_2.ins]) (L2 := [hole [(sV b1_1 o1_1 a_.length c0_1)] [v1_6] (fun (y : List Ins_) => ((xs1_1.1.set (i1_1).toNat (⟨r1_1.2, x1_1.ins, x1_1.jump, x1_1.on, x1_1.next_⟩ : Block_)) : List Block_).set (i1_1).toNat (⟨x1_2.phis, y, x1_2.jump, x1_2.on, x1_2.next_⟩ : Block_))]) [0] [1] (by decide) rfl rfl
   refine gCg rfl call96 (laws_markInsS_ok _ hz1_3 x1_2.ins v1_6 r1_1.1 hm1 ) ?_
   rintro r1_2 hx1_6 v1_8 w ⟨rfl, hB⟩
   replace hm := hk1_2 _ _ hB; clear hB
   replace hm := (hm.shut 1 0 (by decide) rfl rfl).pk (L' := [ow [(sV b1_1 o1_1 a_.length c0_1)] ((xs1_1.1.set (i1_1).toNat (⟨r1_1.2, x1_1.ins, x1_1.jump, x1_1.on, x1_1.next_⟩ : Block_)).set (i1_1).toNat (⟨x1_2.phis, r1_2.2, x1_2.jump, x1_2.on, x1_2.next_⟩ : Block_))]) [1] rfl rfl
   refine gA rfl (gE (gS (gR (gM rfl (gM rfl (gM rfl (gg fun x1_3 h1_9 hx1_8 => ?_)))))))
   obtain ⟨v1_9, v1_10, v1_11, hc1_3, h1_10, h1_11, h1_12⟩ := rk_Block_ (hm.ow_rep 0 rfl) hx1_8
   have hL1_3 := rep_slice_len (hm.ow_rep 0 rfl)
   refine gI st_43 h1_9 (idx_lt2 hx1_8 hL1_3) rfl (gF fo_61_2 rfl (gf0 rfl (fun a hf => e_setElemR (x1 := ((⟨x1_3.phis, x1_3.ins, r1_2.1, x1_3.on, x1_3.next_⟩ : Block_) : Block_)) (j := 2) (vs := [(nV r1_2.1)]) 0 hf hm rfl hx1_8 hc1_3 rfl (fun F h ho => (fun _ => own_snd_map (α := List Phi_) (β := (List Ins_) × Int × Int × (List Int)) (cs := [v1_9]) (ds := [v1_10, (nV x1_3.jump), (nV x1_3.on), v1_11]) (ds' := [v1_10, (nV r1_2.1), (nV x1_3.on), v1_11]) rfl (fun _ => own_snd_map (α := List Ins_) (β := Int × Int × (List Int)) (cs := [v1_10]) (ds := [(nV x1_3.jump), (nV x1_3.on), v1_11]) (ds' := [(nV r1_2.1), (nV x1_3.on), v1_11]) rfl (fun _ => own_fst_map (α := Int) (β := Int × (List Int)) (cs := [(nV x1_3.jump)]) (cs' := [(nV r1_2.1)]) (ds := [(nV x1_3.on), v1_11]) rfl (fun _ _ => Flat.own_iff.2 rfl)))) F ho) rfl sizeOf3 rfl rfl rfl (one_cons rfl one_nil) rfl) ?_))
   rintro _ w hm
   have hx1_9 := List.getElem?_set_self (a := ((⟨x1_3.phis, x1_3.ins, r1_2.1, x1_3.on, x1_3.next_⟩ : Block_) : Block_)) (idx_lt hx1_8)
   refine gE (gS (gR (gM rfl (gB rfl (gA rfl (gE (gS (gR (gM rfl (gM rfl (gM rfl ?_)))))))))))
   obtain ⟨_, _, hc1_4, hr1_1⟩ := ro_get' (hm.ow_rep 0 rfl) hx1_9
   obtain ⟨_, _, rfl, h1_13, _, _, rfl, h1_14, _, _, rfl, rfl, _, _, rfl, rfl, h1_15⟩ := hr1_1
   obtain ⟨v1_12, rfl, -⟩ := id h1_13
   replace h1_13 : GT.rep (hp _) [v1_12] x1_3.phis := h1_13
   obtain ⟨v1_13, rfl, -⟩ := id h1_14
   replace h1_14 : GT.rep (hp _) [v1_13] x1_3.ins := h1_14
   obtain ⟨v1_14, rfl, -⟩ := id h1_15
   replace h1_15 : GT.rep (hp _) [v1_14] x1_3.next_ := h1_15
   replace hc1_4 : CellsAt (hp _) b1_1 (o1_1 + (i1_1).toNat * 5) [v1_12, v1_13, (nV r1_2.1), (nV x1_3.on), v1_14] := hc1_4
   have hL1_4 := rep_slice_len (hm.ow_rep 0 rfl)
   refine gI st_43 h1_9 (idx_lt2 hx1_9 hL1_4) rfl (gF fo_61_3 rfl (gf0 rfl (fun a hf => e_setElemR (x1 := ((⟨x1_3.phis, x1_3.ins, r1_2.1, w64 (r1_2.1 + 1), x1_3.next_⟩ : Block_) : Block_)) (j := 3) (vs := [(nV (w64 (r1_2.1 + 1)))]) 0 hf hm rfl hx1_9 hc1_4 rfl (fun F h ho => (fun _ => own_snd_map (α := List Phi_) (β := (List Ins_) × Int × Int × (List Int)) (cs := [v1_12]) (ds := [v1_13, (nV r1_2.1), (nV x1_3.on), v1_14]) (ds' := [v1_13, (nV r1_2.1), (nV (w64 (r1_2.1 + 1))), v1_14]) rfl (fun _ => own_snd_map (α := List Ins_) (β := Int × Int × (List Int)) (cs := [v1_13]) (ds := [(nV r1_2.1), (nV x1_3.on), v1_14]) (ds' := [(nV r1_2.1), (nV (w64 (r1_2.1 + 1))), v1_14]) rfl (fun _ => own_snd_map (α := Int) (β := Int × (List Int)) (cs := [(nV r1_2.1)]) (ds := [(nV x1_3.on), v1_14]) (ds' := [(nV (w64 (r1_2.1 + 1))), v1_14]) rfl (fun _ => own_fst_map (α := Int) (β := (List Int)) (cs := [(nV x1_3.on)]) (cs' := [(nV (w64 (r1_2.1 + 1)))]) (ds := [v1_14]) rfl (fun _ _ => Flat.own_iff.2 rfl))))) F ho) rfl sizeOf3 rfl rfl rfl (one_cons rfl one_nil) rfl) ?_))
   rintro _ w hm
   have hx1_10 := List.getElem?_set_self (a := ((⟨x1_3.phis, x1_3.ins, r1_2.1, w64 (r1_2.1 + 1), x1_3.next_⟩ : Block_) : Block_)) (idx_lt hx1_9)
   refine gE (gS (gR (gM rfl (gB rfl (gA rfl (gE (gR (gM rfl (gM rfl ?_)))))))))
   obtain ⟨_, _, hc1_5, hr1_2⟩ := ro_get' (hm.ow_rep 0 rfl) hx1_10
   obtain ⟨_, _, rfl, h1_16, _, _, rfl, h1_17, _, _, rfl, rfl, _, _, rfl, rfl, h1_18⟩ := hr1_2
   obtain ⟨v1_15, rfl, -⟩ := id h1_16
   replace h1_16 : GT.rep (hp _) [v1_15] x1_3.phis := h1_16
   obtain ⟨v1_16, rfl, -⟩ := id h1_17
   replace h1_17 : GT.rep (hp _) [v1_16] x1_3.ins := h1_17
   obtain ⟨v1_17, rfl, -⟩ := id h1_18
   replace h1_18 : GT.rep (hp _) [v1_17] x1_3.next_ := h1_18
   replace hc1_5 : CellsAt (hp _) b1_1 (o1_1 + (i1_1).toNat * 5) [v1_15, v1_16, (nV r1_2.1), (nV (w64 (r1_2.1 + 1))), v1_17] := hc1_5
   have hL1_5 := rep_slice_len (hm.ow_rep 0 rfl)
   refine gI st_43 h1_9 (idx_lt2 hx1_10 hL1_5) rfl (gF fo_61_4 rfl (gY (yl isAgg47 (hc1_5.cell (j := 4) rfl) rfl) (gM rfl ?_)))
   replace hm : Mem w0 hz _ [ow [v1_17] x1_3.next_, hole [(sV b1_1 o1_1 a_.length c0_1)] [v1_17] (fun (y : List Int) => (((((xs1_1.1.set (i1_1).toNat (⟨r1_1.2, x1_1.ins, x1_1.jump, x1_1.on, x1_1.next_⟩ : Block_)).set (i1_1).toNat (⟨x1_2.phis, r1_2.2, x1_2.jump, x1_2.on, x1_2.next_⟩ : Block_)).set (i1_1).toNat (⟨x1_3.phis, x1_3.ins, r1_2.1, x1_3.on, x1_3.next_⟩ : Block_)).set (i1_1).toNat (⟨x1_3.phis, x1_3.ins, r1_2.1, w64 (r1_2.1 + 1), x1_3.next_⟩ : Block_)) : List Block_).set (i1_1).toNat (⟨x1_3.phis, x1_3.ins, r1_2.1, w64 (r1_2.1 + 1), y⟩ : Block_))] := hm.open 0 rfl (foc_elem hx1_10 hc1_5 rfl (show FocH (α := Block_) _ _ (⟨x1_3.phis, x1_3.ins, r1_2.1, w64 (r1_2.1 + 1), x1_3.next_⟩ : Block_) [v1_17] x1_3.next_ (fun y => (⟨x1_3.phis, x1_3.ins, r1_2.1, w64 (r1_2.1 + 1), y⟩ : Block_)) from (foc_snd (α := List Phi_) (β := (List Ins_) × Int × Int × (List Int)) (cs := [v1_15]) (ds := [v1_16, (nV r1_2.1), (nV (w64 (r1_2.1 + 1))), v1_17]) (v := [v1_17]) (inner := x1_3.next_) (x := (x1_3.ins, r1_2.1, w64 (r1_2.1 + 1), x1_3.next_)) (z := x1_3.phis) (put := fun (y : List Int) => (x1_3.ins, r1_2.1, w64 (r1_2.1 + 1), y)) rfl (foc_snd (α := List Ins_) (β := Int × Int × (List Int)) (cs := [v1_16]) (ds := [(nV r1_2.1), (nV (w64 (r1_2.1 + 1))), v1_17]) (v := [v1_17]) (inner := x1_3.next_) (x := (r1_2.1, w64 (r1_2.1 + 1), x1_3.next_)) (z := x1_3.ins) (put := fun (y : List Int) => (r1_2.1, w64 (r1_2.1 + 1), y)) rfl (foc_snd (α := Int) (β := Int × (List Int)) (cs := [(nV r1_2.1)]) (ds := [(nV (w64 (r1_2.1 + 1))), v1_17]) (v := [v1_17]) (inner := x1_3.next_) (x := (w64 (r1_2.1 + 1), x1_3.next_)) (z := r1_2.1) (put := fun (y : List Int) => (w64 (r1_2.1 + 1), y)) rfl (foc_snd (α := Int) (β := (List Int)) (cs := [(nV (w64 (r1_2.1 + 1)))]) (ds := [v1_17]) (v := [v1_17]) (inner := x1_3.next_) (x := x1_3.next_) (z := w64 (r1_2.1 + 1)) (put := fun (y : List Int) => y) rfl (foc_id [v1_17] x1_3.next_)))))))
   obtain ⟨hz1_5, hle, hm1, hsub, hk1_3⟩ := hm.take2 (L1 := [ow [v1_17] x1_3.next_]) (L2 := [hole [(sV b1_1 o1_1 a_.length c0_1)] [v1_17] (fun (y : List Int) => (((((xs1_1.1.set (i1_1).toNat (⟨r1_1.2, x1_1.ins, x1_1.jump, x1_1.on, x1_1.next_⟩ : Block_)).set (i1_1).toNat (⟨x1_2.phis, r1_2.2, x1_2.jump, x1_2.on, x1_2.next_⟩ : Block_)).set (i1_1).toNat (⟨x1_3.phis, x1_3.ins, r1_2.1, x1_3.on, x1_3.next_⟩ : Block_)).set (i1_1).toNat (⟨x1_3.phis, x1_3.ins, r1_2.1, w64 (r1_2.1 + 1), x1_3.next_⟩ : Block_)) : List Block_).set (i1_1).toNat (⟨x1_3.phis, x1_3.ins, r1_2.1, w64 (r1_2.1 + 1), y⟩ : Block_))]) [0] [1] (by decide) rfl rfl
   refine gCg rfl call97 (laws_markIntS_ok _ hz1_5 x1_3.next_ v1_17 (w64 ((w64 (r1_2.1 + 1)) + 1)) hm1 ) ?_
   rintro r1_3 hx1_11 v1_18 w ⟨rfl, hB⟩
   replace hm := hk1_3 _ _ hB; clear hB
   replace hm := (hm.shut 1 0 (by decide) rfl rfl).pk (L' := [ow [(sV b1_1 o1_1 a_.length c0_1)] (((((xs1_1.1.set (i1_1).toNat (⟨r1_1.2, x1_1.ins, x1_1.jump, x1_1.on, x1_1.next_⟩ : Block_)).set (i1_1).toNat (⟨x1_2.phis, r1_2.2, x1_2.jump, x1_2.on, x1_2.next_⟩ : Block_)).set (i1_1).toNat (⟨x1_3.phis, x1_3.ins, r1_2.1, x1_3.on, x1_3.next_⟩ : Block_)).set (i1_1).toNat (⟨x1_3.phis, x1_3.ins, r1_2.1, w64 (r1_2.1 + 1), x1_3.next_⟩ : Block_)).set (i1_1).toNat (⟨x1_3.phis, x1_3.ins, r1_2.1, w64 (r1_2.1 + 1), r1_3.2⟩ : Block_))]) [1] rfl rfl
   exact gA rfl (gE (gR (gM rfl (gP (by omega) (by omega) rfl (gA rfl (gE (gze hm [0] rfl)))))))
  repeat clear hm
  intro i0_1 xs0_1 w hm hi0_3 hi0_4
  refine gS (gS (gR (gM rfl (gM rfl ?_))))
  have hl0_2 := rep_len (hm.ow_rep 0 rfl)
  exact gY (yV st_43 rfl) (gB rfl (gE (go _ 9 rfl (decide_eq_false (by omega)) (gcf rfl (gXt (gHh (gS (gR (gM rfl (gA rfl (gE (gRt (gr1 results54 rfl ⟨rfl, hm.pk [0] rfl rfl⟩)))))))))))))

theorem laws_markCodeS_ok (w0 : World) (hz : Heap) (a_ : List Code_) (v1 : Value) (k_ : Int) (hm0 : Mem w0 hz w0 [ow [v1] a_]) :
    ConM Tryz.prog 35 [v1, (nV k_)] w0 (laws_markCodeS a_ k_) fun r v w' => v = (nV r.1) ∧ Mem w0 hz w' [ow [v1] r.2] := by
  unfold laws_markCodeS
  refine gcon func35 rfl fun r => ?_
  have hm := hm0
  refine gS (gR (gA rfl (gE (gS (gS (gR (gA rfl (gE ?_))))))))
  obtain ⟨p0_1, c0_1, rfl, hl0_1⟩ := ro_slice (hm.ow_rep 0 rfl)
  refine gBk (gNf hm (fun i1_1 xs1_1 => [(0, (.slice p0_1 a_.length c0_1)), (1, (nV xs1_1.2)), (5, (nV i1_1))]) (fun i1_1 xs1_1 => [ow [(.slice p0_1 a_.length c0_1)] xs1_1.1]) [0] rfl ?_ ?_)
  ·
   repeat clear hm
   intro _ _ i1_1 xs1_1 w hm hi0_1 hi0_2 q0_1 _
   refine gS (gS (gR (gM rfl (gM rfl ?_))))
   have hl1_1 := rep_len (hm.ow_rep 0 rfl)
   refine gY (yV st_26 rfl) (gB rfl (gE (go _ 9 rfl (decide_eq_true (by omega)) (gct rfl (gSk (gS (gBk (gS (gR (gM rfl (gM rfl (gM rfl (gg fun x1_1 h1_1 hx1_2 => ?_)))))))))))))
   obtain ⟨b1_1, o1_1, c1_1, he⟩ := idx_form' (hm.ow_rep 0 rfl) hx1_2
   simp only [Value.slice.injEq, Option.some.injEq] at he; obtain ⟨rfl, _, rfl⟩ := he
   obtain ⟨v1_1, hc1_1, h1_2⟩ := rk_Code_ (hm.ow_rep 0 rfl) hx1_2
   have hL1_1 := rep_slice_len (hm.ow_rep 0 rfl)
   refine gI st_26 h1_1 (idx_lt2 hx1_2 hL1_1) rfl (gF fo_45_0 rfl (gf0 rfl (fun a hf => e_setElemR (x1 := ((⟨xs1_1.2, x1_1.regs, x1_1.blocks⟩ : Code_) : Code_)) (j := 0) (vs := [(nV xs1_1.2)]) 0 hf hm rfl hx1_2 hc1_1 rfl (fun F h ho => (fun _ => own_fst_map (α := Int) (β := Int × (List Block_)) (cs := [(nV x1_1.params)]) (cs' := [(nV xs1_1.2)]) (ds := [(nV x1_1.regs), v1_1]) rfl (fun _ _ => Flat.own_iff.2 rfl)) F ho) rfl sizeOf3 rfl rfl rfl (one_cons rfl one_nil) rfl) ?_))
   rintro _ w hm
   have hx1_3 := List.getElem?_set_self (a := ((⟨xs1_1.2, x1_1.regs, x1_1.blocks⟩ : Code_) : Code_)) (idx_lt hx1_2)
   refine gE (gS (gR (gM rfl (gB rfl (gA rfl (gE (gS (gR (gM rfl (gM rfl (gM rfl ?_)))))))))))
   obtain ⟨_, _, hc1_2, hr1_1⟩ := ro_get' (hm.ow_rep 0 rfl) hx1_3
   obtain ⟨_, _, rfl, rfl, _, _, rfl, rfl, h1_3⟩ := hr1_1
   obtain ⟨v1_2, rfl, -⟩ := id h1_3
   replace h1_3 : GT.rep (hp _) [v1_2] x1_1.blocks := h1_3
   replace hc1_2 : CellsAt (hp _) b1_1 (o1_1 + (i1_1).toNat * 3) [(nV xs1_1.2), (nV x1_1.regs), v1_2] := hc1_2
   have hL1_2 := rep_slice_len (hm.ow_rep 0 rfl)
   refine gI st_26 h1_1 (idx_lt2 hx1_3 hL1_2) rfl (gF fo_45_1 rfl (gf0 rfl (fun a hf => e_setElemR (x1 := ((⟨xs1_1.2, w64 (xs1_1.2 + 1), x1_1.blocks⟩ : Code_) : Code_)) (j := 1) (vs := [(nV (w64 (xs1_1.2 + 1)))]) 0 hf hm rfl hx1_3 hc1_2 rfl (fun F h ho => (fun _ => own_snd_map (α := Int) (β := Int × (List Block_)) (cs := [(nV xs1_1.2)]) (ds := [(nV x1_1.regs), v1_2]) (ds' := [(nV (w64 (xs1_1.2 + 1))), v1_2]) rfl (fun _ => own_fst_map (α := Int) (β := (List Block_)) (cs := [(nV x1_1.regs)]) (cs' := [(nV (w64 (xs1_1.2 + 1)))]) (ds := [v1_2]) rfl (fun _ _ => Flat.own_iff.2 rfl))) F ho) rfl sizeOf3 rfl rfl rfl (one_cons rfl one_nil) rfl) ?_))
   rintro _ w hm
   have hx1_4 := List.getElem?_set_self (a := ((⟨xs1_1.2, w64 (xs1_1.2 + 1), x1_1.blocks⟩ : Code_) : Code_)) (idx_lt hx1_3)
   refine gE (gS (gR (gM rfl (gB rfl (gA rfl (gE (gR (gM rfl (gM rfl ?_)))))))))
   obtain ⟨_, _, hc1_3, hr1_2⟩ := ro_get' (hm.ow_rep 0 rfl) hx1_4
   obtain ⟨_, _, rfl, rfl, _, _, rfl, rfl, h1_4⟩ := hr1_2
   obtain ⟨v1_3, rfl, -⟩ := id h1_4
   replace h1_4 : GT.rep (hp _) [v1_3] x1_1.blocks := h1_4
   replace hc1_3 : CellsAt (hp _) b1_1 (o1_1 + (i1_1).toNat * 3) [(nV xs1_1.2), (nV (w64 (xs1_1.2 + 1))), v1_3] := hc1_3
   have hL1_3 := rep_slice_len (hm.ow_rep 0 rfl)
   refine gI st_26 h1_1 (idx_lt2 hx1_4 hL1_3) rfl (gF fo_45_2 rfl (gY (yl isAgg43 (hc1_3.cell (j := 2) rfl) rfl) (gM rfl ?_)))
   replace hm : Mem w0 hz _ [ow [v1_3] x1_1.blocks, hole [(sV b1_1 o1_1 a_.length c0_1)] [v1_3] (fun (y : List Block_) => (((xs1_1.1.set (i1_1).toNat (⟨xs1_1.2, x1_1.regs, x1_1.blocks⟩ : Code_)).set (i1_1).toNat (⟨xs1_1.2, w64 (xs1_1.2 + 1), x1_1.blocks⟩ : Code_)) : List Code_).set (i1_1).toNat (⟨xs1_1.2, w64 (xs1_1.2 + 1), y⟩ : Code_))] := hm.open 0 rfl (foc_elem hx1_4 hc1_3 rfl (show FocH (α := Code_) _ _ (⟨xs1_1.2, w64 (xs1_1.2 + 1), x1_1.blocks⟩ : Code_) [v1_3] x1_1.blocks (fun y => (⟨xs1_1.2, w64 (xs1_1.2 + 1), y⟩ : Code_)) from (foc_snd (α := Int) (β := Int × (List Block_)) (cs := [(nV xs1_1.2)]) (ds := [(nV (w64 (xs1_1.2 + 1))), v1_3]) (v := [v1_3]) (inner := x1_1.blocks) (x := (w64 (xs1_1.2 + 1), x1_1.blocks)) (z := xs1_1.2) (put := fun (y : List Block_) => (w64 (xs1_1.2 + 1), y)) rfl (foc_snd (α := Int) (β := (List Block_)) (cs := [(nV (w64 (xs1_1.2 + 1)))]) (ds := [v1_3]) (v := [v1_3]) (inner := x1_1.blocks) (x := x1_1.blocks) (z := w64 (xs1_1.2 + 1)) (put := fun (y : List Block_) => y) rfl (foc_id [v1_3] x1_1.blocks)))))
   obtain ⟨hz1_1, hle, hm1, hsub, hk1_1⟩ := hm.take2 (L1 := [ow [v1_3] x1_1.blocks]) (L2 := [hole [(sV b1_1 o1_1 a_.length c0_1)] [v1_3] (fun (y : List Block_) => (((xs1_1.1.set (i1_1).toNat (⟨xs1_1.2, x1_1.regs, x1_1.blocks⟩ : Code_)).set (i1_1).toNat (⟨xs1_1.2, w64 (xs1_1.2 + 1), x1_1.blocks⟩ : Code_)) : List Code_).set (i1_1).toNat (⟨xs1_1.2, w64 (xs1_1.2 + 1), y⟩ : Code_))]) [0] [1] (by decide) rfl rfl
   refine gCg rfl call54 (laws_markBlockS_ok _ hz1_1 x1_1.blocks v1_3 (w64 ((w64 (xs1_1.2 + 1)) + 1)) hm1 ) ?_
   rintro r1_1 hx1_5 v1_4 w ⟨rfl, hB⟩
   replace hm := hk1_1 _ _ hB; clear hB
   replace hm := (hm.shut 1 0 (by decide) rfl rfl).pk (L' := [ow [(sV b1_1 o1_1 a_.length c0_1)] (((xs1_1.1.set (i1_1).toNat (⟨xs1_1.2, x1_1.regs, x1_1.blocks⟩ : Code_)).set (i1_1).toNat (⟨xs1_1.2, w64 (xs1_1.2 + 1), x1_1.blocks⟩ : Code_)).set (i1_1).toNat (⟨xs1_1.2, w64 (xs1_1.2 + 1), r1_1.2⟩ : Code_))]) [1] rfl rfl
   exact gA rfl (gE (gR (gM rfl (gP (by omega) (by omega) rfl (gA rfl (gE (gze hm [0] rfl)))))))
  repeat clear hm
  intro i0_1 xs0_1 w hm hi0_3 hi0_4
  refine gS (gS (gR (gM rfl (gM rfl ?_))))
  have hl0_2 := rep_len (hm.ow_rep 0 rfl)
  exact gY (yV st_26 rfl) (gB rfl (gE (go _ 9 rfl (decide_eq_false (by omega)) (gcf rfl (gXt (gHh (gS (gR (gM rfl (gA rfl (gE (gRt (gr1 results35 rfl ⟨rfl, hm.pk [0] rfl rfl⟩)))))))))))))

theorem laws_markUnit_ok (w0 : World) (hz : Heap) (a_ : Unit_) (v1 : Value) (k_ : Int) (hm0 : Mem w0 hz w0 [ow [v1] a_.codes]) :
    ConM Tryz.prog 15 [(.agg #[v1]), (nV k_)] w0 (laws_markUnit a_ k_) fun r v w' => v = (nV r.1) ∧ Mem w0 hz w' [ow [v1] r.2] := by
  unfold laws_markUnit
  refine gcon func15 rfl fun r => ?_
  have hm := hm0
  refine gS (gR (gBx hm rfl fun b0_1 w hm => gA rfl (gE (gS (gR (gF fo_28_0 rfl (gL hm 0 isAgg26 rfl (gM rfl ?_))))))))
  obtain ⟨hz0_1, hle, hm1, hsub, hk0_1⟩ := hm.take2 (L1 := [ow [v1] a_.codes]) (L2 := [blk b0_1 [v1] 28]) [1] [0] (by decide) rfl rfl
  refine gCg rfl call35 (laws_markCodeS_ok _ hz0_1 a_.codes v1 k_ hm1 ) ?_
  rintro r0_1 hx0_1 v0_1 w ⟨rfl, hB⟩
  replace hm := hk0_1 _ _ hB; clear hB
  exact gA rfl (gE (gS (gR (gM rfl (gA rfl (gE (gRt (gr1 results15 rfl ⟨rfl, hm.pk [0] rfl rfl⟩))))))))

theorem laws_heldIntS_ok (w0 : World) (a_ : List Int) (v1 : Value) (h1 : GT.rep (hp w0) [v1] a_) (k_ : Int) :
    ConM Tryz.prog 100 [v1, (nV k_)] w0 (laws_heldIntS a_ k_) fun r v w' => v = (nV r) ∧ Below w0.heap.size w0 w' := by
  unfold laws_heldIntS
  refine gcon func100 rfl fun r => ?_
  have hm := Mem.start w0
  refine gS (gR (gA rfl (gE (gS (gS (gR (gA rfl (gE (gBk (gNf hm (fun i1_1 xs1_1 => [(0, v1), (1, (nV xs1_1)), (5, (nV i1_1))]) (fun i1_1 xs1_1 => []) [] rfl ?_ ?_))))))))))
  ·
   repeat clear hm
   intro r0_1 hq0_1 i1_1 xs1_1 w hm hi0_1 hi0_2 q0_1 ho0_1
   refine gS (gS (gR (gM rfl (gM rfl ?_))))
   obtain ⟨p1_1, c1_1, rfl, hl1_1⟩ := ro_slice h1
   refine gY (yV st_47 rfl) (gB rfl (gE (go _ 9 rfl (decide_eq_true (by omega)) (gct rfl (gSk (gS (gBk (gS (gS (gR (gM rfl (gM rfl (gg fun x1_1 h1_1 hx1_2 => ?_)))))))))))))
   obtain ⟨b1_1, o1_1, c1_2, he⟩ := idx_form h1 hx1_2
   simp only [Value.slice.injEq, Option.some.injEq] at he; obtain ⟨rfl, _, rfl⟩ := he
   refine gI st_47 h1_1 (idx_lt hx1_2) rfl (gY (yl isAgg3 ((flat_cells (cs := [(nV x1_1)]) (hm.now h1) hx1_2 rfl).cell (j := 0) rfl) rfl) (gM rfl (gB rfl (gE (gsd 17 rfl (fun h1_2 => ?_) fun h1_2 => ?_)))))
   ·
    exact gct rfl (gS (gR (gA rfl (gE (gRt (gLr ho0_1 hq0_1 (gr1 results100 rfl ⟨rfl, hm.below⟩)))))))
   exact gcf rfl (gSk (gR (gM rfl (gB rfl (gA rfl (gE (gR (gM rfl (gP (by omega) (by omega) rfl (gA rfl (gE (gze hm [] rfl))))))))))))
  repeat clear hm
  intro i0_1 xs0_1 w hm hi0_3 hi0_4
  refine gS (gS (gR (gM rfl (gM rfl ?_))))
  obtain ⟨p0_1, c0_1, rfl, hl0_1⟩ := ro_slice h1
  exact gY (yV st_47 rfl) (gB rfl (gE (go _ 9 rfl (decide_eq_false (by omega)) (gcf rfl (gXt (gHh (gS (gR (gM rfl (gA rfl (gE (gRt (gr1 results100 rfl ⟨rfl, hm.below⟩)))))))))))))

theorem laws_heldPhiS_ok (w0 : World) (a_ : List Phi_) (v1 : Value) (h1 : GT.rep (hp w0) [v1] a_) (k_ : Int) :
    ConM Tryz.prog 98 [v1, (nV k_)] w0 (laws_heldPhiS a_ k_) fun r v w' => v = (nV r) ∧ Below w0.heap.size w0 w' := by
  unfold laws_heldPhiS
  refine gcon func98 rfl fun r => ?_
  have hm := Mem.start w0
  refine gS (gR (gA rfl (gE (gS (gS (gR (gA rfl (gE (gBk (gNf hm (fun i1_1 xs1_1 => [(0, v1), (1, (nV xs1_1)), (5, (nV i1_1))]) (fun i1_1 xs1_1 => []) [] rfl ?_ ?_))))))))))
  ·
   repeat clear hm
   intro r0_1 hq0_1 i1_1 xs1_1 w hm hi0_1 hi0_2 q0_1 ho0_1
   refine gS (gS (gR (gM rfl (gM rfl ?_))))
   obtain ⟨p1_1, c1_1, rfl, hl1_1⟩ := ro_slice h1
   refine gY (yV st_58 rfl) (gB rfl (gE (go _ 9 rfl (decide_eq_true (by omega)) (gct rfl (gSk (gS (gBk (gS (gS (gR (gM rfl (gM rfl (gg fun x1_1 h1_1 hx1_2 => ?_)))))))))))))
   obtain ⟨b1_1, o1_1, c1_2, he⟩ := idx_form' h1 hx1_2
   simp only [Value.slice.injEq, Option.some.injEq] at he; obtain ⟨rfl, _, rfl⟩ := he
   obtain ⟨v1_1, hc1_1, h1_2⟩ := rk_Phi_ h1 hx1_2
   refine gI st_58 h1_1 (idx_lt hx1_2) rfl (gF fo_86_0 rfl (gY (yl isAgg3 ((hc1_1.mono hm.lez).cell (j := 0) rfl) rfl) (gM rfl (gB rfl (gE (gsd 18 rfl (fun h1_3 => ?_) fun h1_3 => ?_))))))
   ·
    exact gct rfl (gS (gR (gA rfl (gE (gRt (gLr ho0_1 hq0_1 (gr1 results98 rfl ⟨rfl, hm.below⟩)))))))
   refine gcf rfl (gSk (gS (gR (gM rfl (gB rfl (gA rfl (gE (gS (gR (gM rfl (gM rfl (gI st_58 h1_1 (idx_lt hx1_2) rfl (gF fo_86_1 rfl (gY (yl isAgg47 ((hc1_1.mono hm.lez).cell (j := 1) rfl) rfl) (gM rfl (gC hm rfl call100 (laws_heldIntS_ok _ x1_1.args v1_1 (hm.now h1_2) (w64 (xs1_1 + 1))) fun r1_1 hx1_3 w hm => gA rfl (gE (gS (gR (gM rfl (gB rfl (gE (gsd 29 rfl (fun h1_4 => ?_) fun h1_4 => ?_)))))))))))))))))))))))
   ·
    exact gct rfl (gS (gR (gA rfl (gE (gRt (gLr ho0_1 hq0_1 (gr1 results98 rfl ⟨rfl, hm.below⟩)))))))
   exact gcf rfl (gSk (gR (gM rfl (gP (by omega) (by omega) rfl (gA rfl (gE (gze hm [] rfl)))))))
  repeat clear hm
  intro i0_1 xs0_1 w hm hi0_3 hi0_4
  refine gS (gS (gR (gM rfl (gM rfl ?_))))
  obtain ⟨p0_1, c0_1, rfl, hl0_1⟩ := ro_slice h1
  exact gY (yV st_58 rfl) (gB rfl (gE (go _ 9 rfl (decide_eq_false (by omega)) (gcf rfl (gXt (gHh (gS (gR (gM rfl (gA rfl (gE (gRt (gr1 results98 rfl ⟨rfl, hm.below⟩)))))))))))))

theorem laws_heldInsS_ok (w0 : World) (a_ : List Ins_) (v1 : Value) (h1 : GT.rep (hp w0) [v1] a_) (k_ : Int) :
    ConM Tryz.prog 99 [v1, (nV k_)] w0 (laws_heldInsS a_ k_) fun r v w' => v = (nV r) ∧ Below w0.heap.size w0 w' := by
  unfold laws_heldInsS
  refine gcon func99 rfl fun r => ?_
  have hm := Mem.start w0
  refine gS (gR (gA rfl (gE (gS (gS (gR (gA rfl (gE (gBk (gNf hm (fun i1_1 xs1_1 => [(0, v1), (1, (nV xs1_1)), (5, (nV i1_1))]) (fun i1_1 xs1_1 => []) [] rfl ?_ ?_))))))))))
  ·
   repeat clear hm
   intro r0_1 hq0_1 i1_1 xs1_1 w hm hi0_1 hi0_2 q0_1 ho0_1
   refine gS (gS (gR (gM rfl (gM rfl ?_))))
   obtain ⟨p1_1, c1_1, rfl, hl1_1⟩ := ro_slice h1
   refine gY (yV st_59 rfl) (gB rfl (gE (go _ 9 rfl (decide_eq_true (by omega)) (gct rfl (gSk (gS (gBk (gS (gS (gR (gM rfl (gM rfl (gg fun x1_1 h1_1 hx1_2 => ?_)))))))))))))
   obtain ⟨b1_1, o1_1, c1_2, he⟩ := idx_form' h1 hx1_2
   simp only [Value.slice.injEq, Option.some.injEq] at he; obtain ⟨rfl, _, rfl⟩ := he
   obtain ⟨v1_1, hc1_1, h1_2⟩ := rk_Ins_ h1 hx1_2
   refine gI st_59 h1_1 (idx_lt hx1_2) rfl (gF fo_89_0 rfl (gY (yl isAgg3 ((hc1_1.mono hm.lez).cell (j := 0) rfl) rfl) (gM rfl (gB rfl (gE (gsd 18 rfl (fun h1_3 => ?_) fun h1_3 => ?_))))))
   ·
    exact gct rfl (gS (gR (gA rfl (gE (gRt (gLr ho0_1 hq0_1 (gr1 results99 rfl ⟨rfl, hm.below⟩)))))))
   refine gcf rfl (gSk (gS (gR (gM rfl (gB rfl (gA rfl (gE (gS (gS (gR (gM rfl (gM rfl (gI st_59 h1_1 (idx_lt hx1_2) rfl (gF fo_89_1 rfl (gY (yl isAgg3 ((hc1_1.mono hm.lez).cell (j := 1) rfl) rfl) (gM rfl (gB rfl (gE (gsd 27 rfl (fun h1_4 => ?_) fun h1_4 => ?_)))))))))))))))))))
   ·
    exact gct rfl (gS (gR (gA rfl (gE (gRt (gLr ho0_1 hq0_1 (gr1 results99 rfl ⟨rfl, hm.below⟩)))))))
   refine gcf rfl (gSk (gS (gR (gM rfl (gB rfl (gA rfl (gE (gS (gR (gM rfl (gM rfl (gI st_59 h1_1 (idx_lt hx1_2) rfl (gF fo_89_2 rfl (gY (yl isAgg47 ((hc1_1.mono hm.lez).cell (j := 2) rfl) rfl) (gM rfl (gC hm rfl call100 (laws_heldIntS_ok _ x1_1.args v1_1 (hm.now h1_2) (w64 ((w64 (xs1_1 + 1)) + 1))) fun r1_1 hx1_3 w hm => gA rfl (gE (gS (gS (gR (gM rfl (gB rfl (gE (gsd 38 rfl (fun h1_5 => ?_) fun h1_5 => ?_))))))))))))))))))))))))
   ·
    exact gct rfl (gS (gR (gA rfl (gE (gRt (gLr ho0_1 hq0_1 (gr1 results99 rfl ⟨rfl, hm.below⟩)))))))
   refine gcf rfl (gSk (gS (gS (gR (gM rfl (gM rfl (gI st_59 h1_1 (idx_lt hx1_2) rfl (gF fo_89_3 rfl (gY (yl isAgg3 ((hc1_1.mono hm.lez).cell (j := 3) rfl) rfl) (gM rfl (gB rfl (gE (gsd 45 rfl (fun h1_6 => ?_) fun h1_6 => ?_)))))))))))))
   ·
    exact gct rfl (gS (gR (gA rfl (gE (gRt (gLr ho0_1 hq0_1 (gr1 results99 rfl ⟨rfl, hm.below⟩)))))))
   exact gcf rfl (gSk (gR (gM rfl (gB rfl (gA rfl (gE (gR (gM rfl (gP (by omega) (by omega) rfl (gA rfl (gE (gze hm [] rfl))))))))))))
  repeat clear hm
  intro i0_1 xs0_1 w hm hi0_3 hi0_4
  refine gS (gS (gR (gM rfl (gM rfl ?_))))
  obtain ⟨p0_1, c0_1, rfl, hl0_1⟩ := ro_slice h1
  exact gY (yV st_59 rfl) (gB rfl (gE (go _ 9 rfl (decide_eq_false (by omega)) (gcf rfl (gXt (gHh (gS (gR (gM rfl (gA rfl (gE (gRt (gr1 results99 rfl ⟨rfl, hm.below⟩)))))))))))))

theorem laws_heldBlockS_ok (w0 : World) (a_ : List Block_) (v1 : Value) (h1 : GT.rep (hp w0) [v1] a_) (k_ : Int) :
    ConM Tryz.prog 55 [v1, (nV k_)] w0 (laws_heldBlockS a_ k_) fun r v w' => v = (nV r) ∧ Below w0.heap.size w0 w' := by
  unfold laws_heldBlockS
  refine gcon func55 rfl fun r => ?_
  have hm := Mem.start w0
  refine gS (gR (gA rfl (gE (gS (gS (gR (gA rfl (gE (gBk (gNf hm (fun i1_1 xs1_1 => [(0, v1), (1, (nV xs1_1)), (5, (nV i1_1))]) (fun i1_1 xs1_1 => []) [] rfl ?_ ?_))))))))))
  ·
   repeat clear hm
   intro r0_1 hq0_1 i1_1 xs1_1 w hm hi0_1 hi0_2 q0_1 ho0_1
   refine gS (gS (gR (gM rfl (gM rfl ?_))))
   obtain ⟨p1_1, c1_1, rfl, hl1_1⟩ := ro_slice h1
   refine gY (yV st_43 rfl) (gB rfl (gE (go _ 9 rfl (decide_eq_true (by omega)) (gct rfl (gSk (gS (gBk (gS (gR (gM rfl (gM rfl (gg fun x1_1 h1_1 hx1_2 => ?_))))))))))))
   obtain ⟨b1_1, o1_1, c1_2, he⟩ := idx_form' h1 hx1_2
   simp only [Value.slice.injEq, Option.some.injEq] at he; obtain ⟨rfl, _, rfl⟩ := he
   obtain ⟨v1_1, v1_2, v1_3, hc1_1, h1_2, h1_3, h1_4⟩ := rk_Block_ h1 hx1_2
   refine gI st_43 h1_1 (idx_lt hx1_2) rfl (gF fo_61_0 rfl (gY (yl isAgg58 ((hc1_1.mono hm.lez).cell (j := 0) rfl) rfl) (gM rfl (gC hm rfl call98 (laws_heldPhiS_ok _ x1_1.phis v1_1 (hm.now h1_2) xs1_1) fun r1_1 hx1_3 w hm => gA rfl (gE (gS (gS (gR (gM rfl (gB rfl (gE (gsd 20 rfl (fun h1_5 => ?_) fun h1_5 => ?_))))))))))))
   ·
    exact gct rfl (gS (gR (gA rfl (gE (gRt (gLr ho0_1 hq0_1 (gr1 results55 rfl ⟨rfl, hm.below⟩)))))))
   refine gcf rfl (gSk (gS (gR (gM rfl (gM rfl (gI st_43 h1_1 (idx_lt hx1_2) rfl (gF fo_61_1 rfl (gY (yl isAgg59 ((hc1_1.mono hm.lez).cell (j := 1) rfl) rfl) (gM rfl (gC hm rfl call99 (laws_heldInsS_ok _ x1_1.ins v1_2 (hm.now h1_3) r1_1) fun r1_2 hx1_4 w hm => gA rfl (gE (gS (gS (gR (gM rfl (gB rfl (gE (gsd 29 rfl (fun h1_6 => ?_) fun h1_6 => ?_))))))))))))))))))
   ·
    exact gct rfl (gS (gR (gA rfl (gE (gRt (gLr ho0_1 hq0_1 (gr1 results55 rfl ⟨rfl, hm.below⟩)))))))
   refine gcf rfl (gSk (gS (gS (gR (gM rfl (gM rfl (gI st_43 h1_1 (idx_lt hx1_2) rfl (gF fo_61_2 rfl (gY (yl isAgg3 ((hc1_1.mono hm.lez).cell (j := 2) rfl) rfl) (gM rfl (gB rfl (gE (gsd 36 rfl (fun h1_7 => ?_) fun h1_7 => ?_)))))))))))))
   ·
    exact gct rfl (gS (gR (gA rfl (gE (gRt (gLr ho0_1 hq0_1 (gr1 results55 rfl ⟨rfl, hm.below⟩)))))))
   refine gcf rfl (gSk (gS (gR (gM rfl (gB rfl (gA rfl (gE (gS (gS (gR (gM rfl (gM rfl (gI st_43 h1_1 (idx_lt hx1_2) rfl (gF fo_61_3 rfl (gY (yl isAgg3 ((hc1_1.mono hm.lez).cell (j := 3) rfl) rfl) (gM rfl (gB rfl (gE (gsd 45 rfl (fun h1_8 => ?_) fun h1_8 => ?_)))))))))))))))))))
   ·
    exact gct rfl (gS (gR (gA rfl (gE (gRt (gLr ho0_1 hq0_1 (gr1 results55 rfl ⟨rfl, hm.below⟩)))))))
   refine gcf rfl (gSk (gS (gR (gM rfl (gB rfl (gA rfl (gE (gS (gR (gM rfl (gM rfl (gI st_43 h1_1 (idx_lt hx1_2) rfl (gF fo_61_4 rfl (gY (yl isAgg47 ((hc1_1.mono hm.lez).cell (j := 4) rfl) rfl) (gM rfl (gC hm rfl call100 (laws_heldIntS_ok _ x1_1.next_ v1_3 (hm.now h1_4) (w64 ((w64 (r1_2 + 1)) + 1))) fun r1_3 hx1_5 w hm => gA rfl (gE (gS (gR (gM rfl (gB rfl (gE (gsd 56 rfl (fun h1_9 => ?_) fun h1_9 => ?_)))))))))))))))))))))))
   ·
    exact gct rfl (gS (gR (gA rfl (gE (gRt (gLr ho0_1 hq0_1 (gr1 results55 rfl ⟨rfl, hm.below⟩)))))))
   exact gcf rfl (gSk (gR (gM rfl (gP (by omega) (by omega) rfl (gA rfl (gE (gze hm [] rfl)))))))
  repeat clear hm
  intro i0_1 xs0_1 w hm hi0_3 hi0_4
  refine gS (gS (gR (gM rfl (gM rfl ?_))))
  obtain ⟨p0_1, c0_1, rfl, hl0_1⟩ := ro_slice h1
  exact gY (yV st_43 rfl) (gB rfl (gE (go _ 9 rfl (decide_eq_false (by omega)) (gcf rfl (gXt (gHh (gS (gR (gM rfl (gA rfl (gE (gRt (gr1 results55 rfl ⟨rfl, hm.below⟩)))))))))))))

theorem laws_heldCodeS_ok (w0 : World) (a_ : List Code_) (v1 : Value) (h1 : GT.rep (hp w0) [v1] a_) (k_ : Int) :
    ConM Tryz.prog 36 [v1, (nV k_)] w0 (laws_heldCodeS a_ k_) fun r v w' => v = (nV r) ∧ Below w0.heap.size w0 w' := by
  unfold laws_heldCodeS
  refine gcon func36 rfl fun r => ?_
  have hm := Mem.start w0
  refine gS (gR (gA rfl (gE (gS (gS (gR (gA rfl (gE (gBk (gNf hm (fun i1_1 xs1_1 => [(0, v1), (1, (nV xs1_1)), (5, (nV i1_1))]) (fun i1_1 xs1_1 => []) [] rfl ?_ ?_))))))))))
  ·
   repeat clear hm
   intro r0_1 hq0_1 i1_1 xs1_1 w hm hi0_1 hi0_2 q0_1 ho0_1
   refine gS (gS (gR (gM rfl (gM rfl ?_))))
   obtain ⟨p1_1, c1_1, rfl, hl1_1⟩ := ro_slice h1
   refine gY (yV st_26 rfl) (gB rfl (gE (go _ 9 rfl (decide_eq_true (by omega)) (gct rfl (gSk (gS (gBk (gS (gS (gR (gM rfl (gM rfl (gg fun x1_1 h1_1 hx1_2 => ?_)))))))))))))
   obtain ⟨b1_1, o1_1, c1_2, he⟩ := idx_form' h1 hx1_2
   simp only [Value.slice.injEq, Option.some.injEq] at he; obtain ⟨rfl, _, rfl⟩ := he
   obtain ⟨v1_1, hc1_1, h1_2⟩ := rk_Code_ h1 hx1_2
   refine gI st_26 h1_1 (idx_lt hx1_2) rfl (gF fo_45_0 rfl (gY (yl isAgg3 ((hc1_1.mono hm.lez).cell (j := 0) rfl) rfl) (gM rfl (gB rfl (gE (gsd 18 rfl (fun h1_3 => ?_) fun h1_3 => ?_))))))
   ·
    exact gct rfl (gS (gR (gA rfl (gE (gRt (gLr ho0_1 hq0_1 (gr1 results36 rfl ⟨rfl, hm.below⟩)))))))
   refine gcf rfl (gSk (gS (gR (gM rfl (gB rfl (gA rfl (gE (gS (gS (gR (gM rfl (gM rfl (gI st_26 h1_1 (idx_lt hx1_2) rfl (gF fo_45_1 rfl (gY (yl isAgg3 ((hc1_1.mono hm.lez).cell (j := 1) rfl) rfl) (gM rfl (gB rfl (gE (gsd 27 rfl (fun h1_4 => ?_) fun h1_4 => ?_)))))))))))))))))))
   ·
    exact gct rfl (gS (gR (gA rfl (gE (gRt (gLr ho0_1 hq0_1 (gr1 results36 rfl ⟨rfl, hm.below⟩)))))))
   refine gcf rfl (gSk (gS (gR (gM rfl (gB rfl (gA rfl (gE (gS (gR (gM rfl (gM rfl (gI st_26 h1_1 (idx_lt hx1_2) rfl (gF fo_45_2 rfl (gY (yl isAgg43 ((hc1_1.mono hm.lez).cell (j := 2) rfl) rfl) (gM rfl (gC hm rfl call55 (laws_heldBlockS_ok _ x1_1.blocks v1_1 (hm.now h1_2) (w64 ((w64 (xs1_1 + 1)) + 1))) fun r1_1 hx1_3 w hm => gA rfl (gE (gS (gR (gM rfl (gB rfl (gE (gsd 38 rfl (fun h1_5 => ?_) fun h1_5 => ?_)))))))))))))))))))))))
   ·
    exact gct rfl (gS (gR (gA rfl (gE (gRt (gLr ho0_1 hq0_1 (gr1 results36 rfl ⟨rfl, hm.below⟩)))))))
   exact gcf rfl (gSk (gR (gM rfl (gP (by omega) (by omega) rfl (gA rfl (gE (gze hm [] rfl)))))))
  repeat clear hm
  intro i0_1 xs0_1 w hm hi0_3 hi0_4
  refine gS (gS (gR (gM rfl (gM rfl ?_))))
  obtain ⟨p0_1, c0_1, rfl, hl0_1⟩ := ro_slice h1
  exact gY (yV st_26 rfl) (gB rfl (gE (go _ 9 rfl (decide_eq_false (by omega)) (gcf rfl (gXt (gHh (gS (gR (gM rfl (gA rfl (gE (gRt (gr1 results36 rfl ⟨rfl, hm.below⟩)))))))))))))

theorem laws_heldUnit_ok (w0 : World) (a_ : Unit_) (v1 : Value) (h1 : GT.rep (hp w0) [v1] a_.codes) (k_ : Int) :
    ConM Tryz.prog 16 [(.agg #[v1]), (nV k_)] w0 (laws_heldUnit a_ k_) fun r v w' => v = (nV r) ∧ Below w0.heap.size w0 w' := by
  unfold laws_heldUnit
  refine gcon func16 rfl fun r => ?_
  have hm := Mem.start w0
  refine gS (gR (gBx hm rfl fun b0_1 w hm => gA rfl (gE (gS (gR (gF fo_28_0 rfl (gL hm 0 isAgg26 rfl (gM rfl (gC hm rfl call36 (laws_heldCodeS_ok _ a_.codes v1 (hm.now h1) k_) fun r0_1 hx0_1 w hm => gA rfl (gE (gS (gS (gR (gM rfl (gB rfl (gE (gsd 10 rfl (fun h0_1 => ?_) fun h0_1 => ?_)))))))))))))))))
  ·
   exact gct rfl (gS (gR (gA rfl (gE (gRt (gr1 results16 rfl ⟨rfl, hm.below⟩))))))
  exact gcf rfl (gSk (gS (gR (gM rfl (gA rfl (gE (gRt (gr1 results16 rfl ⟨rfl, hm.below⟩))))))))

theorem laws_FnExactEvenJumps_ok (w0 : World) (aU : Unit_) (v1 : Value) (h1 : GT.rep (hp w0) [v1] aU.codes) :
    ConM Tryz.prog 3 [(.agg #[v1])] w0 (laws_FnExactEvenJumps aU) fun r v w' => v = (.bool (r)) ∧ Below w0.heap.size w0 w' := by
  unfold laws_FnExactEvenJumps
  refine gcon func3 rfl fun r => ?_
  have hm := Mem.start w0
  refine gS (gR (gBx hm rfl fun b0_1 w hm => gA rfl (gE (gS (gR (gA rfl (gE (gS (gR (gY (yn (hm.blk_at 0 rfl) isAgg24 sizeOf24 rfl) (gM rfl (gC hm rfl call10 (laws_szUnit_ok _ aU v1 (hm.now h1) 1048576) fun r0_1 hx0_1 w hm => gA rfl (gE (gS (gS (gR (gM rfl (gB rfl (gE (gsd 18 rfl (fun h0_1 => ?_) fun h0_1 => ?_))))))))))))))))))))
  ·
   exact gct rfl (gS (gR (gA rfl (gE (gRt (gr1 results3 rfl ⟨rfl, hm.below⟩))))))
  refine gcf rfl (gSk (gS (gR (gY (yn (hm.blk_at 0 rfl) isAgg24 sizeOf24 rfl) (gCg rfl call12 (laws_toUnit_ok _ aU v1 (hm.now h1)) ?_)))))
  rintro r0_2 hx0_2 v0_2 w ⟨v0_3, rfl, hB⟩
  replace hm := hm.give hB; clear hB
  refine gCg rfl call11 (spec_EvenJumps_ok _ r0_2 v0_3 (hm.ow_rep 0 rfl)) ?_
  rintro r0_3 hx0_3 v0_4 w ⟨v0_5, rfl, hB⟩
  replace hm := hm.give hB; clear hB
  refine gM rfl (gX rfl (gX rfl (gAl hm zeroValue28 rfl fun b0_2 w hm => gSN hm 0 sizeOf28 (one_cons (rep_one (hm.ow_rep 1 rfl)) one_nil) rfl fun w hm => gA rfl (gE (gS (gR (gY (yn (hm.blk_at 3 rfl) isAgg24 sizeOf24 rfl) (gCg rfl call12 (laws_toUnit_ok _ aU v1 (hm.now h1)) ?_))))))))
  rintro r0_4 hx0_4 v0_6 w ⟨v0_7, rfl, hB⟩
  replace hm := hm.give hB; clear hB
  refine gAl hm zeroValue28 rfl fun b0_3 w hm => gSN hm 0 sizeOf28 (one_cons (rep_one (hm.ow_rep 1 rfl)) one_nil) rfl fun w hm => gE (gS (gR (gY (yn (hm.blk_at 0 rfl) isAgg28 sizeOf28 rfl) (gCg rfl call13 (impl_EvenJumps_ok _ r0_4 v0_7 (hm.ow_rep 1 rfl)) ?_))))
  rintro r0_5 hx0_5 v0_8 w ⟨v0_9, rfl, hB⟩
  replace hm := hm.give hB; clear hB
  refine gM rfl (gX rfl (gX rfl (gAl hm zeroValue28 rfl fun b0_4 w hm => gSN hm 0 sizeOf28 (one_cons (rep_one (hm.ow_rep 1 rfl)) one_nil) rfl fun w hm => gA rfl (gE (gS (gS (gJ hm (fun s0_1 => [(1, (pV b0_1)), (4, (pV b0_2)), (5, (.bool (r0_3.2))), (6, (pV b0_3)), (7, (pV b0_4)), (8, (.bool (r0_5.2))), (40, (.bool (s0_1)))]) (fun s0_1 => [blk b0_1 [v1] 24, blk b0_2 [v0_5] 28, ow [v0_5] r0_3.1.codes, blk b0_3 [v0_7] 28, ow [v0_7] r0_4.codes, blk b0_4 [v0_9] 28, ow [v0_9] r0_5.1.codes]) (fun s0_1 => ?_) ?_)))))))
  ·
   refine gR (gY (yn (hm.blk_at 0 rfl) isAgg28 sizeOf28 rfl) (gY (yn (hm.blk_at 4 rfl) isAgg28 sizeOf28 rfl) (gC hm rfl call14 (laws_eqUnit_ok _ r0_5.1 v0_9 (hm.ow_rep 1 rfl) r0_3.1 v0_5 (hm.ow_rep 5 rfl)) fun r1_1 hx1_1 w hm => gN rfl (gM rfl (gsn 36 rfl (fun h1_1 => ?_) fun h1_1 => ?_)))))
   ·
    exact gO rfl (gO rfl (gO rfl (gKt rfl (gE (gz hm [7, 4, 5, 2, 3, 0, 1] rfl)))))
   exact gM rfl (gM rfl (gY (yG rfl (y_neqb underlying4 rfl rfl rfl)) (gKf rfl (gE (gz hm [7, 4, 5, 2, 3, 0, 1] rfl)))))
  repeat clear hm
  intro s0_1 w hm
  refine gs 40 rfl (fun h0_2 => ?_) fun h0_2 => ?_
  ·
   exact gct rfl (gS (gR (gA rfl (gE (gRt (gr1 results3 rfl ⟨rfl, hm.below⟩))))))
  refine gcf rfl (gSk (gS (gS (gW (.q 0 (.e 1 (.e 2 (.e 3 (.p 4 .fin) .nil) .nil) .nil)) [1, 2] [4] hm [0, 1, 2, 3, 4, 5, 6] [blk b0_1 [v1] 24, blk b0_2 [v0_5] 28, ow [v0_5] r0_3.1.codes, blk b0_3 [v0_7] 28, ow [v0_7] r0_4.codes, blk b0_4 [v0_9] 28, ow [v0_9] r0_5.1.codes] rfl mxo (by kernel_rfl) (fun _ _ _ h => h.2) fun w hm hS => tQ rfl hS (fun w hm => yn (hm.blk_at 3 rfl) isAgg28 sizeOf28 rfl) (tO (tY rfl (yn (hm.blk_at 0 rfl) isAgg24 sizeOf24 rfl) (tAs hS (tO (gb fun r0_6 hx0_6 => tf rfl rfl (fun a hf => e_call hf rfl call12 rfl (laws_toUnit_ok _ aU v1 (hm.now h1) _ hx0_6)) ?_)))))))))
  rintro v0_10 w ⟨v0_11, rfl, hB⟩
  replace hm := hm.give hB; clear hB
  refine tAk hm [1, 2, 3, 4, 5, 6, 7] rfl fun hS => tO (gb fun r0_7 hx0_7 => tf rfl rfl (fun a hf => e_call hf rfl call14 rfl (laws_eqUnit_ok _ r0_4 v0_7 (hm.ow_rep 5 rfl) r0_6 v0_11 (hm.ow_rep 0 rfl) _ hx0_7)) ?_)
  rintro v0_12 w ⟨rfl, hB⟩
  replace hm := hm.below' hB; clear hB
  refine tAn rfl (tP rfl (fun w => yN rfl) (tE (gsn 45 rfl (fun h0_3 => ?_) fun h0_3 => ?_)))
  ·
   exact gct rfl (gS (gR (gA rfl (gE (gRt (gr1 results3 rfl ⟨rfl, hm.below⟩))))))
  refine gcf rfl (gSk (gS (gR (gA rfl (gE (gS (gR (gY (yn (hm.blk_at 4 rfl) isAgg28 sizeOf28 rfl) (gM rfl ?_)))))))))
  obtain ⟨hz0_6, hle, hm1, hsub, hk0_1⟩ := hm.take2 (L1 := [ow [v0_7] r0_4.codes]) (L2 := [ow [v0_11] r0_6.codes, blk b0_1 [v1] 24, blk b0_2 [v0_5] 28, ow [v0_5] r0_3.1.codes, blk b0_3 [v0_7] 28, blk b0_4 [v0_9] 28, ow [v0_9] r0_5.1.codes]) [5] [0, 1, 2, 3, 4, 6, 7] (by decide) rfl rfl
  refine gCg rfl call15 (laws_markUnit_ok _ hz0_6 r0_4 v0_7 1 hm1 ) ?_
  rintro r0_8 hx0_8 v0_13 w ⟨rfl, hB⟩
  replace hm := hk0_1 _ _ hB; clear hB
  refine gA rfl (gE (gS (gS (gJ hm (fun s0_2 => [(1, (pV b0_1)), (4, (pV b0_2)), (5, (.bool (r0_3.2))), (7, (pV b0_4)), (61, (.bool (s0_2)))]) (fun s0_2 => [blk b0_1 [v1] 24, blk b0_2 [v0_5] 28, ow [v0_5] r0_3.1.codes, blk b0_4 [v0_9] 28, ow [v0_9] r0_5.1.codes]) (fun s0_2 => ?_) ?_))))
  ·
   refine gR (gM rfl (gB rfl (gM rfl (gsd 51 rfl (fun h1_2 => ?_) fun h1_2 => ?_))))
   ·
    exact gO rfl (gO rfl (gO rfl (gO rfl (gKt rfl (gM rfl (gO rfl (gO rfl (gO rfl (gKt rfl (gE (gz hm [2, 3, 4, 6, 7] rfl)))))))))))
   refine gY (yn (hm.blk_at 6 rfl) isAgg28 sizeOf28 rfl) (gY (yn (hm.blk_at 3 rfl) isAgg28 sizeOf28 rfl) (gC hm rfl call14 (laws_eqUnit_ok _ r0_5.1 v0_9 (hm.ow_rep 7 rfl) r0_3.1 v0_5 (hm.ow_rep 4 rfl)) fun r1_2 hx1_2 w hm => gN rfl (gKf rfl (gM rfl (gsn 57 rfl (fun h1_3 => ?_) fun h1_3 => ?_)))))
   ·
    exact gO rfl (gO rfl (gO rfl (gKt rfl (gE (gz hm [2, 3, 4, 6, 7] rfl)))))
   exact gM rfl (gM rfl (gY (yG rfl (y_neqb underlying4 rfl rfl rfl)) (gKf rfl (gE (gz hm [2, 3, 4, 6, 7] rfl)))))
  repeat clear hm
  intro s0_2 w hm
  refine gs 61 rfl (fun h0_4 => ?_) fun h0_4 => ?_
  ·
   exact gct rfl (gS (gR (gA rfl (gE (gRt (gr1 results3 rfl ⟨rfl, hm.below⟩))))))
  refine gcf rfl (gSk (gS (gR (gA rfl (gE (gS (gR (gY (yn (hm.blk_at 3 rfl) isAgg28 sizeOf28 rfl) (gM rfl ?_)))))))))
  obtain ⟨hz0_8, hle, hm1, hsub, hk0_2⟩ := hm.take2 (L1 := [ow [v0_9] r0_5.1.codes]) (L2 := [blk b0_1 [v1] 24, blk b0_2 [v0_5] 28, ow [v0_5] r0_3.1.codes, blk b0_4 [v0_9] 28]) [4] [0, 1, 2, 3] (by decide) rfl rfl
  refine gCg rfl call15 (laws_markUnit_ok _ hz0_8 r0_5.1 v0_9 1 hm1 ) ?_
  rintro r0_9 hx0_9 v0_14 w ⟨rfl, hB⟩
  replace hm := hk0_2 _ _ hB; clear hB
  refine gA rfl (gE (gS (gR (gA rfl (gE (gS (gR (gY (yn (hm.blk_at 4 rfl) isAgg28 sizeOf28 rfl) (gM rfl (gC hm rfl call16 (laws_heldUnit_ok _ (⟨r0_9.2⟩ : Unit_) v0_9 (hm.ow_rep 0 rfl) 1) fun r0_10 hx0_10 w hm => gA rfl (gE (gS (gS (gR (gM rfl (gB rfl (gE (gsd 69 rfl (fun h0_5 => ?_) fun h0_5 => ?_))))))))))))))))))
  ·
   exact gct rfl (gS (gR (gA rfl (gE (gRt (gr1 results3 rfl ⟨rfl, hm.below⟩))))))
  refine gcf rfl (gSk (gS (gS (gR (gM rfl (gM rfl (gB rfl (gE (gsd 72 rfl (fun h0_6 => ?_) fun h0_6 => ?_)))))))))
  ·
   exact gct rfl (gS (gR (gA rfl (gE (gRt (gr1 results3 rfl ⟨rfl, hm.below⟩))))))
  refine gcf rfl (gSk (gS (gR (gY (yn (hm.blk_at 1 rfl) isAgg24 sizeOf24 rfl) (gCg rfl call12 (laws_toUnit_ok _ aU v1 (hm.now h1)) ?_)))))
  rintro r0_11 hx0_11 v0_16 w ⟨v0_17, rfl, hB⟩
  replace hm := hm.give hB; clear hB
  refine gCg rfl call13 (impl_EvenJumps_ok _ r0_11 v0_17 (hm.ow_rep 0 rfl)) ?_
  rintro r0_12 hx0_12 v0_18 w ⟨v0_19, rfl, hB⟩
  replace hm := hm.give hB; clear hB
  refine gM rfl (gX rfl (gX rfl (gAl hm zeroValue28 rfl fun b0_5 w hm => gSN hm 0 sizeOf28 (one_cons (rep_one (hm.ow_rep 1 rfl)) one_nil) rfl fun w hm => gA rfl (gE (gS (gS (gJ hm (fun s0_3 => [(7, (pV b0_4)), (10, (nV r0_9.1)), (87, (.bool (s0_3)))]) (fun s0_3 => [blk b0_4 [v0_9] 28, ow [v0_9] r0_9.2]) (fun s0_3 => ?_) ?_)))))))
  ·
   refine gR (gY (yn (hm.blk_at 0 rfl) isAgg28 sizeOf28 rfl) (gY (yn (hm.blk_at 5 rfl) isAgg28 sizeOf28 rfl) (gC hm rfl call14 (laws_eqUnit_ok _ r0_12.1 v0_19 (hm.ow_rep 1 rfl) r0_3.1 v0_5 (hm.ow_rep 6 rfl)) fun r1_3 hx1_3 w hm => gN rfl (gM rfl (gsn 83 rfl (fun h1_4 => ?_) fun h1_4 => ?_)))))
   ·
    exact gO rfl (gO rfl (gO rfl (gKt rfl (gE (gz hm [7, 3] rfl)))))
   exact gM rfl (gM rfl (gY (yG rfl (y_neqb underlying4 rfl rfl rfl)) (gKf rfl (gE (gz hm [7, 3] rfl)))))
  repeat clear hm
  intro s0_3 w hm
  refine gs 87 rfl (fun h0_7 => ?_) fun h0_7 => ?_
  ·
   exact gct rfl (gS (gR (gA rfl (gE (gRt (gr1 results3 rfl ⟨rfl, hm.below⟩))))))
  refine gcf rfl (gSk (gS (gR (gA rfl (gE (gS (gR (gY (yn (hm.blk_at 0 rfl) isAgg28 sizeOf28 rfl) (gM rfl (gC hm rfl call16 (laws_heldUnit_ok _ (⟨r0_9.2⟩ : Unit_) v0_9 (hm.ow_rep 1 rfl) 1) fun r0_13 hx0_13 w hm => gA rfl (gE (gS (gS (gR (gM rfl (gB rfl (gE (gsd 92 rfl (fun h0_8 => ?_) fun h0_8 => ?_))))))))))))))))))
  ·
   exact gct rfl (gS (gR (gA rfl (gE (gRt (gr1 results3 rfl ⟨rfl, hm.below⟩))))))
  refine gcf rfl (gSk (gS (gS (gR (gM rfl (gM rfl (gB rfl (gE (gsd 95 rfl (fun h0_9 => ?_) fun h0_9 => ?_)))))))))
  ·
   exact gct rfl (gS (gR (gA rfl (gE (gRt (gr1 results3 rfl ⟨rfl, hm.below⟩))))))
  exact gcf rfl (gSk (gS (gR (gA rfl (gE (gRt (gr1 results3 rfl ⟨rfl, hm.below⟩)))))))

end Go.Proofs.YtjkdjdicpfjifaaGreat
