/- A part of the proof of FnNumbersCardSaid. -/
import Derived.Test.YtjbcoilagfdidaaDoorNuWalksA
namespace Go.Proofs.YtjbcoilagfdidaaDoor
open Go Go.Wk Go.RowKit
set_option maxRecDepth 4000
set_option maxHeartbeats 4000000

open Tryd
theorem spec_l7Bent_ok (w0 : World) (hz : Heap) (r_ : l30Rd) (bp0 : Nat) (v1p : Value) (h1p : GT.rep hz [v1p] r_.b) (hm0 : Mem w0 hz w0 [blk bp0 [v1p, (nV r_.p)] 72]) :
    ConM Tryd.prog 12 [(pV bp0)] w0 (spec_l7Bent r_) fun r v w' => ∃ (x1 : Value), v = (.agg #[x1]) ∧ Mem w0 hz w' [blk bp0 [v1p, (nV r.2.p)] 72, ow [x1] r.1.codes] := by
  unfold spec_l7Bent
  refine gcon func12 rfl fun r => ?_
  have hm := hm0
  refine gS (gR (gAl hm zeroValue25 rfl fun b0_1 w hm => gE (gS (gR (gM rfl ?_)))))
  obtain ⟨hz0_1, hle, hm1, hsub, hk0_1⟩ := hm.take2 (L1 := [blk bp0 [v1p, (nV r_.p)] 72]) (L2 := [blk b0_1 [(.slice none 0 0)] 25]) [1] [0] (by decide) rfl rfl
  refine gCg rfl call28 (spec_l7Unit_ok _ hz0_1 r_ bp0 v1p (GT.mono hle h1p) hm1 ) ?_
  rintro r0_1 hx0_1 v0_1 w ⟨v0_2, rfl, hB⟩
  replace hm := hk0_1 _ _ hB; clear hB
  refine gCg rfl call27 (spec_l7CopyUnit_ok _ r0_1.1 v0_2 (hm.ow_rep 1 rfl)) ?_
  rintro r0_2 hx0_2 v0_3 w ⟨v0_4, rfl, hB⟩
  replace hm := hm.give hB; clear hB
  refine gAl hm zeroValue25 rfl fun b0_2 w hm => gSN hm 0 sizeOf25 (one_cons (rep_one (hm.ow_rep 1 rfl)) one_nil) rfl fun w hm => gE (gS (gW (.p 0 (.p 2 (.p 3 (.q 1 (.e 4 (.p 5 (.e 6 (.p 7 (.p 8 .fin)) .nil)) .nil))))) [4, 6] [0, 2, 3, 5, 7, 8] hm [0, 1, 3, 4] [blk b0_2 [v0_4] 25, ow [v0_4] r0_2.codes, ow [v0_2] r0_1.1.codes, blk b0_1 [(.slice none 0 0)] 25] rfl mxo (by kernel_rfl) (fun _ _ _ h => h.2) fun w hm hS => tP rfl (fun w => yF fo_25_0 rfl) (tP rfl (fun w => yM rfl) (tP rfl (fun w => yF fo_25_0 rfl) (tQ rfl hS (fun w hm => yL hm 0 isAgg23 rfl) (tO (tY rfl (yL hm 0 isAgg23 rfl) (tAs hS ?_))))))))
  obtain ⟨p0_1, c0_1, rfl, hl0_1⟩ := ro_slice (hm.ow_rep 1 rfl)
  refine tP rfl (fun w => yV st_23 rfl) (tO (gb fun r0_3 hx0_3 => ?_))
  obtain ⟨hz0_4, hle, hm1, hsub, hk0_2⟩ := hm.take2 (L1 := [blk bp0 [v1p, (nV r0_1.2.p)] 72]) (L2 := [blk b0_2 [(.slice p0_1 r0_2.codes.length c0_1)] 25, ow [(.slice p0_1 r0_2.codes.length c0_1)] r0_2.codes, ow [v0_2] r0_1.1.codes, blk b0_1 [(.slice none 0 0)] 25]) [2] [0, 1, 3, 4] (by decide) rfl rfl
  refine tf rfl rfl (fun a hf => e_call hf rfl call29 rfl (pspec_l30Rd__pick_ok _ hz0_4 (⟨r_.b, r0_1.2.p⟩ : l30Rd) bp0 v1p (GT.mono hle h1p) (r0_2.codes.length : Int) hm1  _ hx0_3)) ?_
  rintro v0_5 w ⟨rfl, hB⟩
  replace hm := hk0_2 _ _ hB; clear hB
  refine tAk hm [1, 2, 3, 4] rfl fun hS => gg fun x0_1 h0_1 hx0_5 => ?_
  obtain ⟨b0_3, o0_1, c0_2, he⟩ := idx_form' (hm.ow_rep 2 rfl) hx0_5
  simp only [Value.slice.injEq, Option.some.injEq] at he; obtain ⟨rfl, _, rfl⟩ := he
  obtain ⟨v0_6, hc0_1, h0_2⟩ := rk_Code_ (hm.ow_rep 2 rfl) hx0_5
  refine tP rfl (fun w => yI st_23 h0_1 (idx_lt hx0_5) rfl) (tP rfl (fun w => yA rfl) (tE ?_))
  obtain ⟨v0_7, hm⟩ := pin_Code_ hm 2 rfl hx0_5
  refine gS (gW (.p 0 (.p 1 (.p 2 (.p 4 (.p 5 (.p 6 (.p 7 (.q 3 (.e 8 (.p 9 (.e 10 (.p 11 (.p 12 .fin)) .nil)) .nil))))))))) [8, 10] [0, 1, 2, 4, 5, 6, 7, 9, 11, 12] hm [0, 2, 3, 4, 5] [ow [v0_7] x0_1.blocks, blk b0_2 [(sV b0_3 o0_1 r0_2.codes.length c0_1)] 25, holeE b0_3 o0_1 r0_2.codes.length c0_1 (r0_2.codes : List Code_) (r0_3.1).toNat [(nV x0_1.params), (nV x0_1.regs), v0_7], ow [v0_2] r0_1.1.codes, blk b0_1 [(.slice none 0 0)] 25] rfl mxo (by kernel_rfl) (fun _ _ _ h => h.2) fun w hm hS => tP rfl (fun w => yM rfl) (tP rfl (fun w => yG rfl (y_nilptr rfl rfl)) (tP rfl (fun w => yF fo_45_2 rfl) (tP rfl (fun w => yM rfl) (tP rfl (fun w => yM rfl) (tP rfl (fun w => yG rfl (y_nilptr rfl rfl)) (tP rfl (fun w => yF fo_45_2 rfl) (tQ rfl hS (fun w hm => yl isAgg43 ((hm.holeE_at 2 rfl).cell (j := 2) rfl) rfl) (tO (tY rfl (yl isAgg43 ((hm.holeE_at 3 rfl).cell (j := 2) rfl) rfl) (tAs hS ?_)))))))))))
  obtain ⟨p0_2, c0_3, rfl, hl0_2⟩ := ro_slice (hm.ow_rep 0 rfl)
  refine tP rfl (fun w => yV st_43 rfl) (tO (gb fun r0_4 hx0_6 => ?_))
  obtain ⟨hz0_6, hle, hm1, hsub, hk0_3⟩ := hm.take2 (L1 := [blk bp0 [v1p, (nV r0_3.2.p)] 72]) (L2 := [ow [(.slice p0_2 x0_1.blocks.length c0_3)] x0_1.blocks, blk b0_2 [(sV b0_3 o0_1 r0_2.codes.length c0_1)] 25, holeE b0_3 o0_1 r0_2.codes.length c0_1 (r0_2.codes : List Code_) (r0_3.1).toNat [(nV x0_1.params), (nV x0_1.regs), (.slice p0_2 x0_1.blocks.length c0_3)], ow [v0_2] r0_1.1.codes, blk b0_1 [(.slice none 0 0)] 25]) [1] [0, 2, 3, 4, 5] (by decide) rfl rfl
  refine tf rfl rfl (fun a hf => e_call hf rfl call29 rfl (pspec_l30Rd__pick_ok _ hz0_6 (⟨r_.b, r0_3.2.p⟩ : l30Rd) bp0 v1p (GT.mono hle h1p) (x0_1.blocks.length : Int) hm1  _ hx0_6)) ?_
  rintro v0_8 w ⟨rfl, hB⟩
  replace hm := hk0_3 _ _ hB; clear hB
  refine tAk hm [1, 2, 3, 4, 5] rfl fun hS => gg fun x0_2 h0_3 hx0_8 => ?_
  obtain ⟨b0_4, o0_2, c0_4, he⟩ := idx_form' (hm.ow_rep 1 rfl) hx0_8
  simp only [Value.slice.injEq, Option.some.injEq] at he; obtain ⟨rfl, _, rfl⟩ := he
  obtain ⟨v0_9, v0_10, v0_11, hc0_2, h0_4, h0_5, h0_6⟩ := rk_Block_ (hm.ow_rep 1 rfl) hx0_8
  refine tP rfl (fun w => yI st_43 h0_3 (idx_lt hx0_8) rfl) (tP rfl (fun w => yA rfl) (tE ?_))
  obtain ⟨v0_12, v0_13, v0_14, hm⟩ := pin_Block_ hm 1 rfl hx0_8
  refine gS (gW (.p 0 (.p 1 (.p 2 (.p 3 (.p 5 (.p 6 (.p 7 (.q 4 (.e 8 (.p 9 (.e 10 (.e 11 (.p 12 .fin) .nil) .nil)) .nil))))))))) [8] [0, 1, 2, 3, 5, 6, 7, 9, 12] hm [0, 1, 2, 3, 4, 5, 6, 7, 8] [ow [v0_14] x0_2.next_, ow [v0_13] x0_2.ins, ow [v0_12] x0_2.phis, blk bp0 [v1p, (nV r0_4.2.p)] 72, holeE b0_4 o0_2 x0_1.blocks.length c0_3 (x0_1.blocks : List Block_) (r0_4.1).toNat [v0_12, v0_13, (nV x0_2.jump), (nV x0_2.on), v0_14], blk b0_2 [(sV b0_3 o0_1 r0_2.codes.length c0_1)] 25, holeE b0_3 o0_1 r0_2.codes.length c0_1 (r0_2.codes : List Code_) (r0_3.1).toNat [(nV x0_1.params), (nV x0_1.regs), (sV b0_4 o0_2 x0_1.blocks.length c0_3)], ow [v0_2] r0_1.1.codes, blk b0_1 [(.slice none 0 0)] 25] rfl mxo (by kernel_rfl) (fun _ _ _ h => h.2) fun w hm hS => tP rfl (fun w => yM rfl) (tP rfl (fun w => yM rfl) (tP rfl (fun w => yG rfl (y_nilptr rfl rfl)) (tP rfl (fun w => yF fo_45_1 rfl) (tP rfl (fun w => yM rfl) (tP rfl (fun w => yG rfl (y_nilptr rfl rfl)) (tP rfl (fun w => yF fo_45_2 rfl) (tQ rfl hS (fun w hm => yl isAgg3 ((hm.holeE_at 6 rfl).cell (j := 1) rfl) rfl) (tO (tY rfl (yl isAgg43 ((hm.holeE_at 6 rfl).cell (j := 2) rfl) rfl) (tAs hS (tP rfl (fun w => yV st_43 rfl) (tO (tf rfl rfl (fun a hf => e_build (vs := #[(0, (nV (-1))), (1, (nV x0_1.regs)), (2, (nV ((x0_1.blocks.length : Int)))), (3, (nV 0)), (4, (nV 1))]) (cs := [(nV (-1)), (nV x0_1.regs), (nV ((x0_1.blocks.length : Int))), (nV 0), (nV 1)]) et_29 hf hm rfl rfl (by kernel_rfl) rfl rfl) ?_))))))))))))))
  rintro _ w ⟨b0_5, rfl, hm⟩
  replace hm := hm.lit (xs := ([-1, x0_1.regs, (x0_1.blocks.length : Int), 0, 1] : List Int)) 0 rfl rfl rfl rfl
  refine tAn rfl (tO (gb fun r0_5 hx0_9 => ?_))
  obtain ⟨hz0_8, hle, hm1, hsub, hk0_4⟩ := hm.take2 (L1 := [blk bp0 [v1p, (nV r0_4.2.p)] 72]) (L2 := [ow [(sV b0_5 0 5 5)] ([-1, x0_1.regs, (x0_1.blocks.length : Int), 0, 1] : List Int), ow [v0_14] x0_2.next_, ow [v0_13] x0_2.ins, ow [v0_12] x0_2.phis, holeE b0_4 o0_2 x0_1.blocks.length c0_3 (x0_1.blocks : List Block_) (r0_4.1).toNat [v0_12, v0_13, (nV x0_2.jump), (nV x0_2.on), v0_14], blk b0_2 [(sV b0_3 o0_1 r0_2.codes.length c0_1)] 25, holeE b0_3 o0_1 r0_2.codes.length c0_1 (r0_2.codes : List Code_) (r0_3.1).toNat [(nV x0_1.params), (nV x0_1.regs), (sV b0_4 o0_2 x0_1.blocks.length c0_3)], ow [v0_2] r0_1.1.codes, blk b0_1 [(.slice none 0 0)] 25]) [4] [0, 1, 2, 3, 5, 6, 7, 8, 9] (by decide) rfl rfl
  refine tf rfl rfl (fun a hf => e_call hf rfl call30 rfl (pspec_l30Rd__num_ok _ hz0_8 (⟨r_.b, r0_4.2.p⟩ : l30Rd) bp0 v1p (GT.mono hle h1p) ([-1, x0_1.regs, (x0_1.blocks.length : Int), 0, 1] : List Int) (sV b0_5 0 5 5) (fz_ow (hsub 0 _ rfl)) hm1  _ hx0_9)) ?_
  rintro v0_15 w ⟨rfl, hB⟩
  replace hm := hk0_4 _ _ hB; clear hB
  refine tAn rfl (tP rfl (fun w => yA rfl) (tE (gS (gS (gR (gM rfl ?_))))))
  obtain ⟨hz0_10, hle, hm1, hsub, hk0_5⟩ := hm.take2 (L1 := [blk bp0 [v1p, (nV r0_5.2.p)] 72]) (L2 := [ow [(sV b0_5 0 5 5)] ([-1, x0_1.regs, (x0_1.blocks.length : Int), 0, 1] : List Int), ow [v0_14] x0_2.next_, ow [v0_13] x0_2.ins, ow [v0_12] x0_2.phis, holeE b0_4 o0_2 x0_1.blocks.length c0_3 (x0_1.blocks : List Block_) (r0_4.1).toNat [v0_12, v0_13, (nV x0_2.jump), (nV x0_2.on), v0_14], blk b0_2 [(sV b0_3 o0_1 r0_2.codes.length c0_1)] 25, holeE b0_3 o0_1 r0_2.codes.length c0_1 (r0_2.codes : List Code_) (r0_3.1).toNat [(nV x0_1.params), (nV x0_1.regs), (sV b0_4 o0_2 x0_1.blocks.length c0_3)], ow [v0_2] r0_1.1.codes, blk b0_1 [(.slice none 0 0)] 25]) [0] [1, 2, 3, 4, 5, 6, 7, 8, 9] (by decide) rfl rfl
  refine gCg rfl call29 (pspec_l30Rd__pick_ok _ hz0_10 (⟨r_.b, r0_5.2.p⟩ : l30Rd) bp0 v1p (GT.mono hle h1p) 32 hm1 ) ?_
  rintro r0_6 hx0_10 v0_16 w ⟨rfl, hB⟩
  replace hm := hk0_5 _ _ hB; clear hB
  refine gE (gJ hm (fun s0_1 => [(2, (pV b0_1)), (3, (pV b0_2))]) (fun s0_1 => [blk b0_1 [(.slice none 0 0)] 25, blk b0_2 [(sV b0_3 o0_1 r0_2.codes.length c0_1)] 25, ow [(sV b0_3 o0_1 r0_2.codes.length c0_1)] s0_1.1, blk bp0 [v1p, (nV s0_1.2)] 72]) (fun s0_1 => ?_) ?_)
  ·
   refine gBk (gS (gR (gB rfl (gA rfl (gE (gJ hm (fun s1_1 => [(2, (pV b0_1)), (3, (pV b0_2))]) (fun s1_1 => [blk b0_1 [(.slice none 0 0)] 25, blk b0_2 [(sV b0_3 o0_1 r0_2.codes.length c0_1)] 25, ow [(sV b0_3 o0_1 r0_2.codes.length c0_1)] s1_1.1, blk bp0 [v1p, (nV s1_1.2)] 72]) (fun s1_1 => ?_) ?_))))))
   ·
    refine gsd 44 rfl (fun h2_1 => ?_) fun h2_1 => ?_
    ·
     refine gct rfl (gR (gM rfl (gM rfl ?_)))
     obtain ⟨hz2_1, hle, hm1, hsub, hk2_1⟩ := hm.take2 (L1 := [blk bp0 [v1p, (nV r0_6.2.p)] 72]) (L2 := [ow [(sV b0_5 0 5 5)] ([-1, x0_1.regs, (x0_1.blocks.length : Int), 0, 1] : List Int), ow [v0_14] x0_2.next_, ow [v0_13] x0_2.ins, ow [v0_12] x0_2.phis, holeE b0_4 o0_2 x0_1.blocks.length c0_3 (x0_1.blocks : List Block_) (r0_4.1).toNat [v0_12, v0_13, (nV x0_2.jump), (nV x0_2.on), v0_14], blk b0_2 [(sV b0_3 o0_1 r0_2.codes.length c0_1)] 25, holeE b0_3 o0_1 r0_2.codes.length c0_1 (r0_2.codes : List Code_) (r0_3.1).toNat [(nV x0_1.params), (nV x0_1.regs), (sV b0_4 o0_2 x0_1.blocks.length c0_3)], ow [v0_2] r0_1.1.codes, blk b0_1 [(.slice none 0 0)] 25]) [0] [1, 2, 3, 4, 5, 6, 7, 8, 9] (by decide) rfl rfl
     refine gCg rfl call29 (pspec_l30Rd__pick_ok _ hz2_1 (⟨r_.b, r0_6.2.p⟩ : l30Rd) bp0 v1p (GT.mono hle h1p) 5 hm1 ) ?_
     rintro r2_1 hx2_1 v2_1 w ⟨rfl, hB⟩
     replace hm := hk2_1 _ _ hB; clear hB
     refine gY (yG rfl (y_nilptr rfl rfl)) (gF fo_65_2 rfl ?_)
     have h12_1 : ∀ u ∈ ([(nV r2_1.1)] : List Value), u.oneCell' = true := (one_cons rfl one_nil)
     refine gf0 rfl (fun a hf => e_storeH (j := 2) (vs := [(nV r2_1.1)]) 5 hf hm rfl rfl rfl sizeOf3 rfl rfl rfl h12_1 rfl) ?_
     rintro _ w hm
     replace hm : Mem w0 hz _ [blk bp0 [v1p, (nV r2_1.2.p)] 72, ow [(sV b0_5 0 5 5)] ([-1, x0_1.regs, (x0_1.blocks.length : Int), 0, 1] : List Int), ow [v0_14] x0_2.next_, ow [v0_13] x0_2.ins, ow [v0_12] x0_2.phis, holeE b0_4 o0_2 x0_1.blocks.length c0_3 (x0_1.blocks : List Block_) (r0_4.1).toNat [v0_12, v0_13, (nV r2_1.1), (nV x0_2.on), v0_14], blk b0_2 [(sV b0_3 o0_1 r0_2.codes.length c0_1)] 25, holeE b0_3 o0_1 r0_2.codes.length c0_1 (r0_2.codes : List Code_) (r0_3.1).toNat [(nV x0_1.params), (nV x0_1.regs), (sV b0_4 o0_2 x0_1.blocks.length c0_3)], ow [v0_2] r0_1.1.codes, blk b0_1 [(.slice none 0 0)] 25] := hm
     refine gE ?_
     replace hm := (mk_Block_ r2_1.1 x0_2.on hm 4 3 2 rfl).pk (L' := [blk bp0 [v1p, (nV r2_1.2.p)] 72, ow [(sV b0_5 0 5 5)] ([-1, x0_1.regs, (x0_1.blocks.length : Int), 0, 1] : List Int), ow [v0_12, v0_13, (nV r2_1.1), (nV x0_2.on), v0_14] ((⟨x0_2.phis, x0_2.ins, r2_1.1, x0_2.on, x0_2.next_⟩ : Block_) : Block_), holeE b0_4 o0_2 x0_1.blocks.length c0_3 (x0_1.blocks : List Block_) (r0_4.1).toNat [v0_12, v0_13, (nV r2_1.1), (nV x0_2.on), v0_14], blk b0_2 [(sV b0_3 o0_1 r0_2.codes.length c0_1)] 25, holeE b0_3 o0_1 r0_2.codes.length c0_1 (r0_2.codes : List Code_) (r0_3.1).toNat [(nV x0_1.params), (nV x0_1.regs), (sV b0_4 o0_2 x0_1.blocks.length c0_3)], ow [v0_2] r0_1.1.codes, blk b0_1 [(.slice none 0 0)] 25]) [0, 1, 4, 5, 6, 7, 8, 9] rfl rfl
     replace hm := (hm.shutE (y := ((⟨x0_2.phis, x0_2.ins, r2_1.1, x0_2.on, x0_2.next_⟩ : Block_) : Block_)) 3 2 (by decide) rfl rfl).pk (L' := [blk bp0 [v1p, (nV r2_1.2.p)] 72, ow [(sV b0_5 0 5 5)] ([-1, x0_1.regs, (x0_1.blocks.length : Int), 0, 1] : List Int), ow [(sV b0_4 o0_2 x0_1.blocks.length c0_3)] (x0_1.blocks.set (r0_4.1).toNat (⟨x0_2.phis, x0_2.ins, r2_1.1, x0_2.on, x0_2.next_⟩ : Block_)), blk b0_2 [(sV b0_3 o0_1 r0_2.codes.length c0_1)] 25, holeE b0_3 o0_1 r0_2.codes.length c0_1 (r0_2.codes : List Code_) (r0_3.1).toNat [(nV x0_1.params), (nV x0_1.regs), (sV b0_4 o0_2 x0_1.blocks.length c0_3)], ow [v0_2] r0_1.1.codes, blk b0_1 [(.slice none 0 0)] 25]) [0, 1, 3, 4, 5, 6, 7] rfl rfl
     have hx2_2 := List.getElem?_set_self (a := ((⟨x0_2.phis, x0_2.ins, r2_1.1, x0_2.on, x0_2.next_⟩ : Block_) : Block_)) (idx_lt hx0_8)
     replace hm : Mem w0 hz _ [blk bp0 [v1p, (nV r2_1.2.p)] 72, ow [(sV b0_5 0 5 5)] ([-1, x0_1.regs, (x0_1.blocks.length : Int), 0, 1] : List Int), ow [(nV x0_1.params), (nV x0_1.regs), (sV b0_4 o0_2 x0_1.blocks.length c0_3)] ((⟨x0_1.params, x0_1.regs, (x0_1.blocks.set (r0_4.1).toNat (⟨x0_2.phis, x0_2.ins, r2_1.1, x0_2.on, x0_2.next_⟩ : Block_))⟩ : Code_) : Code_), blk b0_2 [(sV b0_3 o0_1 r0_2.codes.length c0_1)] 25, holeE b0_3 o0_1 r0_2.codes.length c0_1 (r0_2.codes : List Code_) (r0_3.1).toNat [(nV x0_1.params), (nV x0_1.regs), (sV b0_4 o0_2 x0_1.blocks.length c0_3)], ow [v0_2] r0_1.1.codes, blk b0_1 [(.slice none 0 0)] 25] := mk_Code_ x0_1.params x0_1.regs hm 2 rfl
     replace hm := (hm.shutE (y := ((⟨x0_1.params, x0_1.regs, (x0_1.blocks.set (r0_4.1).toNat (⟨x0_2.phis, x0_2.ins, r2_1.1, x0_2.on, x0_2.next_⟩ : Block_))⟩ : Code_) : Code_)) 4 2 (by decide) rfl rfl).pk (L' := [blk bp0 [v1p, (nV r2_1.2.p)] 72, ow [(sV b0_5 0 5 5)] ([-1, x0_1.regs, (x0_1.blocks.length : Int), 0, 1] : List Int), blk b0_2 [(sV b0_3 o0_1 r0_2.codes.length c0_1)] 25, ow [(sV b0_3 o0_1 r0_2.codes.length c0_1)] (r0_2.codes.set (r0_3.1).toNat (⟨x0_1.params, x0_1.regs, (x0_1.blocks.set (r0_4.1).toNat (⟨x0_2.phis, x0_2.ins, r2_1.1, x0_2.on, x0_2.next_⟩ : Block_))⟩ : Code_)), ow [v0_2] r0_1.1.codes, blk b0_1 [(.slice none 0 0)] 25]) [0, 1, 3, 4, 5, 6] rfl rfl
     have hx2_3 := List.getElem?_set_self (a := ((⟨x0_1.params, x0_1.regs, (x0_1.blocks.set (r0_4.1).toNat (⟨x0_2.phis, x0_2.ins, r2_1.1, x0_2.on, x0_2.next_⟩ : Block_))⟩ : Code_) : Code_)) (idx_lt hx0_5)
     exact gz hm [5, 2, 3, 0] rfl
    refine gcf rfl (gS (gR (gB rfl (gA rfl (gE (gJ hm (fun s2_1 => [(2, (pV b0_1)), (3, (pV b0_2))]) (fun s2_1 => [blk b0_1 [(.slice none 0 0)] 25, blk b0_2 [(sV b0_3 o0_1 r0_2.codes.length c0_1)] 25, ow [(sV b0_3 o0_1 r0_2.codes.length c0_1)] s2_1.1, blk bp0 [v1p, (nV s2_1.2)] 72]) (fun s2_1 => ?_) ?_))))))
    ·
     refine gsd 51 rfl (fun h3_1 => ?_) fun h3_1 => ?_
     ·
      refine gct rfl (gS (gR (gM rfl (gY (yG rfl (y_nilptr rfl rfl)) (gF fo_65_4 rfl (gY (yl isAgg29 ((hm.holeE_at 5 rfl).cell (j := 4) rfl) rfl) ?_))))))
      obtain ⟨p3_1, c3_1, rfl, hl3_1⟩ := ro_slice (hm.ow_rep 2 rfl)
      refine gY (yV st_29 rfl) (gB rfl (gE (gJ hm (fun s3_1 => [(2, (pV b0_1)), (3, (pV b0_2))]) (fun s3_1 => [blk b0_1 [(.slice none 0 0)] 25, blk b0_2 [(sV b0_3 o0_1 r0_2.codes.length c0_1)] 25, ow [(sV b0_3 o0_1 r0_2.codes.length c0_1)] s3_1, blk bp0 [v1p, (nV r0_6.2.p)] 72]) (fun s3_1 => ?_) ?_)))
      ·
       refine gsd 58 rfl (fun h4_1 => ?_) fun h4_1 => ?_
       ·
        refine gct rfl (gR (gM rfl (gY (yG rfl (y_nilptr rfl rfl)) (gF fo_65_4 rfl (gY (yl isAgg29 ((hm.holeE_at 5 rfl).cell (j := 4) rfl) rfl) (gM rfl (gg fun x4_1 h4_2 hx4_2 => ?_)))))))
        obtain ⟨b4_1, o4_1, c4_1, he⟩ := idx_form (hm.ow_rep 2 rfl) hx4_2
        simp only [Value.slice.injEq, Option.some.injEq] at he; obtain ⟨rfl, _, rfl⟩ := he
        refine gI st_29 h4_2 (idx_lt hx4_2) rfl (gf0 rfl (fun a hf => e_setElem (x1 := r0_5.1) (j := 0) (vs := [(nV r0_5.1)]) 2 hf hm rfl hx4_2 rfl sizeOf3 rfl rfl rfl (one_cons rfl one_nil) rfl rfl) ?_)
        rintro _ w hm
        have hx4_3 := List.getElem?_set_self (a := r0_5.1) (idx_lt hx4_2)
        refine gE ?_
        replace hm := (mk_Block_ x0_2.jump x0_2.on hm 4 3 2 rfl).pk (L' := [blk bp0 [v1p, (nV r0_6.2.p)] 72, ow [(sV b0_5 0 5 5)] ([-1, x0_1.regs, (x0_1.blocks.length : Int), 0, 1] : List Int), ow [v0_12, v0_13, (nV x0_2.jump), (nV x0_2.on), (sV b4_1 o4_1 x0_2.next_.length c3_1)] ((⟨x0_2.phis, x0_2.ins, x0_2.jump, x0_2.on, (x0_2.next_.set (0 : Int).toNat r0_5.1)⟩ : Block_) : Block_), holeE b0_4 o0_2 x0_1.blocks.length c0_3 (x0_1.blocks : List Block_) (r0_4.1).toNat [v0_12, v0_13, (nV x0_2.jump), (nV x0_2.on), (sV b4_1 o4_1 x0_2.next_.length c3_1)], blk b0_2 [(sV b0_3 o0_1 r0_2.codes.length c0_1)] 25, holeE b0_3 o0_1 r0_2.codes.length c0_1 (r0_2.codes : List Code_) (r0_3.1).toNat [(nV x0_1.params), (nV x0_1.regs), (sV b0_4 o0_2 x0_1.blocks.length c0_3)], ow [v0_2] r0_1.1.codes, blk b0_1 [(.slice none 0 0)] 25]) [0, 1, 4, 5, 6, 7, 8, 9] rfl rfl
        replace hm := (hm.shutE (y := ((⟨x0_2.phis, x0_2.ins, x0_2.jump, x0_2.on, (x0_2.next_.set (0 : Int).toNat r0_5.1)⟩ : Block_) : Block_)) 3 2 (by decide) rfl rfl).pk (L' := [blk bp0 [v1p, (nV r0_6.2.p)] 72, ow [(sV b0_5 0 5 5)] ([-1, x0_1.regs, (x0_1.blocks.length : Int), 0, 1] : List Int), ow [(sV b0_4 o0_2 x0_1.blocks.length c0_3)] (x0_1.blocks.set (r0_4.1).toNat (⟨x0_2.phis, x0_2.ins, x0_2.jump, x0_2.on, (x0_2.next_.set (0 : Int).toNat r0_5.1)⟩ : Block_)), blk b0_2 [(sV b0_3 o0_1 r0_2.codes.length c0_1)] 25, holeE b0_3 o0_1 r0_2.codes.length c0_1 (r0_2.codes : List Code_) (r0_3.1).toNat [(nV x0_1.params), (nV x0_1.regs), (sV b0_4 o0_2 x0_1.blocks.length c0_3)], ow [v0_2] r0_1.1.codes, blk b0_1 [(.slice none 0 0)] 25]) [0, 1, 3, 4, 5, 6, 7] rfl rfl
        have hx4_4 := List.getElem?_set_self (a := ((⟨x0_2.phis, x0_2.ins, x0_2.jump, x0_2.on, (x0_2.next_.set (0 : Int).toNat r0_5.1)⟩ : Block_) : Block_)) (idx_lt hx0_8)
        replace hm : Mem w0 hz _ [blk bp0 [v1p, (nV r0_6.2.p)] 72, ow [(sV b0_5 0 5 5)] ([-1, x0_1.regs, (x0_1.blocks.length : Int), 0, 1] : List Int), ow [(nV x0_1.params), (nV x0_1.regs), (sV b0_4 o0_2 x0_1.blocks.length c0_3)] ((⟨x0_1.params, x0_1.regs, (x0_1.blocks.set (r0_4.1).toNat (⟨x0_2.phis, x0_2.ins, x0_2.jump, x0_2.on, (x0_2.next_.set (0 : Int).toNat r0_5.1)⟩ : Block_))⟩ : Code_) : Code_), blk b0_2 [(sV b0_3 o0_1 r0_2.codes.length c0_1)] 25, holeE b0_3 o0_1 r0_2.codes.length c0_1 (r0_2.codes : List Code_) (r0_3.1).toNat [(nV x0_1.params), (nV x0_1.regs), (sV b0_4 o0_2 x0_1.blocks.length c0_3)], ow [v0_2] r0_1.1.codes, blk b0_1 [(.slice none 0 0)] 25] := mk_Code_ x0_1.params x0_1.regs hm 2 rfl
        replace hm := (hm.shutE (y := ((⟨x0_1.params, x0_1.regs, (x0_1.blocks.set (r0_4.1).toNat (⟨x0_2.phis, x0_2.ins, x0_2.jump, x0_2.on, (x0_2.next_.set (0 : Int).toNat r0_5.1)⟩ : Block_))⟩ : Code_) : Code_)) 4 2 (by decide) rfl rfl).pk (L' := [blk bp0 [v1p, (nV r0_6.2.p)] 72, ow [(sV b0_5 0 5 5)] ([-1, x0_1.regs, (x0_1.blocks.length : Int), 0, 1] : List Int), blk b0_2 [(sV b0_3 o0_1 r0_2.codes.length c0_1)] 25, ow [(sV b0_3 o0_1 r0_2.codes.length c0_1)] (r0_2.codes.set (r0_3.1).toNat (⟨x0_1.params, x0_1.regs, (x0_1.blocks.set (r0_4.1).toNat (⟨x0_2.phis, x0_2.ins, x0_2.jump, x0_2.on, (x0_2.next_.set (0 : Int).toNat r0_5.1)⟩ : Block_))⟩ : Code_)), ow [v0_2] r0_1.1.codes, blk b0_1 [(.slice none 0 0)] 25]) [0, 1, 3, 4, 5, 6] rfl rfl
        have hx4_5 := List.getElem?_set_self (a := ((⟨x0_1.params, x0_1.regs, (x0_1.blocks.set (r0_4.1).toNat (⟨x0_2.phis, x0_2.ins, x0_2.jump, x0_2.on, (x0_2.next_.set (0 : Int).toNat r0_5.1)⟩ : Block_))⟩ : Code_) : Code_)) (idx_lt hx0_5)
        exact gz hm [5, 2, 3, 0] rfl
       refine gcf rfl (gSk ?_)
       replace hm := (mk_Block_ x0_2.jump x0_2.on hm 4 3 2 rfl).pk (L' := [blk bp0 [v1p, (nV r0_6.2.p)] 72, ow [(sV b0_5 0 5 5)] ([-1, x0_1.regs, (x0_1.blocks.length : Int), 0, 1] : List Int), ow [v0_12, v0_13, (nV x0_2.jump), (nV x0_2.on), (.slice p3_1 x0_2.next_.length c3_1)] (x0_2 : Block_), holeE b0_4 o0_2 x0_1.blocks.length c0_3 (x0_1.blocks : List Block_) (r0_4.1).toNat [v0_12, v0_13, (nV x0_2.jump), (nV x0_2.on), (.slice p3_1 x0_2.next_.length c3_1)], blk b0_2 [(sV b0_3 o0_1 r0_2.codes.length c0_1)] 25, holeE b0_3 o0_1 r0_2.codes.length c0_1 (r0_2.codes : List Code_) (r0_3.1).toNat [(nV x0_1.params), (nV x0_1.regs), (sV b0_4 o0_2 x0_1.blocks.length c0_3)], ow [v0_2] r0_1.1.codes, blk b0_1 [(.slice none 0 0)] 25]) [0, 1, 4, 5, 6, 7, 8, 9] rfl rfl
       replace hm := (hm.shutE (y := (x0_2 : Block_)) 3 2 (by decide) rfl rfl).pk (L' := [blk bp0 [v1p, (nV r0_6.2.p)] 72, ow [(sV b0_5 0 5 5)] ([-1, x0_1.regs, (x0_1.blocks.length : Int), 0, 1] : List Int), ow [(sV b0_4 o0_2 x0_1.blocks.length c0_3)] (x0_1.blocks.set (r0_4.1).toNat x0_2), blk b0_2 [(sV b0_3 o0_1 r0_2.codes.length c0_1)] 25, holeE b0_3 o0_1 r0_2.codes.length c0_1 (r0_2.codes : List Code_) (r0_3.1).toNat [(nV x0_1.params), (nV x0_1.regs), (sV b0_4 o0_2 x0_1.blocks.length c0_3)], ow [v0_2] r0_1.1.codes, blk b0_1 [(.slice none 0 0)] 25]) [0, 1, 3, 4, 5, 6, 7] rfl rfl
       rw [set_same hx0_8] at hm
       replace hm : Mem w0 hz _ [blk bp0 [v1p, (nV r0_6.2.p)] 72, ow [(sV b0_5 0 5 5)] ([-1, x0_1.regs, (x0_1.blocks.length : Int), 0, 1] : List Int), ow [(nV x0_1.params), (nV x0_1.regs), (sV b0_4 o0_2 x0_1.blocks.length c0_3)] (x0_1 : Code_), blk b0_2 [(sV b0_3 o0_1 r0_2.codes.length c0_1)] 25, holeE b0_3 o0_1 r0_2.codes.length c0_1 (r0_2.codes : List Code_) (r0_3.1).toNat [(nV x0_1.params), (nV x0_1.regs), (sV b0_4 o0_2 x0_1.blocks.length c0_3)], ow [v0_2] r0_1.1.codes, blk b0_1 [(.slice none 0 0)] 25] := mk_Code_ x0_1.params x0_1.regs hm 2 rfl
       replace hm := (hm.shutE (y := (x0_1 : Code_)) 4 2 (by decide) rfl rfl).pk (L' := [blk bp0 [v1p, (nV r0_6.2.p)] 72, ow [(sV b0_5 0 5 5)] ([-1, x0_1.regs, (x0_1.blocks.length : Int), 0, 1] : List Int), blk b0_2 [(sV b0_3 o0_1 r0_2.codes.length c0_1)] 25, ow [(sV b0_3 o0_1 r0_2.codes.length c0_1)] (r0_2.codes.set (r0_3.1).toNat x0_1), ow [v0_2] r0_1.1.codes, blk b0_1 [(.slice none 0 0)] 25]) [0, 1, 3, 4, 5, 6] rfl rfl
       rw [set_same hx0_5] at hm
       exact gz hm [5, 2, 3, 0] rfl
      repeat clear hm
      intro s3_1 w hm
      exact gz hm [0, 1, 2, 3] rfl
     refine gcf rfl (gS (gR (gB rfl (gA rfl (gE (gJ hm (fun s3_2 => [(2, (pV b0_1)), (3, (pV b0_2))]) (fun s3_2 => [blk b0_1 [(.slice none 0 0)] 25, blk b0_2 [(sV b0_3 o0_1 r0_2.codes.length c0_1)] 25, ow [(sV b0_3 o0_1 r0_2.codes.length c0_1)] s3_2.1, blk bp0 [v1p, (nV s3_2.2)] 72]) (fun s3_2 => ?_) ?_))))))
     ·
      refine gsd 65 rfl (fun h4_3 => ?_) fun h4_3 => ?_
      ·
       refine gct rfl (gR (gM rfl (gM rfl (gY (yG rfl (y_nilptr rfl rfl)) (gF fo_65_3 rfl ?_)))))
       have h14_1 : ∀ u ∈ ([(nV r0_5.1)] : List Value), u.oneCell' = true := (one_cons rfl one_nil)
       refine gf0 rfl (fun a hf => e_storeH (j := 3) (vs := [(nV r0_5.1)]) 5 hf hm rfl rfl rfl sizeOf3 rfl rfl rfl h14_1 rfl) ?_
       rintro _ w hm
       replace hm : Mem w0 hz _ [blk bp0 [v1p, (nV r0_6.2.p)] 72, ow [(sV b0_5 0 5 5)] ([-1, x0_1.regs, (x0_1.blocks.length : Int), 0, 1] : List Int), ow [v0_14] x0_2.next_, ow [v0_13] x0_2.ins, ow [v0_12] x0_2.phis, holeE b0_4 o0_2 x0_1.blocks.length c0_3 (x0_1.blocks : List Block_) (r0_4.1).toNat [v0_12, v0_13, (nV x0_2.jump), (nV r0_5.1), v0_14], blk b0_2 [(sV b0_3 o0_1 r0_2.codes.length c0_1)] 25, holeE b0_3 o0_1 r0_2.codes.length c0_1 (r0_2.codes : List Code_) (r0_3.1).toNat [(nV x0_1.params), (nV x0_1.regs), (sV b0_4 o0_2 x0_1.blocks.length c0_3)], ow [v0_2] r0_1.1.codes, blk b0_1 [(.slice none 0 0)] 25] := hm
       refine gE ?_
       replace hm := (mk_Block_ x0_2.jump r0_5.1 hm 4 3 2 rfl).pk (L' := [blk bp0 [v1p, (nV r0_6.2.p)] 72, ow [(sV b0_5 0 5 5)] ([-1, x0_1.regs, (x0_1.blocks.length : Int), 0, 1] : List Int), ow [v0_12, v0_13, (nV x0_2.jump), (nV r0_5.1), v0_14] ((⟨x0_2.phis, x0_2.ins, x0_2.jump, r0_5.1, x0_2.next_⟩ : Block_) : Block_), holeE b0_4 o0_2 x0_1.blocks.length c0_3 (x0_1.blocks : List Block_) (r0_4.1).toNat [v0_12, v0_13, (nV x0_2.jump), (nV r0_5.1), v0_14], blk b0_2 [(sV b0_3 o0_1 r0_2.codes.length c0_1)] 25, holeE b0_3 o0_1 r0_2.codes.length c0_1 (r0_2.codes : List Code_) (r0_3.1).toNat [(nV x0_1.params), (nV x0_1.regs), (sV b0_4 o0_2 x0_1.blocks.length c0_3)], ow [v0_2] r0_1.1.codes, blk b0_1 [(.slice none 0 0)] 25]) [0, 1, 4, 5, 6, 7, 8, 9] rfl rfl
       replace hm := (hm.shutE (y := ((⟨x0_2.phis, x0_2.ins, x0_2.jump, r0_5.1, x0_2.next_⟩ : Block_) : Block_)) 3 2 (by decide) rfl rfl).pk (L' := [blk bp0 [v1p, (nV r0_6.2.p)] 72, ow [(sV b0_5 0 5 5)] ([-1, x0_1.regs, (x0_1.blocks.length : Int), 0, 1] : List Int), ow [(sV b0_4 o0_2 x0_1.blocks.length c0_3)] (x0_1.blocks.set (r0_4.1).toNat (⟨x0_2.phis, x0_2.ins, x0_2.jump, r0_5.1, x0_2.next_⟩ : Block_)), blk b0_2 [(sV b0_3 o0_1 r0_2.codes.length c0_1)] 25, holeE b0_3 o0_1 r0_2.codes.length c0_1 (r0_2.codes : List Code_) (r0_3.1).toNat [(nV x0_1.params), (nV x0_1.regs), (sV b0_4 o0_2 x0_1.blocks.length c0_3)], ow [v0_2] r0_1.1.codes, blk b0_1 [(.slice none 0 0)] 25]) [0, 1, 3, 4, 5, 6, 7] rfl rfl
       have hx4_6 := List.getElem?_set_self (a := ((⟨x0_2.phis, x0_2.ins, x0_2.jump, r0_5.1, x0_2.next_⟩ : Block_) : Block_)) (idx_lt hx0_8)
       replace hm : Mem w0 hz _ [blk bp0 [v1p, (nV r0_6.2.p)] 72, ow [(sV b0_5 0 5 5)] ([-1, x0_1.regs, (x0_1.blocks.length : Int), 0, 1] : List Int), ow [(nV x0_1.params), (nV x0_1.regs), (sV b0_4 o0_2 x0_1.blocks.length c0_3)] ((⟨x0_1.params, x0_1.regs, (x0_1.blocks.set (r0_4.1).toNat (⟨x0_2.phis, x0_2.ins, x0_2.jump, r0_5.1, x0_2.next_⟩ : Block_))⟩ : Code_) : Code_), blk b0_2 [(sV b0_3 o0_1 r0_2.codes.length c0_1)] 25, holeE b0_3 o0_1 r0_2.codes.length c0_1 (r0_2.codes : List Code_) (r0_3.1).toNat [(nV x0_1.params), (nV x0_1.regs), (sV b0_4 o0_2 x0_1.blocks.length c0_3)], ow [v0_2] r0_1.1.codes, blk b0_1 [(.slice none 0 0)] 25] := mk_Code_ x0_1.params x0_1.regs hm 2 rfl
       replace hm := (hm.shutE (y := ((⟨x0_1.params, x0_1.regs, (x0_1.blocks.set (r0_4.1).toNat (⟨x0_2.phis, x0_2.ins, x0_2.jump, r0_5.1, x0_2.next_⟩ : Block_))⟩ : Code_) : Code_)) 4 2 (by decide) rfl rfl).pk (L' := [blk bp0 [v1p, (nV r0_6.2.p)] 72, ow [(sV b0_5 0 5 5)] ([-1, x0_1.regs, (x0_1.blocks.length : Int), 0, 1] : List Int), blk b0_2 [(sV b0_3 o0_1 r0_2.codes.length c0_1)] 25, ow [(sV b0_3 o0_1 r0_2.codes.length c0_1)] (r0_2.codes.set (r0_3.1).toNat (⟨x0_1.params, x0_1.regs, (x0_1.blocks.set (r0_4.1).toNat (⟨x0_2.phis, x0_2.ins, x0_2.jump, r0_5.1, x0_2.next_⟩ : Block_))⟩ : Code_)), ow [v0_2] r0_1.1.codes, blk b0_1 [(.slice none 0 0)] 25]) [0, 1, 3, 4, 5, 6] rfl rfl
       have hx4_7 := List.getElem?_set_self (a := ((⟨x0_1.params, x0_1.regs, (x0_1.blocks.set (r0_4.1).toNat (⟨x0_2.phis, x0_2.ins, x0_2.jump, r0_5.1, x0_2.next_⟩ : Block_))⟩ : Code_) : Code_)) (idx_lt hx0_5)
       exact gz hm [5, 2, 3, 0] rfl
      refine gcf rfl (gS (gR (gB rfl (gA rfl (gE (gJ hm (fun s4_1 => [(2, (pV b0_1)), (3, (pV b0_2))]) (fun s4_1 => [blk b0_1 [(.slice none 0 0)] 25, blk b0_2 [(sV b0_3 o0_1 r0_2.codes.length c0_1)] 25, ow [(sV b0_3 o0_1 r0_2.codes.length c0_1)] s4_1.1, blk bp0 [v1p, (nV s4_1.2)] 72]) (fun s4_1 => ?_) ?_))))))
      ·
       refine gsd 71 rfl (fun h5_1 => ?_) fun h5_1 => ?_
       ·
        refine gct rfl (gS (gR (gM rfl (gY (yG rfl (y_nilptr rfl rfl)) (gF fo_65_1 rfl (gY (yl isAgg63 ((hm.holeE_at 5 rfl).cell (j := 1) rfl) rfl) ?_))))))
        obtain ⟨p5_1, c5_1, rfl, hl5_1⟩ := ro_slice (hm.ow_rep 3 rfl)
        refine gY (yV st_63 rfl) (gB rfl (gE (gJ hm (fun s5_1 => [(2, (pV b0_1)), (3, (pV b0_2))]) (fun s5_1 => [blk b0_1 [(.slice none 0 0)] 25, blk b0_2 [(sV b0_3 o0_1 r0_2.codes.length c0_1)] 25, ow [(sV b0_3 o0_1 r0_2.codes.length c0_1)] s5_1, blk bp0 [v1p, (nV r0_6.2.p)] 72]) (fun s5_1 => ?_) ?_)))
        ·
         refine gsd 78 rfl (fun h6_1 => ?_) fun h6_1 => ?_
         ·
          refine gct rfl (gR (gM rfl (gY (yG rfl (y_nilptr rfl rfl)) (gF fo_65_1 rfl (gY (yl isAgg63 ((hm.holeE_at 5 rfl).cell (j := 1) rfl) rfl) (gM rfl (gg fun x6_1 h6_2 hx6_2 => ?_)))))))
          obtain ⟨b6_1, o6_1, c6_1, he⟩ := idx_form' (hm.ow_rep 3 rfl) hx6_2
          simp only [Value.slice.injEq, Option.some.injEq] at he; obtain ⟨rfl, _, rfl⟩ := he
          obtain ⟨v6_1, hc6_1, h6_3⟩ := rk_Ins_ (hm.ow_rep 3 rfl) hx6_2
          refine gI st_63 h6_2 (idx_lt hx6_2) rfl (gF fo_68_1 rfl (gf0 rfl (fun a hf => e_setElemR (x1 := ((⟨x6_1.op, r0_5.1, x6_1.args, x6_1.n_⟩ : Ins_) : Ins_)) (j := 1) (vs := [(nV r0_5.1)]) 3 hf hm rfl hx6_2 hc6_1 rfl (fun F h ho => (fun _ => own_snd_map (α := Int) (β := Int × (List Int) × Int) (cs := [(nV x6_1.op)]) (ds := [(nV x6_1.to), v6_1, (nV x6_1.n_)]) (ds' := [(nV r0_5.1), v6_1, (nV x6_1.n_)]) rfl (fun _ => own_fst_map (α := Int) (β := (List Int) × Int) (cs := [(nV x6_1.to)]) (cs' := [(nV r0_5.1)]) (ds := [v6_1, (nV x6_1.n_)]) rfl (fun _ _ => Flat.own_iff.2 rfl))) F ho) rfl sizeOf3 rfl rfl rfl (one_cons rfl one_nil) rfl) ?_))
          rintro _ w hm
          have hx6_3 := List.getElem?_set_self (a := ((⟨x6_1.op, r0_5.1, x6_1.args, x6_1.n_⟩ : Ins_) : Ins_)) (idx_lt hx6_2)
          refine gE ?_
          replace hm := (mk_Block_ x0_2.jump x0_2.on hm 4 3 2 rfl).pk (L' := [blk bp0 [v1p, (nV r0_6.2.p)] 72, ow [(sV b0_5 0 5 5)] ([-1, x0_1.regs, (x0_1.blocks.length : Int), 0, 1] : List Int), ow [v0_12, (sV b6_1 o6_1 x0_2.ins.length c5_1), (nV x0_2.jump), (nV x0_2.on), v0_14] ((⟨x0_2.phis, (x0_2.ins.set (0 : Int).toNat (⟨x6_1.op, r0_5.1, x6_1.args, x6_1.n_⟩ : Ins_)), x0_2.jump, x0_2.on, x0_2.next_⟩ : Block_) : Block_), holeE b0_4 o0_2 x0_1.blocks.length c0_3 (x0_1.blocks : List Block_) (r0_4.1).toNat [v0_12, (sV b6_1 o6_1 x0_2.ins.length c5_1), (nV x0_2.jump), (nV x0_2.on), v0_14], blk b0_2 [(sV b0_3 o0_1 r0_2.codes.length c0_1)] 25, holeE b0_3 o0_1 r0_2.codes.length c0_1 (r0_2.codes : List Code_) (r0_3.1).toNat [(nV x0_1.params), (nV x0_1.regs), (sV b0_4 o0_2 x0_1.blocks.length c0_3)], ow [v0_2] r0_1.1.codes, blk b0_1 [(.slice none 0 0)] 25]) [0, 1, 4, 5, 6, 7, 8, 9] rfl rfl
          replace hm := (hm.shutE (y := ((⟨x0_2.phis, (x0_2.ins.set (0 : Int).toNat (⟨x6_1.op, r0_5.1, x6_1.args, x6_1.n_⟩ : Ins_)), x0_2.jump, x0_2.on, x0_2.next_⟩ : Block_) : Block_)) 3 2 (by decide) rfl rfl).pk (L' := [blk bp0 [v1p, (nV r0_6.2.p)] 72, ow [(sV b0_5 0 5 5)] ([-1, x0_1.regs, (x0_1.blocks.length : Int), 0, 1] : List Int), ow [(sV b0_4 o0_2 x0_1.blocks.length c0_3)] (x0_1.blocks.set (r0_4.1).toNat (⟨x0_2.phis, (x0_2.ins.set (0 : Int).toNat (⟨x6_1.op, r0_5.1, x6_1.args, x6_1.n_⟩ : Ins_)), x0_2.jump, x0_2.on, x0_2.next_⟩ : Block_)), blk b0_2 [(sV b0_3 o0_1 r0_2.codes.length c0_1)] 25, holeE b0_3 o0_1 r0_2.codes.length c0_1 (r0_2.codes : List Code_) (r0_3.1).toNat [(nV x0_1.params), (nV x0_1.regs), (sV b0_4 o0_2 x0_1.blocks.length c0_3)], ow [v0_2] r0_1.1.codes, blk b0_1 [(.slice none 0 0)] 25]) [0, 1, 3, 4, 5, 6, 7] rfl rfl
          have hx6_4 := List.getElem?_set_self (a := ((⟨x0_2.phis, (x0_2.ins.set (0 : Int).toNat (⟨x6_1.op, r0_5.1, x6_1.args, x6_1.n_⟩ : Ins_)), x0_2.jump, x0_2.on, x0_2.next_⟩ : Block_) : Block_)) (idx_lt hx0_8)
          replace hm : Mem w0 hz _ [blk bp0 [v1p, (nV r0_6.2.p)] 72, ow [(sV b0_5 0 5 5)] ([-1, x0_1.regs, (x0_1.blocks.length : Int), 0, 1] : List Int), ow [(nV x0_1.params), (nV x0_1.regs), (sV b0_4 o0_2 x0_1.blocks.length c0_3)] ((⟨x0_1.params, x0_1.regs, (x0_1.blocks.set (r0_4.1).toNat (⟨x0_2.phis, (x0_2.ins.set (0 : Int).toNat (⟨x6_1.op, r0_5.1, x6_1.args, x6_1.n_⟩ : Ins_)), x0_2.jump, x0_2.on, x0_2.next_⟩ : Block_))⟩ : Code_) : Code_), blk b0_2 [(sV b0_3 o0_1 r0_2.codes.length c0_1)] 25, holeE b0_3 o0_1 r0_2.codes.length c0_1 (r0_2.codes : List Code_) (r0_3.1).toNat [(nV x0_1.params), (nV x0_1.regs), (sV b0_4 o0_2 x0_1.blocks.length c0_3)], ow [v0_2] r0_1.1.codes, blk b0_1 [(.slice none 0 0)] 25] := mk_Code_ x0_1.params x0_1.regs hm 2 rfl
          replace hm := (hm.shutE (y := ((⟨x0_1.params, x0_1.regs, (x0_1.blocks.set (r0_4.1).toNat (⟨x0_2.phis, (x0_2.ins.set (0 : Int).toNat (⟨x6_1.op, r0_5.1, x6_1.args, x6_1.n_⟩ : Ins_)), x0_2.jump, x0_2.on, x0_2.next_⟩ : Block_))⟩ : Code_) : Code_)) 4 2 (by decide) rfl rfl).pk (L' := [blk bp0 [v1p, (nV r0_6.2.p)] 72, ow [(sV b0_5 0 5 5)] ([-1, x0_1.regs, (x0_1.blocks.length : Int), 0, 1] : List Int), blk b0_2 [(sV b0_3 o0_1 r0_2.codes.length c0_1)] 25, ow [(sV b0_3 o0_1 r0_2.codes.length c0_1)] (r0_2.codes.set (r0_3.1).toNat (⟨x0_1.params, x0_1.regs, (x0_1.blocks.set (r0_4.1).toNat (⟨x0_2.phis, (x0_2.ins.set (0 : Int).toNat (⟨x6_1.op, r0_5.1, x6_1.args, x6_1.n_⟩ : Ins_)), x0_2.jump, x0_2.on, x0_2.next_⟩ : Block_))⟩ : Code_)), ow [v0_2] r0_1.1.codes, blk b0_1 [(.slice none 0 0)] 25]) [0, 1, 3, 4, 5, 6] rfl rfl
          have hx6_5 := List.getElem?_set_self (a := ((⟨x0_1.params, x0_1.regs, (x0_1.blocks.set (r0_4.1).toNat (⟨x0_2.phis, (x0_2.ins.set (0 : Int).toNat (⟨x6_1.op, r0_5.1, x6_1.args, x6_1.n_⟩ : Ins_)), x0_2.jump, x0_2.on, x0_2.next_⟩ : Block_))⟩ : Code_) : Code_)) (idx_lt hx0_5)
          exact gz hm [5, 2, 3, 0] rfl
         refine gcf rfl (gSk ?_)
         replace hm := (mk_Block_ x0_2.jump x0_2.on hm 4 3 2 rfl).pk (L' := [blk bp0 [v1p, (nV r0_6.2.p)] 72, ow [(sV b0_5 0 5 5)] ([-1, x0_1.regs, (x0_1.blocks.length : Int), 0, 1] : List Int), ow [v0_12, (.slice p5_1 x0_2.ins.length c5_1), (nV x0_2.jump), (nV x0_2.on), v0_14] (x0_2 : Block_), holeE b0_4 o0_2 x0_1.blocks.length c0_3 (x0_1.blocks : List Block_) (r0_4.1).toNat [v0_12, (.slice p5_1 x0_2.ins.length c5_1), (nV x0_2.jump), (nV x0_2.on), v0_14], blk b0_2 [(sV b0_3 o0_1 r0_2.codes.length c0_1)] 25, holeE b0_3 o0_1 r0_2.codes.length c0_1 (r0_2.codes : List Code_) (r0_3.1).toNat [(nV x0_1.params), (nV x0_1.regs), (sV b0_4 o0_2 x0_1.blocks.length c0_3)], ow [v0_2] r0_1.1.codes, blk b0_1 [(.slice none 0 0)] 25]) [0, 1, 4, 5, 6, 7, 8, 9] rfl rfl
         replace hm := (hm.shutE (y := (x0_2 : Block_)) 3 2 (by decide) rfl rfl).pk (L' := [blk bp0 [v1p, (nV r0_6.2.p)] 72, ow [(sV b0_5 0 5 5)] ([-1, x0_1.regs, (x0_1.blocks.length : Int), 0, 1] : List Int), ow [(sV b0_4 o0_2 x0_1.blocks.length c0_3)] (x0_1.blocks.set (r0_4.1).toNat x0_2), blk b0_2 [(sV b0_3 o0_1 r0_2.codes.length c0_1)] 25, holeE b0_3 o0_1 r0_2.codes.length c0_1 (r0_2.codes : List Code_) (r0_3.1).toNat [(nV x0_1.params), (nV x0_1.regs), (sV b0_4 o0_2 x0_1.blocks.length c0_3)], ow [v0_2] r0_1.1.codes, blk b0_1 [(.slice none 0 0)] 25]) [0, 1, 3, 4, 5, 6, 7] rfl rfl
         rw [set_same hx0_8] at hm
         replace hm : Mem w0 hz _ [blk bp0 [v1p, (nV r0_6.2.p)] 72, ow [(sV b0_5 0 5 5)] ([-1, x0_1.regs, (x0_1.blocks.length : Int), 0, 1] : List Int), ow [(nV x0_1.params), (nV x0_1.regs), (sV b0_4 o0_2 x0_1.blocks.length c0_3)] (x0_1 : Code_), blk b0_2 [(sV b0_3 o0_1 r0_2.codes.length c0_1)] 25, holeE b0_3 o0_1 r0_2.codes.length c0_1 (r0_2.codes : List Code_) (r0_3.1).toNat [(nV x0_1.params), (nV x0_1.regs), (sV b0_4 o0_2 x0_1.blocks.length c0_3)], ow [v0_2] r0_1.1.codes, blk b0_1 [(.slice none 0 0)] 25] := mk_Code_ x0_1.params x0_1.regs hm 2 rfl
         replace hm := (hm.shutE (y := (x0_1 : Code_)) 4 2 (by decide) rfl rfl).pk (L' := [blk bp0 [v1p, (nV r0_6.2.p)] 72, ow [(sV b0_5 0 5 5)] ([-1, x0_1.regs, (x0_1.blocks.length : Int), 0, 1] : List Int), blk b0_2 [(sV b0_3 o0_1 r0_2.codes.length c0_1)] 25, ow [(sV b0_3 o0_1 r0_2.codes.length c0_1)] (r0_2.codes.set (r0_3.1).toNat x0_1), ow [v0_2] r0_1.1.codes, blk b0_1 [(.slice none 0 0)] 25]) [0, 1, 3, 4, 5, 6] rfl rfl
         rw [set_same hx0_5] at hm
         exact gz hm [5, 2, 3, 0] rfl
        repeat clear hm
        intro s5_1 w hm
        exact gz hm [0, 1, 2, 3] rfl
       refine gcf rfl (gS (gR (gB rfl (gA rfl (gE (gJ hm (fun s5_2 => [(2, (pV b0_1)), (3, (pV b0_2))]) (fun s5_2 => [blk b0_1 [(.slice none 0 0)] 25, blk b0_2 [(sV b0_3 o0_1 r0_2.codes.length c0_1)] 25, ow [(sV b0_3 o0_1 r0_2.codes.length c0_1)] s5_2.1, blk bp0 [v1p, (nV s5_2.2)] 72]) (fun s5_2 => ?_) ?_))))))
       ·
        refine gsd 86 rfl (fun h6_4 => ?_) fun h6_4 => ?_
        ·
         refine gct rfl (gS (gR (gM rfl (gY (yG rfl (y_nilptr rfl rfl)) (gF fo_65_1 rfl (gY (yl isAgg63 ((hm.holeE_at 5 rfl).cell (j := 1) rfl) rfl) ?_))))))
         obtain ⟨p6_1, c6_2, rfl, hl6_1⟩ := ro_slice (hm.ow_rep 3 rfl)
         refine gY (yV st_63 rfl) (gB rfl (gE (gJ hm (fun s6_1 => [(2, (pV b0_1)), (3, (pV b0_2))]) (fun s6_1 => [blk b0_1 [(.slice none 0 0)] 25, blk b0_2 [(sV b0_3 o0_1 r0_2.codes.length c0_1)] 25, ow [(sV b0_3 o0_1 r0_2.codes.length c0_1)] s6_1, blk bp0 [v1p, (nV r0_6.2.p)] 72]) (fun s6_1 => ?_) ?_)))
         ·
          refine gsd 93 rfl (fun h7_1 => ?_) fun h7_1 => ?_
          ·
           refine gct rfl (gJ hm (fun s7_1 => [(2, (pV b0_1)), (3, (pV b0_2))]) (fun s7_1 => [blk b0_1 [(.slice none 0 0)] 25, blk b0_2 [(sV b0_3 o0_1 r0_2.codes.length c0_1)] 25, ow [(sV b0_3 o0_1 r0_2.codes.length c0_1)] s7_1, blk bp0 [v1p, (nV r0_6.2.p)] 72]) (fun s7_1 => ?_) ?_)
           ·
            refine gW (.p 0 (.p 1 (.p 2 (.p 4 (.p 5 (.p 6 (.p 11 (.q 3 (.q 7 (.p 8 (.p 9 (.e 10 (.e 12 (.e 13 (.p 14 (.p 15 (.e 16 .fin .nil))) .nil) .nil) (.e 12 (.e 10 (.e 13 (.p 14 (.p 15 (.e 16 .fin .nil))) .nil) .nil) .nil))))))))))))) [3, 7, 10, 12, 13] [0, 1, 2, 4, 5, 6, 8, 9, 11, 14, 15] hm [0, 1, 2, 4, 5, 6, 7, 8, 9] [blk bp0 [v1p, (nV r0_6.2.p)] 72, ow [(sV b0_5 0 5 5)] ([-1, x0_1.regs, (x0_1.blocks.length : Int), 0, 1] : List Int), ow [v0_14] x0_2.next_, ow [v0_12] x0_2.phis, holeE b0_4 o0_2 x0_1.blocks.length c0_3 (x0_1.blocks : List Block_) (r0_4.1).toNat [v0_12, (.slice p6_1 x0_2.ins.length c6_2), (nV x0_2.jump), (nV x0_2.on), v0_14], blk b0_2 [(sV b0_3 o0_1 r0_2.codes.length c0_1)] 25, holeE b0_3 o0_1 r0_2.codes.length c0_1 (r0_2.codes : List Code_) (r0_3.1).toNat [(nV x0_1.params), (nV x0_1.regs), (sV b0_4 o0_2 x0_1.blocks.length c0_3)], ow [v0_2] r0_1.1.codes, blk b0_1 [(.slice none 0 0)] 25] rfl mxo (by kernel_rfl) (fun _ _ _ h => h.2) fun w hm hS => tP rfl (fun w => yM rfl) (tP rfl (fun w => yG rfl (y_nilptr rfl rfl)) (tP rfl (fun w => yF fo_65_1 rfl) (tP rfl (fun w => yM rfl) (tP rfl (fun w => yG rfl (y_nilptr rfl rfl)) (tP rfl (fun w => yF fo_65_1 rfl) (tP rfl (fun w => yM rfl) (tQ rfl hS (fun w hm => yl isAgg63 ((hm.holeE_at 4 rfl).cell (j := 1) rfl) rfl) (tQ rfl hS (fun w hm => yl isAgg63 ((hm.holeE_at 4 rfl).cell (j := 1) rfl) rfl) (gg fun x8_1 h8_1 hx8_2 => ?_)))))))))
            obtain ⟨b8_1, o8_1, c8_1, he⟩ := idx_form' (hm.ow_rep 3 rfl) hx8_2
            simp only [Value.slice.injEq, Option.some.injEq] at he; obtain ⟨rfl, _, rfl⟩ := he
            obtain ⟨v8_1, hc8_1, h8_2⟩ := rk_Ins_ (hm.ow_rep 3 rfl) hx8_2
            refine tP rfl (fun w => yI st_63 h8_1 (idx_lt hx8_2) rfl) (tP rfl (fun w => yF fo_68_2 rfl) (gb fun pb8_1 hpb8_1 => tMo ?_ ?_))
            ·
             obtain ⟨v8_2, hm⟩ := pin_Ins_ hm 3 rfl hx8_2
             refine tY rfl (yl isAgg29 ((hm.holeE_at 4 rfl).cell (j := 2) rfl) rfl) (tAk hm [1, 2, 3, 5, 6, 7, 8, 9, 10] rfl fun hS => tO (tf rfl rfl (fun a hf => e_build (vs := #[(0, (nV r0_5.1))]) (cs := [(nV r0_5.1)]) et_29 hf hm rfl rfl (by kernel_rfl) rfl rfl) ?_))
             rintro _ w ⟨b8_2, rfl, hm⟩
             replace hm := hm.lit (xs := ([r0_5.1] : List Int)) 0 rfl rfl rfl rfl
             refine tAk hm [2, 3, 4, 6, 7, 8, 9, 10, 11] rfl fun hS => tO ?_
             obtain ⟨h8_3, h8_3e⟩ := appM_some.1 hpb8_1
             refine tf rfl rfl (fun a hf => e_append 1 et_29 hf hm rfl (hm.ow_rep 0 rfl) rfl rfl rfl h8_3) ?_
             rintro v8_3 w hm
             rw [h8_3e] at hm
             refine tAk hm [2, 3, 4, 6, 7, 8, 9, 10, 11] rfl fun hS => ?_
             have hL8_1 := hm.holeE_len 5 rfl
             refine tP rfl (fun w => yI st_63 h8_1 (idx_lt2 hx8_2 hL8_1) rfl) (tP rfl (fun w => yF fo_68_2 rfl) (tO ?_))
             have h18_1 : ∀ u ∈ ([v8_3] : List Value), u.oneCell' = true := (one_cons (rep_one (hm.ow_rep 1 rfl)) one_nil)
             refine tf0 rfl rfl (fun a hf => e_storeH (j := 2) (vs := [v8_3]) 5 hf hm rfl rfl rfl sizeOf29 rfl rfl (cells_one (h18_1 _ (List.mem_singleton.2 rfl))) h18_1 rfl) ?_
             rintro _ w hm
             replace hm : Mem w0 hz _ [ow [(sV b8_2 0 1 1)] ([r0_5.1] : List Int), ow [v8_3] pb8_1, blk bp0 [v1p, (nV r0_6.2.p)] 72, ow [(sV b0_5 0 5 5)] ([-1, x0_1.regs, (x0_1.blocks.length : Int), 0, 1] : List Int), ow [v0_14] x0_2.next_, holeE b8_1 o8_1 x0_2.ins.length c6_2 (x0_2.ins : List Ins_) (0 : Int).toNat [(nV x8_1.op), (nV x8_1.to), v8_3, (nV x8_1.n_)], ow [v0_12] x0_2.phis, holeE b0_4 o0_2 x0_1.blocks.length c0_3 (x0_1.blocks : List Block_) (r0_4.1).toNat [v0_12, (sV b8_1 o8_1 x0_2.ins.length c6_2), (nV x0_2.jump), (nV x0_2.on), v0_14], blk b0_2 [(sV b0_3 o0_1 r0_2.codes.length c0_1)] 25, holeE b0_3 o0_1 r0_2.codes.length c0_1 (r0_2.codes : List Code_) (r0_3.1).toNat [(nV x0_1.params), (nV x0_1.regs), (sV b0_4 o0_2 x0_1.blocks.length c0_3)], ow [v0_2] r0_1.1.codes, blk b0_1 [(.slice none 0 0)] 25] := hm
             refine tAn rfl (tE ?_)
             replace hm : Mem w0 hz _ [ow [(sV b8_2 0 1 1)] ([r0_5.1] : List Int), ow [(nV x8_1.op), (nV x8_1.to), v8_3, (nV x8_1.n_)] ((⟨x8_1.op, x8_1.to, pb8_1, x8_1.n_⟩ : Ins_) : Ins_), blk bp0 [v1p, (nV r0_6.2.p)] 72, ow [(sV b0_5 0 5 5)] ([-1, x0_1.regs, (x0_1.blocks.length : Int), 0, 1] : List Int), ow [v0_14] x0_2.next_, holeE b8_1 o8_1 x0_2.ins.length c6_2 (x0_2.ins : List Ins_) (0 : Int).toNat [(nV x8_1.op), (nV x8_1.to), v8_3, (nV x8_1.n_)], ow [v0_12] x0_2.phis, holeE b0_4 o0_2 x0_1.blocks.length c0_3 (x0_1.blocks : List Block_) (r0_4.1).toNat [v0_12, (sV b8_1 o8_1 x0_2.ins.length c6_2), (nV x0_2.jump), (nV x0_2.on), v0_14], blk b0_2 [(sV b0_3 o0_1 r0_2.codes.length c0_1)] 25, holeE b0_3 o0_1 r0_2.codes.length c0_1 (r0_2.codes : List Code_) (r0_3.1).toNat [(nV x0_1.params), (nV x0_1.regs), (sV b0_4 o0_2 x0_1.blocks.length c0_3)], ow [v0_2] r0_1.1.codes, blk b0_1 [(.slice none 0 0)] 25] := mk_Ins_ x8_1.op x8_1.to x8_1.n_ hm 1 rfl
             replace hm := (hm.shutE (y := ((⟨x8_1.op, x8_1.to, pb8_1, x8_1.n_⟩ : Ins_) : Ins_)) 5 1 (by decide) rfl rfl).pk (L' := [ow [(sV b8_2 0 1 1)] ([r0_5.1] : List Int), blk bp0 [v1p, (nV r0_6.2.p)] 72, ow [(sV b0_5 0 5 5)] ([-1, x0_1.regs, (x0_1.blocks.length : Int), 0, 1] : List Int), ow [v0_14] x0_2.next_, ow [(sV b8_1 o8_1 x0_2.ins.length c6_2)] (x0_2.ins.set (0 : Int).toNat (⟨x8_1.op, x8_1.to, pb8_1, x8_1.n_⟩ : Ins_)), ow [v0_12] x0_2.phis, holeE b0_4 o0_2 x0_1.blocks.length c0_3 (x0_1.blocks : List Block_) (r0_4.1).toNat [v0_12, (sV b8_1 o8_1 x0_2.ins.length c6_2), (nV x0_2.jump), (nV x0_2.on), v0_14], blk b0_2 [(sV b0_3 o0_1 r0_2.codes.length c0_1)] 25, holeE b0_3 o0_1 r0_2.codes.length c0_1 (r0_2.codes : List Code_) (r0_3.1).toNat [(nV x0_1.params), (nV x0_1.regs), (sV b0_4 o0_2 x0_1.blocks.length c0_3)], ow [v0_2] r0_1.1.codes, blk b0_1 [(.slice none 0 0)] 25]) [0, 2, 3, 4, 5, 6, 7, 8, 9, 10, 11] rfl rfl
             have hx8_3 := List.getElem?_set_self (a := ((⟨x8_1.op, x8_1.to, pb8_1, x8_1.n_⟩ : Ins_) : Ins_)) (idx_lt hx8_2)
             replace hm := (mk_Block_ x0_2.jump x0_2.on hm 5 4 3 rfl).pk (L' := [ow [(sV b8_2 0 1 1)] ([r0_5.1] : List Int), blk bp0 [v1p, (nV r0_6.2.p)] 72, ow [(sV b0_5 0 5 5)] ([-1, x0_1.regs, (x0_1.blocks.length : Int), 0, 1] : List Int), ow [v0_12, (sV b8_1 o8_1 x0_2.ins.length c6_2), (nV x0_2.jump), (nV x0_2.on), v0_14] ((⟨x0_2.phis, (x0_2.ins.set (0 : Int).toNat (⟨x8_1.op, x8_1.to, pb8_1, x8_1.n_⟩ : Ins_)), x0_2.jump, x0_2.on, x0_2.next_⟩ : Block_) : Block_), holeE b0_4 o0_2 x0_1.blocks.length c0_3 (x0_1.blocks : List Block_) (r0_4.1).toNat [v0_12, (sV b8_1 o8_1 x0_2.ins.length c6_2), (nV x0_2.jump), (nV x0_2.on), v0_14], blk b0_2 [(sV b0_3 o0_1 r0_2.codes.length c0_1)] 25, holeE b0_3 o0_1 r0_2.codes.length c0_1 (r0_2.codes : List Code_) (r0_3.1).toNat [(nV x0_1.params), (nV x0_1.regs), (sV b0_4 o0_2 x0_1.blocks.length c0_3)], ow [v0_2] r0_1.1.codes, blk b0_1 [(.slice none 0 0)] 25]) [0, 1, 2, 5, 6, 7, 8, 9, 10] rfl rfl
             replace hm := (hm.shutE (y := ((⟨x0_2.phis, (x0_2.ins.set (0 : Int).toNat (⟨x8_1.op, x8_1.to, pb8_1, x8_1.n_⟩ : Ins_)), x0_2.jump, x0_2.on, x0_2.next_⟩ : Block_) : Block_)) 4 3 (by decide) rfl rfl).pk (L' := [ow [(sV b8_2 0 1 1)] ([r0_5.1] : List Int), blk bp0 [v1p, (nV r0_6.2.p)] 72, ow [(sV b0_5 0 5 5)] ([-1, x0_1.regs, (x0_1.blocks.length : Int), 0, 1] : List Int), ow [(sV b0_4 o0_2 x0_1.blocks.length c0_3)] (x0_1.blocks.set (r0_4.1).toNat (⟨x0_2.phis, (x0_2.ins.set (0 : Int).toNat (⟨x8_1.op, x8_1.to, pb8_1, x8_1.n_⟩ : Ins_)), x0_2.jump, x0_2.on, x0_2.next_⟩ : Block_)), blk b0_2 [(sV b0_3 o0_1 r0_2.codes.length c0_1)] 25, holeE b0_3 o0_1 r0_2.codes.length c0_1 (r0_2.codes : List Code_) (r0_3.1).toNat [(nV x0_1.params), (nV x0_1.regs), (sV b0_4 o0_2 x0_1.blocks.length c0_3)], ow [v0_2] r0_1.1.codes, blk b0_1 [(.slice none 0 0)] 25]) [0, 1, 2, 4, 5, 6, 7, 8] rfl rfl
             have hx8_4 := List.getElem?_set_self (a := ((⟨x0_2.phis, (x0_2.ins.set (0 : Int).toNat (⟨x8_1.op, x8_1.to, pb8_1, x8_1.n_⟩ : Ins_)), x0_2.jump, x0_2.on, x0_2.next_⟩ : Block_) : Block_)) (idx_lt hx0_8)
             replace hm : Mem w0 hz _ [ow [(sV b8_2 0 1 1)] ([r0_5.1] : List Int), blk bp0 [v1p, (nV r0_6.2.p)] 72, ow [(sV b0_5 0 5 5)] ([-1, x0_1.regs, (x0_1.blocks.length : Int), 0, 1] : List Int), ow [(nV x0_1.params), (nV x0_1.regs), (sV b0_4 o0_2 x0_1.blocks.length c0_3)] ((⟨x0_1.params, x0_1.regs, (x0_1.blocks.set (r0_4.1).toNat (⟨x0_2.phis, (x0_2.ins.set (0 : Int).toNat (⟨x8_1.op, x8_1.to, pb8_1, x8_1.n_⟩ : Ins_)), x0_2.jump, x0_2.on, x0_2.next_⟩ : Block_))⟩ : Code_) : Code_), blk b0_2 [(sV b0_3 o0_1 r0_2.codes.length c0_1)] 25, holeE b0_3 o0_1 r0_2.codes.length c0_1 (r0_2.codes : List Code_) (r0_3.1).toNat [(nV x0_1.params), (nV x0_1.regs), (sV b0_4 o0_2 x0_1.blocks.length c0_3)], ow [v0_2] r0_1.1.codes, blk b0_1 [(.slice none 0 0)] 25] := mk_Code_ x0_1.params x0_1.regs hm 3 rfl
             replace hm := (hm.shutE (y := ((⟨x0_1.params, x0_1.regs, (x0_1.blocks.set (r0_4.1).toNat (⟨x0_2.phis, (x0_2.ins.set (0 : Int).toNat (⟨x8_1.op, x8_1.to, pb8_1, x8_1.n_⟩ : Ins_)), x0_2.jump, x0_2.on, x0_2.next_⟩ : Block_))⟩ : Code_) : Code_)) 5 3 (by decide) rfl rfl).pk (L' := [ow [(sV b8_2 0 1 1)] ([r0_5.1] : List Int), blk bp0 [v1p, (nV r0_6.2.p)] 72, ow [(sV b0_5 0 5 5)] ([-1, x0_1.regs, (x0_1.blocks.length : Int), 0, 1] : List Int), blk b0_2 [(sV b0_3 o0_1 r0_2.codes.length c0_1)] 25, ow [(sV b0_3 o0_1 r0_2.codes.length c0_1)] (r0_2.codes.set (r0_3.1).toNat (⟨x0_1.params, x0_1.regs, (x0_1.blocks.set (r0_4.1).toNat (⟨x0_2.phis, (x0_2.ins.set (0 : Int).toNat (⟨x8_1.op, x8_1.to, pb8_1, x8_1.n_⟩ : Ins_)), x0_2.jump, x0_2.on, x0_2.next_⟩ : Block_))⟩ : Code_)), ow [v0_2] r0_1.1.codes, blk b0_1 [(.slice none 0 0)] 25]) [0, 1, 2, 4, 5, 6, 7] rfl rfl
             have hx8_5 := List.getElem?_set_self (a := ((⟨x0_1.params, x0_1.regs, (x0_1.blocks.set (r0_4.1).toNat (⟨x0_2.phis, (x0_2.ins.set (0 : Int).toNat (⟨x8_1.op, x8_1.to, pb8_1, x8_1.n_⟩ : Ins_)), x0_2.jump, x0_2.on, x0_2.next_⟩ : Block_))⟩ : Code_) : Code_)) (idx_lt hx0_5)
             exact gz hm [6, 3, 4, 1] rfl
            refine tO (tf rfl rfl (fun a hf => e_build (vs := #[(0, (nV r0_5.1))]) (cs := [(nV r0_5.1)]) et_29 hf hm rfl rfl (by kernel_rfl) rfl rfl) ?_)
            rintro _ w ⟨b8_3, rfl, hm⟩
            replace hm := hm.lit (xs := ([r0_5.1] : List Int)) 0 rfl rfl rfl rfl
            refine tAk hm [1, 2, 3, 5, 6, 7, 8, 9, 10] rfl fun hS => tO ?_
            obtain ⟨v8_4, hm⟩ := pin_Ins_ hm 4 rfl hx8_2
            refine tY rfl (yl isAgg29 ((hm.holeE_at 5 rfl).cell (j := 2) rfl) rfl) (tAk hm [2, 3, 4, 6, 7, 8, 9, 10, 11] rfl fun hS => tO ?_)
            obtain ⟨h8_4, h8_4e⟩ := appM_some.1 hpb8_1
            refine tf rfl rfl (fun a hf => e_append 0 et_29 hf hm rfl (hm.ow_rep 1 rfl) rfl rfl rfl h8_4) ?_
            rintro v8_5 w hm
            rw [h8_4e] at hm
            refine tAk hm [2, 3, 4, 6, 7, 8, 9, 10, 11] rfl fun hS => ?_
            have hL8_2 := hm.holeE_len 5 rfl
            refine tP rfl (fun w => yI st_63 h8_1 (idx_lt2 hx8_2 hL8_2) rfl) (tP rfl (fun w => yF fo_68_2 rfl) (tO ?_))
            have h18_2 : ∀ u ∈ ([v8_5] : List Value), u.oneCell' = true := (one_cons (rep_one (hm.ow_rep 0 rfl)) one_nil)
            refine tf0 rfl rfl (fun a hf => e_storeH (j := 2) (vs := [v8_5]) 5 hf hm rfl rfl rfl sizeOf29 rfl rfl (cells_one (h18_2 _ (List.mem_singleton.2 rfl))) h18_2 rfl) ?_
            rintro _ w hm
            replace hm : Mem w0 hz _ [ow [v8_5] pb8_1, ow [(sV b8_3 0 1 1)] ([r0_5.1] : List Int), blk bp0 [v1p, (nV r0_6.2.p)] 72, ow [(sV b0_5 0 5 5)] ([-1, x0_1.regs, (x0_1.blocks.length : Int), 0, 1] : List Int), ow [v0_14] x0_2.next_, holeE b8_1 o8_1 x0_2.ins.length c6_2 (x0_2.ins : List Ins_) (0 : Int).toNat [(nV x8_1.op), (nV x8_1.to), v8_5, (nV x8_1.n_)], ow [v0_12] x0_2.phis, holeE b0_4 o0_2 x0_1.blocks.length c0_3 (x0_1.blocks : List Block_) (r0_4.1).toNat [v0_12, (sV b8_1 o8_1 x0_2.ins.length c6_2), (nV x0_2.jump), (nV x0_2.on), v0_14], blk b0_2 [(sV b0_3 o0_1 r0_2.codes.length c0_1)] 25, holeE b0_3 o0_1 r0_2.codes.length c0_1 (r0_2.codes : List Code_) (r0_3.1).toNat [(nV x0_1.params), (nV x0_1.regs), (sV b0_4 o0_2 x0_1.blocks.length c0_3)], ow [v0_2] r0_1.1.codes, blk b0_1 [(.slice none 0 0)] 25] := hm
            refine tAn rfl (tE ?_)
            replace hm : Mem w0 hz _ [ow [(nV x8_1.op), (nV x8_1.to), v8_5, (nV x8_1.n_)] ((⟨x8_1.op, x8_1.to, pb8_1, x8_1.n_⟩ : Ins_) : Ins_), ow [(sV b8_3 0 1 1)] ([r0_5.1] : List Int), blk bp0 [v1p, (nV r0_6.2.p)] 72, ow [(sV b0_5 0 5 5)] ([-1, x0_1.regs, (x0_1.blocks.length : Int), 0, 1] : List Int), ow [v0_14] x0_2.next_, holeE b8_1 o8_1 x0_2.ins.length c6_2 (x0_2.ins : List Ins_) (0 : Int).toNat [(nV x8_1.op), (nV x8_1.to), v8_5, (nV x8_1.n_)], ow [v0_12] x0_2.phis, holeE b0_4 o0_2 x0_1.blocks.length c0_3 (x0_1.blocks : List Block_) (r0_4.1).toNat [v0_12, (sV b8_1 o8_1 x0_2.ins.length c6_2), (nV x0_2.jump), (nV x0_2.on), v0_14], blk b0_2 [(sV b0_3 o0_1 r0_2.codes.length c0_1)] 25, holeE b0_3 o0_1 r0_2.codes.length c0_1 (r0_2.codes : List Code_) (r0_3.1).toNat [(nV x0_1.params), (nV x0_1.regs), (sV b0_4 o0_2 x0_1.blocks.length c0_3)], ow [v0_2] r0_1.1.codes, blk b0_1 [(.slice none 0 0)] 25] := mk_Ins_ x8_1.op x8_1.to x8_1.n_ hm 0 rfl
            replace hm := (hm.shutE (y := ((⟨x8_1.op, x8_1.to, pb8_1, x8_1.n_⟩ : Ins_) : Ins_)) 5 0 (by decide) rfl rfl).pk (L' := [ow [(sV b8_3 0 1 1)] ([r0_5.1] : List Int), blk bp0 [v1p, (nV r0_6.2.p)] 72, ow [(sV b0_5 0 5 5)] ([-1, x0_1.regs, (x0_1.blocks.length : Int), 0, 1] : List Int), ow [v0_14] x0_2.next_, ow [(sV b8_1 o8_1 x0_2.ins.length c6_2)] (x0_2.ins.set (0 : Int).toNat (⟨x8_1.op, x8_1.to, pb8_1, x8_1.n_⟩ : Ins_)), ow [v0_12] x0_2.phis, holeE b0_4 o0_2 x0_1.blocks.length c0_3 (x0_1.blocks : List Block_) (r0_4.1).toNat [v0_12, (sV b8_1 o8_1 x0_2.ins.length c6_2), (nV x0_2.jump), (nV x0_2.on), v0_14], blk b0_2 [(sV b0_3 o0_1 r0_2.codes.length c0_1)] 25, holeE b0_3 o0_1 r0_2.codes.length c0_1 (r0_2.codes : List Code_) (r0_3.1).toNat [(nV x0_1.params), (nV x0_1.regs), (sV b0_4 o0_2 x0_1.blocks.length c0_3)], ow [v0_2] r0_1.1.codes, blk b0_1 [(.slice none 0 0)] 25]) [1, 2, 3, 4, 5, 6, 7, 8, 9, 10, 11] rfl rfl
            have hx8_6 := List.getElem?_set_self (a := ((⟨x8_1.op, x8_1.to, pb8_1, x8_1.n_⟩ : Ins_) : Ins_)) (idx_lt hx8_2)
            replace hm := (mk_Block_ x0_2.jump x0_2.on hm 5 4 3 rfl).pk (L' := [ow [(sV b8_3 0 1 1)] ([r0_5.1] : List Int), blk bp0 [v1p, (nV r0_6.2.p)] 72, ow [(sV b0_5 0 5 5)] ([-1, x0_1.regs, (x0_1.blocks.length : Int), 0, 1] : List Int), ow [v0_12, (sV b8_1 o8_1 x0_2.ins.length c6_2), (nV x0_2.jump), (nV x0_2.on), v0_14] ((⟨x0_2.phis, (x0_2.ins.set (0 : Int).toNat (⟨x8_1.op, x8_1.to, pb8_1, x8_1.n_⟩ : Ins_)), x0_2.jump, x0_2.on, x0_2.next_⟩ : Block_) : Block_), holeE b0_4 o0_2 x0_1.blocks.length c0_3 (x0_1.blocks : List Block_) (r0_4.1).toNat [v0_12, (sV b8_1 o8_1 x0_2.ins.length c6_2), (nV x0_2.jump), (nV x0_2.on), v0_14], blk b0_2 [(sV b0_3 o0_1 r0_2.codes.length c0_1)] 25, holeE b0_3 o0_1 r0_2.codes.length c0_1 (r0_2.codes : List Code_) (r0_3.1).toNat [(nV x0_1.params), (nV x0_1.regs), (sV b0_4 o0_2 x0_1.blocks.length c0_3)], ow [v0_2] r0_1.1.codes, blk b0_1 [(.slice none 0 0)] 25]) [0, 1, 2, 5, 6, 7, 8, 9, 10] rfl rfl
            replace hm := (hm.shutE (y := ((⟨x0_2.phis, (x0_2.ins.set (0 : Int).toNat (⟨x8_1.op, x8_1.to, pb8_1, x8_1.n_⟩ : Ins_)), x0_2.jump, x0_2.on, x0_2.next_⟩ : Block_) : Block_)) 4 3 (by decide) rfl rfl).pk (L' := [ow [(sV b8_3 0 1 1)] ([r0_5.1] : List Int), blk bp0 [v1p, (nV r0_6.2.p)] 72, ow [(sV b0_5 0 5 5)] ([-1, x0_1.regs, (x0_1.blocks.length : Int), 0, 1] : List Int), ow [(sV b0_4 o0_2 x0_1.blocks.length c0_3)] (x0_1.blocks.set (r0_4.1).toNat (⟨x0_2.phis, (x0_2.ins.set (0 : Int).toNat (⟨x8_1.op, x8_1.to, pb8_1, x8_1.n_⟩ : Ins_)), x0_2.jump, x0_2.on, x0_2.next_⟩ : Block_)), blk b0_2 [(sV b0_3 o0_1 r0_2.codes.length c0_1)] 25, holeE b0_3 o0_1 r0_2.codes.length c0_1 (r0_2.codes : List Code_) (r0_3.1).toNat [(nV x0_1.params), (nV x0_1.regs), (sV b0_4 o0_2 x0_1.blocks.length c0_3)], ow [v0_2] r0_1.1.codes, blk b0_1 [(.slice none 0 0)] 25]) [0, 1, 2, 4, 5, 6, 7, 8] rfl rfl
            have hx8_7 := List.getElem?_set_self (a := ((⟨x0_2.phis, (x0_2.ins.set (0 : Int).toNat (⟨x8_1.op, x8_1.to, pb8_1, x8_1.n_⟩ : Ins_)), x0_2.jump, x0_2.on, x0_2.next_⟩ : Block_) : Block_)) (idx_lt hx0_8)
            replace hm : Mem w0 hz _ [ow [(sV b8_3 0 1 1)] ([r0_5.1] : List Int), blk bp0 [v1p, (nV r0_6.2.p)] 72, ow [(sV b0_5 0 5 5)] ([-1, x0_1.regs, (x0_1.blocks.length : Int), 0, 1] : List Int), ow [(nV x0_1.params), (nV x0_1.regs), (sV b0_4 o0_2 x0_1.blocks.length c0_3)] ((⟨x0_1.params, x0_1.regs, (x0_1.blocks.set (r0_4.1).toNat (⟨x0_2.phis, (x0_2.ins.set (0 : Int).toNat (⟨x8_1.op, x8_1.to, pb8_1, x8_1.n_⟩ : Ins_)), x0_2.jump, x0_2.on, x0_2.next_⟩ : Block_))⟩ : Code_) : Code_), blk b0_2 [(sV b0_3 o0_1 r0_2.codes.length c0_1)] 25, holeE b0_3 o0_1 r0_2.codes.length c0_1 (r0_2.codes : List Code_) (r0_3.1).toNat [(nV x0_1.params), (nV x0_1.regs), (sV b0_4 o0_2 x0_1.blocks.length c0_3)], ow [v0_2] r0_1.1.codes, blk b0_1 [(.slice none 0 0)] 25] := mk_Code_ x0_1.params x0_1.regs hm 3 rfl
            replace hm := (hm.shutE (y := ((⟨x0_1.params, x0_1.regs, (x0_1.blocks.set (r0_4.1).toNat (⟨x0_2.phis, (x0_2.ins.set (0 : Int).toNat (⟨x8_1.op, x8_1.to, pb8_1, x8_1.n_⟩ : Ins_)), x0_2.jump, x0_2.on, x0_2.next_⟩ : Block_))⟩ : Code_) : Code_)) 5 3 (by decide) rfl rfl).pk (L' := [ow [(sV b8_3 0 1 1)] ([r0_5.1] : List Int), blk bp0 [v1p, (nV r0_6.2.p)] 72, ow [(sV b0_5 0 5 5)] ([-1, x0_1.regs, (x0_1.blocks.length : Int), 0, 1] : List Int), blk b0_2 [(sV b0_3 o0_1 r0_2.codes.length c0_1)] 25, ow [(sV b0_3 o0_1 r0_2.codes.length c0_1)] (r0_2.codes.set (r0_3.1).toNat (⟨x0_1.params, x0_1.regs, (x0_1.blocks.set (r0_4.1).toNat (⟨x0_2.phis, (x0_2.ins.set (0 : Int).toNat (⟨x8_1.op, x8_1.to, pb8_1, x8_1.n_⟩ : Ins_)), x0_2.jump, x0_2.on, x0_2.next_⟩ : Block_))⟩ : Code_)), ow [v0_2] r0_1.1.codes, blk b0_1 [(.slice none 0 0)] 25]) [0, 1, 2, 4, 5, 6, 7] rfl rfl
            have hx8_8 := List.getElem?_set_self (a := ((⟨x0_1.params, x0_1.regs, (x0_1.blocks.set (r0_4.1).toNat (⟨x0_2.phis, (x0_2.ins.set (0 : Int).toNat (⟨x8_1.op, x8_1.to, pb8_1, x8_1.n_⟩ : Ins_)), x0_2.jump, x0_2.on, x0_2.next_⟩ : Block_))⟩ : Code_) : Code_)) (idx_lt hx0_5)
            exact gz hm [6, 3, 4, 1] rfl
           repeat clear hm
           intro s7_1 w hm
           exact gz hm [0, 1, 2, 3] rfl
          refine gcf rfl (gSk ?_)
          replace hm := (mk_Block_ x0_2.jump x0_2.on hm 4 3 2 rfl).pk (L' := [blk bp0 [v1p, (nV r0_6.2.p)] 72, ow [(sV b0_5 0 5 5)] ([-1, x0_1.regs, (x0_1.blocks.length : Int), 0, 1] : List Int), ow [v0_12, (.slice p6_1 x0_2.ins.length c6_2), (nV x0_2.jump), (nV x0_2.on), v0_14] (x0_2 : Block_), holeE b0_4 o0_2 x0_1.blocks.length c0_3 (x0_1.blocks : List Block_) (r0_4.1).toNat [v0_12, (.slice p6_1 x0_2.ins.length c6_2), (nV x0_2.jump), (nV x0_2.on), v0_14], blk b0_2 [(sV b0_3 o0_1 r0_2.codes.length c0_1)] 25, holeE b0_3 o0_1 r0_2.codes.length c0_1 (r0_2.codes : List Code_) (r0_3.1).toNat [(nV x0_1.params), (nV x0_1.regs), (sV b0_4 o0_2 x0_1.blocks.length c0_3)], ow [v0_2] r0_1.1.codes, blk b0_1 [(.slice none 0 0)] 25]) [0, 1, 4, 5, 6, 7, 8, 9] rfl rfl
          replace hm := (hm.shutE (y := (x0_2 : Block_)) 3 2 (by decide) rfl rfl).pk (L' := [blk bp0 [v1p, (nV r0_6.2.p)] 72, ow [(sV b0_5 0 5 5)] ([-1, x0_1.regs, (x0_1.blocks.length : Int), 0, 1] : List Int), ow [(sV b0_4 o0_2 x0_1.blocks.length c0_3)] (x0_1.blocks.set (r0_4.1).toNat x0_2), blk b0_2 [(sV b0_3 o0_1 r0_2.codes.length c0_1)] 25, holeE b0_3 o0_1 r0_2.codes.length c0_1 (r0_2.codes : List Code_) (r0_3.1).toNat [(nV x0_1.params), (nV x0_1.regs), (sV b0_4 o0_2 x0_1.blocks.length c0_3)], ow [v0_2] r0_1.1.codes, blk b0_1 [(.slice none 0 0)] 25]) [0, 1, 3, 4, 5, 6, 7] rfl rfl
          rw [set_same hx0_8] at hm
          replace hm : Mem w0 hz _ [blk bp0 [v1p, (nV r0_6.2.p)] 72, ow [(sV b0_5 0 5 5)] ([-1, x0_1.regs, (x0_1.blocks.length : Int), 0, 1] : List Int), ow [(nV x0_1.params), (nV x0_1.regs), (sV b0_4 o0_2 x0_1.blocks.length c0_3)] (x0_1 : Code_), blk b0_2 [(sV b0_3 o0_1 r0_2.codes.length c0_1)] 25, holeE b0_3 o0_1 r0_2.codes.length c0_1 (r0_2.codes : List Code_) (r0_3.1).toNat [(nV x0_1.params), (nV x0_1.regs), (sV b0_4 o0_2 x0_1.blocks.length c0_3)], ow [v0_2] r0_1.1.codes, blk b0_1 [(.slice none 0 0)] 25] := mk_Code_ x0_1.params x0_1.regs hm 2 rfl
          replace hm := (hm.shutE (y := (x0_1 : Code_)) 4 2 (by decide) rfl rfl).pk (L' := [blk bp0 [v1p, (nV r0_6.2.p)] 72, ow [(sV b0_5 0 5 5)] ([-1, x0_1.regs, (x0_1.blocks.length : Int), 0, 1] : List Int), blk b0_2 [(sV b0_3 o0_1 r0_2.codes.length c0_1)] 25, ow [(sV b0_3 o0_1 r0_2.codes.length c0_1)] (r0_2.codes.set (r0_3.1).toNat x0_1), ow [v0_2] r0_1.1.codes, blk b0_1 [(.slice none 0 0)] 25]) [0, 1, 3, 4, 5, 6] rfl rfl
          rw [set_same hx0_5] at hm
          exact gz hm [5, 2, 3, 0] rfl
         repeat clear hm
         intro s6_1 w hm
         exact gz hm [0, 1, 2, 3] rfl
        refine gcf rfl (gS (gR (gB rfl (gA rfl (gE (gJ hm (fun s6_2 => [(2, (pV b0_1)), (3, (pV b0_2))]) (fun s6_2 => [blk b0_1 [(.slice none 0 0)] 25, blk b0_2 [(sV b0_3 o0_1 r0_2.codes.length c0_1)] 25, ow [(sV b0_3 o0_1 r0_2.codes.length c0_1)] s6_2.1, blk bp0 [v1p, (nV s6_2.2)] 72]) (fun s6_2 => ?_) ?_))))))
        ·
         refine gsd 110 rfl (fun h7_2 => ?_) fun h7_2 => ?_
         ·
          refine gct rfl (gR (gM rfl (gM rfl (gY (yG rfl (y_nilptr rfl rfl)) (gF fo_65_0 rfl (gY (yl isAgg62 ((hm.holeE_at 5 rfl).cell (j := 0) rfl) rfl) (gM rfl (gf rfl (fun a hf => e_build (vs := #[(0, (nV r0_5.1))]) (cs := [(nV r0_5.1)]) et_29 hf hm rfl rfl (by kernel_rfl) rfl rfl) ?_))))))))
          rintro _ w ⟨b7_1, rfl, hm⟩
          replace hm := hm.lit (xs := ([r0_5.1] : List Int)) 0 rfl rfl rfl rfl
          refine gY (yG rfl (y_build (vs := [(0, (nV 0)), (1, (sV b7_1 0 1 1))]) (cs := #[(nV 0), (sV b7_1 0 1 1)]) rfl rfl (by kernel_rfl))) (gf rfl (fun a hf => e_build (vs := #[(0, (.agg #[(nV 0), (sV b7_1 0 1 1)]))]) (cs := [(nV 0), (sV b7_1 0 1 1)]) et_62 hf hm rfl rfl (by kernel_rfl) rfl rfl) ?_)
          rintro _ w ⟨b7_2, rfl, hm⟩
          replace hm := hm.els_nil (α := Phi_)
          replace hm : Mem w0 hz _ [els [] ([] : List Phi_), blk b7_2 [(nV 0), (sV b7_1 0 1 1)] 70, ow [(nV 0), (sV b7_1 0 1 1)] ((⟨0, ([r0_5.1] : List Int)⟩ : Phi_) : Phi_), blk bp0 [v1p, (nV r0_6.2.p)] 72, ow [(sV b0_5 0 5 5)] ([-1, x0_1.regs, (x0_1.blocks.length : Int), 0, 1] : List Int), ow [v0_14] x0_2.next_, ow [v0_13] x0_2.ins, ow [v0_12] x0_2.phis, holeE b0_4 o0_2 x0_1.blocks.length c0_3 (x0_1.blocks : List Block_) (r0_4.1).toNat [v0_12, v0_13, (nV x0_2.jump), (nV x0_2.on), v0_14], blk b0_2 [(sV b0_3 o0_1 r0_2.codes.length c0_1)] 25, holeE b0_3 o0_1 r0_2.codes.length c0_1 (r0_2.codes : List Code_) (r0_3.1).toNat [(nV x0_1.params), (nV x0_1.regs), (sV b0_4 o0_2 x0_1.blocks.length c0_3)], ow [v0_2] r0_1.1.codes, blk b0_1 [(.slice none 0 0)] 25] := mk_Phi_ 0 hm 2 rfl
          replace hm := (hm.els_cons 0 2 (by decide) rfl rfl).pk (L' := [els [(nV 0), (sV b7_1 0 1 1)] ([(⟨0, ([r0_5.1] : List Int)⟩ : Phi_)] : List Phi_), blk b7_2 [(nV 0), (sV b7_1 0 1 1)] 70, blk bp0 [v1p, (nV r0_6.2.p)] 72, ow [(sV b0_5 0 5 5)] ([-1, x0_1.regs, (x0_1.blocks.length : Int), 0, 1] : List Int), ow [v0_14] x0_2.next_, ow [v0_13] x0_2.ins, ow [v0_12] x0_2.phis, holeE b0_4 o0_2 x0_1.blocks.length c0_3 (x0_1.blocks : List Block_) (r0_4.1).toNat [v0_12, v0_13, (nV x0_2.jump), (nV x0_2.on), v0_14], blk b0_2 [(sV b0_3 o0_1 r0_2.codes.length c0_1)] 25, holeE b0_3 o0_1 r0_2.codes.length c0_1 (r0_2.codes : List Code_) (r0_3.1).toNat [(nV x0_1.params), (nV x0_1.regs), (sV b0_4 o0_2 x0_1.blocks.length c0_3)], ow [v0_2] r0_1.1.codes, blk b0_1 [(.slice none 0 0)] 25]) [0, 1, 3, 4, 5, 6, 7, 8, 9, 10, 11, 12] rfl rfl
          replace hm := (hm.lit_els 1 0 (by decide) rfl rfl rfl rfl).pk (L' := [ow [(sV b7_2 0 1 1)] ([(⟨0, ([r0_5.1] : List Int)⟩ : Phi_)] : List Phi_), blk bp0 [v1p, (nV r0_6.2.p)] 72, ow [(sV b0_5 0 5 5)] ([-1, x0_1.regs, (x0_1.blocks.length : Int), 0, 1] : List Int), ow [v0_14] x0_2.next_, ow [v0_13] x0_2.ins, ow [v0_12] x0_2.phis, holeE b0_4 o0_2 x0_1.blocks.length c0_3 (x0_1.blocks : List Block_) (r0_4.1).toNat [v0_12, v0_13, (nV x0_2.jump), (nV x0_2.on), v0_14], blk b0_2 [(sV b0_3 o0_1 r0_2.codes.length c0_1)] 25, holeE b0_3 o0_1 r0_2.codes.length c0_1 (r0_2.codes : List Code_) (r0_3.1).toNat [(nV x0_1.params), (nV x0_1.regs), (sV b0_4 o0_2 x0_1.blocks.length c0_3)], ow [v0_2] r0_1.1.codes, blk b0_1 [(.slice none 0 0)] 25]) [1, 2, 3, 4, 5, 6, 7, 8, 9, 10, 11] rfl rfl
          refine gb fun ys7_1 hx7_1 => ?_
          obtain ⟨h7_3, h7_3e⟩ := appM_some.1 hx7_1
          replace hm := (hm.both 5 0 (by decide) rfl rfl).pk (L' := [blk bp0 [v1p, (nV r0_6.2.p)] 72, ow [(sV b0_5 0 5 5)] ([-1, x0_1.regs, (x0_1.blocks.length : Int), 0, 1] : List Int), ow [v0_14] x0_2.next_, ow [v0_13] x0_2.ins, both (ow [v0_12] x0_2.phis) (ow [(sV b7_2 0 1 1)] ([(⟨0, ([r0_5.1] : List Int)⟩ : Phi_)] : List Phi_)), holeE b0_4 o0_2 x0_1.blocks.length c0_3 (x0_1.blocks : List Block_) (r0_4.1).toNat [v0_12, v0_13, (nV x0_2.jump), (nV x0_2.on), v0_14], blk b0_2 [(sV b0_3 o0_1 r0_2.codes.length c0_1)] 25, holeE b0_3 o0_1 r0_2.codes.length c0_1 (r0_2.codes : List Code_) (r0_3.1).toNat [(nV x0_1.params), (nV x0_1.regs), (sV b0_4 o0_2 x0_1.blocks.length c0_3)], ow [v0_2] r0_1.1.codes, blk b0_1 [(.slice none 0 0)] 25]) [1, 2, 3, 4, 5, 6, 7, 8, 9, 10] rfl rfl
          refine gf rfl (fun a hf => e_appendD (xs := x0_2.phis) (ys := ([(⟨0, ([r0_5.1] : List Int)⟩ : Phi_)] : List Phi_)) 4 et_62 hf hm rfl rfl rfl rfl h7_3) ?_
          rintro v7_1 w hm
          rw [h7_3e] at hm
          refine gY (yG rfl (y_nilptr rfl rfl)) (gF fo_65_0 rfl ?_)
          have h17_1 : ∀ u ∈ ([v7_1] : List Value), u.oneCell' = true := (one_cons (rep_one (hm.ow_rep 4 rfl)) one_nil)
          refine gf0 rfl (fun a hf => e_storeH (j := 0) (vs := [v7_1]) 5 hf hm rfl rfl rfl sizeOf62 rfl rfl (cells_one (h17_1 _ (List.mem_singleton.2 rfl))) h17_1 rfl) ?_
          rintro _ w hm
          replace hm : Mem w0 hz _ [blk bp0 [v1p, (nV r0_6.2.p)] 72, ow [(sV b0_5 0 5 5)] ([-1, x0_1.regs, (x0_1.blocks.length : Int), 0, 1] : List Int), ow [v0_14] x0_2.next_, ow [v0_13] x0_2.ins, ow [v7_1] ys7_1, holeE b0_4 o0_2 x0_1.blocks.length c0_3 (x0_1.blocks : List Block_) (r0_4.1).toNat [v7_1, v0_13, (nV x0_2.jump), (nV x0_2.on), v0_14], blk b0_2 [(sV b0_3 o0_1 r0_2.codes.length c0_1)] 25, holeE b0_3 o0_1 r0_2.codes.length c0_1 (r0_2.codes : List Code_) (r0_3.1).toNat [(nV x0_1.params), (nV x0_1.regs), (sV b0_4 o0_2 x0_1.blocks.length c0_3)], ow [v0_2] r0_1.1.codes, blk b0_1 [(.slice none 0 0)] 25] := hm
          refine gE ?_
          replace hm := (mk_Block_ x0_2.jump x0_2.on hm 4 3 2 rfl).pk (L' := [blk bp0 [v1p, (nV r0_6.2.p)] 72, ow [(sV b0_5 0 5 5)] ([-1, x0_1.regs, (x0_1.blocks.length : Int), 0, 1] : List Int), ow [v7_1, v0_13, (nV x0_2.jump), (nV x0_2.on), v0_14] ((⟨ys7_1, x0_2.ins, x0_2.jump, x0_2.on, x0_2.next_⟩ : Block_) : Block_), holeE b0_4 o0_2 x0_1.blocks.length c0_3 (x0_1.blocks : List Block_) (r0_4.1).toNat [v7_1, v0_13, (nV x0_2.jump), (nV x0_2.on), v0_14], blk b0_2 [(sV b0_3 o0_1 r0_2.codes.length c0_1)] 25, holeE b0_3 o0_1 r0_2.codes.length c0_1 (r0_2.codes : List Code_) (r0_3.1).toNat [(nV x0_1.params), (nV x0_1.regs), (sV b0_4 o0_2 x0_1.blocks.length c0_3)], ow [v0_2] r0_1.1.codes, blk b0_1 [(.slice none 0 0)] 25]) [0, 1, 4, 5, 6, 7, 8, 9] rfl rfl
          replace hm := (hm.shutE (y := ((⟨ys7_1, x0_2.ins, x0_2.jump, x0_2.on, x0_2.next_⟩ : Block_) : Block_)) 3 2 (by decide) rfl rfl).pk (L' := [blk bp0 [v1p, (nV r0_6.2.p)] 72, ow [(sV b0_5 0 5 5)] ([-1, x0_1.regs, (x0_1.blocks.length : Int), 0, 1] : List Int), ow [(sV b0_4 o0_2 x0_1.blocks.length c0_3)] (x0_1.blocks.set (r0_4.1).toNat (⟨ys7_1, x0_2.ins, x0_2.jump, x0_2.on, x0_2.next_⟩ : Block_)), blk b0_2 [(sV b0_3 o0_1 r0_2.codes.length c0_1)] 25, holeE b0_3 o0_1 r0_2.codes.length c0_1 (r0_2.codes : List Code_) (r0_3.1).toNat [(nV x0_1.params), (nV x0_1.regs), (sV b0_4 o0_2 x0_1.blocks.length c0_3)], ow [v0_2] r0_1.1.codes, blk b0_1 [(.slice none 0 0)] 25]) [0, 1, 3, 4, 5, 6, 7] rfl rfl
          have hx7_2 := List.getElem?_set_self (a := ((⟨ys7_1, x0_2.ins, x0_2.jump, x0_2.on, x0_2.next_⟩ : Block_) : Block_)) (idx_lt hx0_8)
          replace hm : Mem w0 hz _ [blk bp0 [v1p, (nV r0_6.2.p)] 72, ow [(sV b0_5 0 5 5)] ([-1, x0_1.regs, (x0_1.blocks.length : Int), 0, 1] : List Int), ow [(nV x0_1.params), (nV x0_1.regs), (sV b0_4 o0_2 x0_1.blocks.length c0_3)] ((⟨x0_1.params, x0_1.regs, (x0_1.blocks.set (r0_4.1).toNat (⟨ys7_1, x0_2.ins, x0_2.jump, x0_2.on, x0_2.next_⟩ : Block_))⟩ : Code_) : Code_), blk b0_2 [(sV b0_3 o0_1 r0_2.codes.length c0_1)] 25, holeE b0_3 o0_1 r0_2.codes.length c0_1 (r0_2.codes : List Code_) (r0_3.1).toNat [(nV x0_1.params), (nV x0_1.regs), (sV b0_4 o0_2 x0_1.blocks.length c0_3)], ow [v0_2] r0_1.1.codes, blk b0_1 [(.slice none 0 0)] 25] := mk_Code_ x0_1.params x0_1.regs hm 2 rfl
          replace hm := (hm.shutE (y := ((⟨x0_1.params, x0_1.regs, (x0_1.blocks.set (r0_4.1).toNat (⟨ys7_1, x0_2.ins, x0_2.jump, x0_2.on, x0_2.next_⟩ : Block_))⟩ : Code_) : Code_)) 4 2 (by decide) rfl rfl).pk (L' := [blk bp0 [v1p, (nV r0_6.2.p)] 72, ow [(sV b0_5 0 5 5)] ([-1, x0_1.regs, (x0_1.blocks.length : Int), 0, 1] : List Int), blk b0_2 [(sV b0_3 o0_1 r0_2.codes.length c0_1)] 25, ow [(sV b0_3 o0_1 r0_2.codes.length c0_1)] (r0_2.codes.set (r0_3.1).toNat (⟨x0_1.params, x0_1.regs, (x0_1.blocks.set (r0_4.1).toNat (⟨ys7_1, x0_2.ins, x0_2.jump, x0_2.on, x0_2.next_⟩ : Block_))⟩ : Code_)), ow [v0_2] r0_1.1.codes, blk b0_1 [(.slice none 0 0)] 25]) [0, 1, 3, 4, 5, 6] rfl rfl
          have hx7_3 := List.getElem?_set_self (a := ((⟨x0_1.params, x0_1.regs, (x0_1.blocks.set (r0_4.1).toNat (⟨ys7_1, x0_2.ins, x0_2.jump, x0_2.on, x0_2.next_⟩ : Block_))⟩ : Code_) : Code_)) (idx_lt hx0_5)
          exact gz hm [5, 2, 3, 0] rfl
         refine gcf rfl (gS (gR (gB rfl (gA rfl (gE (gJ hm (fun s7_2 => [(2, (pV b0_1)), (3, (pV b0_2))]) (fun s7_2 => [blk b0_1 [(.slice none 0 0)] 25, blk b0_2 [(sV b0_3 o0_1 r0_2.codes.length c0_1)] 25, ow [(sV b0_3 o0_1 r0_2.codes.length c0_1)] s7_2.1, blk bp0 [v1p, (nV s7_2.2)] 72]) (fun s7_2 => ?_) ?_))))))
         ·
          refine gsd 124 rfl (fun h8_5 => ?_) fun h8_5 => ?_
          ·
           refine gct rfl ?_
           replace hm := (mk_Block_ x0_2.jump x0_2.on hm 4 3 2 rfl).pk (L' := [blk bp0 [v1p, (nV r0_6.2.p)] 72, ow [(sV b0_5 0 5 5)] ([-1, x0_1.regs, (x0_1.blocks.length : Int), 0, 1] : List Int), ow [v0_12, v0_13, (nV x0_2.jump), (nV x0_2.on), v0_14] (x0_2 : Block_), holeE b0_4 o0_2 x0_1.blocks.length c0_3 (x0_1.blocks : List Block_) (r0_4.1).toNat [v0_12, v0_13, (nV x0_2.jump), (nV x0_2.on), v0_14], blk b0_2 [(sV b0_3 o0_1 r0_2.codes.length c0_1)] 25, holeE b0_3 o0_1 r0_2.codes.length c0_1 (r0_2.codes : List Code_) (r0_3.1).toNat [(nV x0_1.params), (nV x0_1.regs), (sV b0_4 o0_2 x0_1.blocks.length c0_3)], ow [v0_2] r0_1.1.codes, blk b0_1 [(.slice none 0 0)] 25]) [0, 1, 4, 5, 6, 7, 8, 9] rfl rfl
           replace hm := (hm.shutE (y := (x0_2 : Block_)) 3 2 (by decide) rfl rfl).pk (L' := [blk bp0 [v1p, (nV r0_6.2.p)] 72, ow [(sV b0_5 0 5 5)] ([-1, x0_1.regs, (x0_1.blocks.length : Int), 0, 1] : List Int), ow [(sV b0_4 o0_2 x0_1.blocks.length c0_3)] (x0_1.blocks.set (r0_4.1).toNat x0_2), blk b0_2 [(sV b0_3 o0_1 r0_2.codes.length c0_1)] 25, holeE b0_3 o0_1 r0_2.codes.length c0_1 (r0_2.codes : List Code_) (r0_3.1).toNat [(nV x0_1.params), (nV x0_1.regs), (sV b0_4 o0_2 x0_1.blocks.length c0_3)], ow [v0_2] r0_1.1.codes, blk b0_1 [(.slice none 0 0)] 25]) [0, 1, 3, 4, 5, 6, 7] rfl rfl
           rw [set_same hx0_8] at hm
           refine gW (.p 0 (.p 1 (.p 2 (.p 3 (.p 5 (.q 4 (.e 6 (.p 7 (.p 8 (.p 9 (.e 10 .fin .nil)))) .nil))))))) [6] [0, 1, 2, 3, 5, 7, 8, 9] hm [1, 2, 3, 4, 5, 6] [ow [(sV b0_5 0 5 5)] ([-1, x0_1.regs, (x0_1.blocks.length : Int), 0, 1] : List Int), ow [(sV b0_4 o0_2 x0_1.blocks.length c0_3)] x0_1.blocks, blk b0_2 [(sV b0_3 o0_1 r0_2.codes.length c0_1)] 25, holeE b0_3 o0_1 r0_2.codes.length c0_1 (r0_2.codes : List Code_) (r0_3.1).toNat [(nV x0_1.params), (nV x0_1.regs), (sV b0_4 o0_2 x0_1.blocks.length c0_3)], ow [v0_2] r0_1.1.codes, blk b0_1 [(.slice none 0 0)] 25] rfl mxo (by kernel_rfl) (fun _ _ _ h => h.2) fun w hm hS => tP rfl (fun w => yM rfl) (tP rfl (fun w => yM rfl) (tP rfl (fun w => yG rfl (y_nilptr rfl rfl)) (tP rfl (fun w => yF fo_45_0 rfl) (tP rfl (fun w => yM rfl) (tQ rfl hS (fun w hm => yl isAgg3 ((hm.holeE_at 3 rfl).cell (j := 0) rfl) rfl) (tO (gb fun r8_1 hx8_9 => ?_)))))))
           obtain ⟨hz8_1, hle, hm1, hsub, hk8_1⟩ := hm.take2 (L1 := [blk bp0 [v1p, (nV r0_6.2.p)] 72]) (L2 := [ow [(sV b0_5 0 5 5)] ([-1, x0_1.regs, (x0_1.blocks.length : Int), 0, 1] : List Int), ow [(sV b0_4 o0_2 x0_1.blocks.length c0_3)] x0_1.blocks, blk b0_2 [(sV b0_3 o0_1 r0_2.codes.length c0_1)] 25, holeE b0_3 o0_1 r0_2.codes.length c0_1 (r0_2.codes : List Code_) (r0_3.1).toNat [(nV x0_1.params), (nV x0_1.regs), (sV b0_4 o0_2 x0_1.blocks.length c0_3)], ow [v0_2] r0_1.1.codes, blk b0_1 [(.slice none 0 0)] 25]) [0] [1, 2, 3, 4, 5, 6] (by decide) rfl rfl
           refine tf rfl rfl (fun a hf => e_call hf rfl call29 rfl (pspec_l30Rd__pick_ok _ hz8_1 (⟨r_.b, r0_6.2.p⟩ : l30Rd) bp0 v1p (GT.mono hle h1p) 2 hm1  _ hx8_9)) ?_
           rintro v8_6 w ⟨rfl, hB⟩
           replace hm := hk8_1 _ _ hB; clear hB
           refine tAk hm [1, 2, 3, 4, 5, 6] rfl fun hS => tP rfl (fun w => yB rfl) (tP rfl (fun w => yG rfl (y_nilptr rfl rfl)) (tP rfl (fun w => yF fo_45_1 rfl) (tO ?_)))
           have h18_3 : ∀ u ∈ ([(nV (w64 (x0_1.params + r8_1.1)))] : List Value), u.oneCell' = true := (one_cons rfl one_nil)
           refine tf0 rfl rfl (fun a hf => e_storeH (j := 1) (vs := [(nV (w64 (x0_1.params + r8_1.1)))]) 4 hf hm rfl rfl rfl sizeOf3 rfl rfl rfl h18_3 rfl) ?_
           rintro _ w hm
           replace hm : Mem w0 hz _ [blk bp0 [v1p, (nV r8_1.2.p)] 72, ow [(sV b0_5 0 5 5)] ([-1, x0_1.regs, (x0_1.blocks.length : Int), 0, 1] : List Int), ow [(sV b0_4 o0_2 x0_1.blocks.length c0_3)] x0_1.blocks, blk b0_2 [(sV b0_3 o0_1 r0_2.codes.length c0_1)] 25, holeE b0_3 o0_1 r0_2.codes.length c0_1 (r0_2.codes : List Code_) (r0_3.1).toNat [(nV x0_1.params), (nV (w64 (x0_1.params + r8_1.1))), (sV b0_4 o0_2 x0_1.blocks.length c0_3)], ow [v0_2] r0_1.1.codes, blk b0_1 [(.slice none 0 0)] 25] := hm
           refine tAn rfl (tE ?_)
           replace hm : Mem w0 hz _ [blk bp0 [v1p, (nV r8_1.2.p)] 72, ow [(sV b0_5 0 5 5)] ([-1, x0_1.regs, (x0_1.blocks.length : Int), 0, 1] : List Int), ow [(nV x0_1.params), (nV (w64 (x0_1.params + r8_1.1))), (sV b0_4 o0_2 x0_1.blocks.length c0_3)] ((⟨x0_1.params, w64 (x0_1.params + r8_1.1), x0_1.blocks⟩ : Code_) : Code_), blk b0_2 [(sV b0_3 o0_1 r0_2.codes.length c0_1)] 25, holeE b0_3 o0_1 r0_2.codes.length c0_1 (r0_2.codes : List Code_) (r0_3.1).toNat [(nV x0_1.params), (nV (w64 (x0_1.params + r8_1.1))), (sV b0_4 o0_2 x0_1.blocks.length c0_3)], ow [v0_2] r0_1.1.codes, blk b0_1 [(.slice none 0 0)] 25] := mk_Code_ x0_1.params (w64 (x0_1.params + r8_1.1)) hm 2 rfl
           replace hm := (hm.shutE (y := ((⟨x0_1.params, w64 (x0_1.params + r8_1.1), x0_1.blocks⟩ : Code_) : Code_)) 4 2 (by decide) rfl rfl).pk (L' := [blk bp0 [v1p, (nV r8_1.2.p)] 72, ow [(sV b0_5 0 5 5)] ([-1, x0_1.regs, (x0_1.blocks.length : Int), 0, 1] : List Int), blk b0_2 [(sV b0_3 o0_1 r0_2.codes.length c0_1)] 25, ow [(sV b0_3 o0_1 r0_2.codes.length c0_1)] (r0_2.codes.set (r0_3.1).toNat (⟨x0_1.params, w64 (x0_1.params + r8_1.1), x0_1.blocks⟩ : Code_)), ow [v0_2] r0_1.1.codes, blk b0_1 [(.slice none 0 0)] 25]) [0, 1, 3, 4, 5, 6] rfl rfl
           have hx8_10 := List.getElem?_set_self (a := ((⟨x0_1.params, w64 (x0_1.params + r8_1.1), x0_1.blocks⟩ : Code_) : Code_)) (idx_lt hx0_5)
           exact gz hm [5, 2, 3, 0] rfl
          refine gcf rfl (gS (gR (gB rfl (gA rfl (gE (gJ hm (fun s8_1 => [(2, (pV b0_1)), (3, (pV b0_2))]) (fun s8_1 => [blk b0_1 [(.slice none 0 0)] 25, blk b0_2 [(sV b0_3 o0_1 r0_2.codes.length c0_1)] 25, ow [(sV b0_3 o0_1 r0_2.codes.length c0_1)] s8_1.1, blk bp0 [v1p, (nV s8_1.2)] 72]) (fun s8_1 => ?_) ?_))))))
          ·
           refine gsd 136 rfl (fun h9_1 => ?_) fun h9_1 => ?_
           ·
            refine gct rfl (gS (gR (gM rfl (gY (yG rfl (y_nilptr rfl rfl)) (gF fo_65_1 rfl (gY (yl isAgg63 ((hm.holeE_at 5 rfl).cell (j := 1) rfl) rfl) ?_))))))
            obtain ⟨p9_1, c9_1, rfl, hl9_1⟩ := ro_slice (hm.ow_rep 3 rfl)
            refine gY (yV st_63 rfl) (gB rfl (gE (gJ hm (fun s9_1 => [(2, (pV b0_1)), (3, (pV b0_2))]) (fun s9_1 => [blk b0_1 [(.slice none 0 0)] 25, blk b0_2 [(sV b0_3 o0_1 r0_2.codes.length c0_1)] 25, ow [(sV b0_3 o0_1 r0_2.codes.length c0_1)] s9_1.1, blk bp0 [v1p, (nV s9_1.2)] 72]) (fun s9_1 => ?_) ?_)))
            ·
             refine gsd 143 rfl (fun h10_1 => ?_) fun h10_1 => ?_
             ·
              refine gct rfl (gW (.p 0 (.p 1 (.p 2 (.p 4 (.q 3 (.e 5 (.e 6 (.p 7 (.p 8 (.e 9 .fin .nil))) .nil) .nil)))))) [5, 6] [0, 1, 2, 4, 7, 8] hm [1, 2, 3, 4, 5, 6, 7, 8, 9] [ow [(sV b0_5 0 5 5)] ([-1, x0_1.regs, (x0_1.blocks.length : Int), 0, 1] : List Int), ow [v0_14] x0_2.next_, ow [(.slice p9_1 x0_2.ins.length c9_1)] x0_2.ins, ow [v0_12] x0_2.phis, holeE b0_4 o0_2 x0_1.blocks.length c0_3 (x0_1.blocks : List Block_) (r0_4.1).toNat [v0_12, (.slice p9_1 x0_2.ins.length c9_1), (nV x0_2.jump), (nV x0_2.on), v0_14], blk b0_2 [(sV b0_3 o0_1 r0_2.codes.length c0_1)] 25, holeE b0_3 o0_1 r0_2.codes.length c0_1 (r0_2.codes : List Code_) (r0_3.1).toNat [(nV x0_1.params), (nV x0_1.regs), (sV b0_4 o0_2 x0_1.blocks.length c0_3)], ow [v0_2] r0_1.1.codes, blk b0_1 [(.slice none 0 0)] 25] rfl mxo (by kernel_rfl) (fun _ _ _ h => h.2) fun w hm hS => tP rfl (fun w => yM rfl) (tP rfl (fun w => yG rfl (y_nilptr rfl rfl)) (tP rfl (fun w => yF fo_65_1 rfl) (tP rfl (fun w => yM rfl) (tQ rfl hS (fun w hm => yl isAgg63 ((hm.holeE_at 4 rfl).cell (j := 1) rfl) rfl) (tO (tf rfl rfl (fun a hf => e_build (vs := #[(0, (nV 256)), (1, (nV (-1))), (2, (nV 1))]) (cs := [(nV 256), (nV (-1)), (nV 1)]) et_29 hf hm rfl rfl (by kernel_rfl) rfl rfl) ?_)))))))
              rintro _ w ⟨b10_1, rfl, hm⟩
              replace hm := hm.lit (xs := ([256, -1, 1] : List Int)) 0 rfl rfl rfl rfl
              refine tAk hm [2, 3, 4, 5, 6, 7, 8, 9, 10] rfl fun hS => tO (gb fun r10_1 hx10_1 => ?_)
              obtain ⟨hz10_1, hle, hm1, hsub, hk10_1⟩ := hm.take2 (L1 := [blk bp0 [v1p, (nV r0_6.2.p)] 72]) (L2 := [ow [(sV b10_1 0 3 3)] ([256, -1, 1] : List Int), ow [(sV b0_5 0 5 5)] ([-1, x0_1.regs, (x0_1.blocks.length : Int), 0, 1] : List Int), ow [v0_14] x0_2.next_, ow [(.slice p9_1 x0_2.ins.length c9_1)] x0_2.ins, ow [v0_12] x0_2.phis, holeE b0_4 o0_2 x0_1.blocks.length c0_3 (x0_1.blocks : List Block_) (r0_4.1).toNat [v0_12, (.slice p9_1 x0_2.ins.length c9_1), (nV x0_2.jump), (nV x0_2.on), v0_14], blk b0_2 [(sV b0_3 o0_1 r0_2.codes.length c0_1)] 25, holeE b0_3 o0_1 r0_2.codes.length c0_1 (r0_2.codes : List Code_) (r0_3.1).toNat [(nV x0_1.params), (nV x0_1.regs), (sV b0_4 o0_2 x0_1.blocks.length c0_3)], ow [v0_2] r0_1.1.codes, blk b0_1 [(.slice none 0 0)] 25]) [1] [0, 2, 3, 4, 5, 6, 7, 8, 9, 10] (by decide) rfl rfl
              refine tf rfl rfl (fun a hf => e_call hf rfl call30 rfl (pspec_l30Rd__num_ok _ hz10_1 (⟨r_.b, r0_6.2.p⟩ : l30Rd) bp0 v1p (GT.mono hle h1p) ([256, -1, 1] : List Int) (sV b10_1 0 3 3) (fz_ow (hsub 0 _ rfl)) hm1  _ hx10_1)) ?_
              rintro v10_1 w ⟨rfl, hB⟩
              replace hm := hk10_1 _ _ hB; clear hB
              refine tAk hm [2, 3, 4, 5, 6, 7, 8, 9, 10] rfl fun hS => gg fun x10_1 h10_2 hx10_3 => ?_
              obtain ⟨b10_2, o10_1, c10_1, he⟩ := idx_form' (hm.ow_rep 4 rfl) hx10_3
              simp only [Value.slice.injEq, Option.some.injEq] at he; obtain ⟨rfl, _, rfl⟩ := he
              obtain ⟨v10_2, hc10_1, h10_3⟩ := rk_Ins_ (hm.ow_rep 4 rfl) hx10_3
              refine tP rfl (fun w => yI st_63 h10_2 (idx_lt hx10_3) rfl) (tP rfl (fun w => yF fo_68_3 rfl) (tO (tf0 rfl rfl (fun a hf => e_setElemR (x1 := ((⟨x10_1.op, x10_1.to, x10_1.args, r10_1.1⟩ : Ins_) : Ins_)) (j := 3) (vs := [(nV r10_1.1)]) 4 hf hm rfl hx10_3 hc10_1 rfl (fun F h ho => (fun _ => own_snd_map (α := Int) (β := Int × (List Int) × Int) (cs := [(nV x10_1.op)]) (ds := [(nV x10_1.to), v10_2, (nV x10_1.n_)]) (ds' := [(nV x10_1.to), v10_2, (nV r10_1.1)]) rfl (fun _ => own_snd_map (α := Int) (β := (List Int) × Int) (cs := [(nV x10_1.to)]) (ds := [v10_2, (nV x10_1.n_)]) (ds' := [v10_2, (nV r10_1.1)]) rfl (fun _ => own_snd_map (α := List Int) (β := Int) (cs := [v10_2]) (ds := [(nV x10_1.n_)]) (ds' := [(nV r10_1.1)]) rfl (fun _ _ => Flat.own_iff.2 rfl)))) F ho) rfl sizeOf3 rfl rfl rfl (one_cons rfl one_nil) rfl) ?_)))
              rintro _ w hm
              have hx10_4 := List.getElem?_set_self (a := ((⟨x10_1.op, x10_1.to, x10_1.args, r10_1.1⟩ : Ins_) : Ins_)) (idx_lt hx10_3)
              refine tAn rfl (tE ?_)
              replace hm := (mk_Block_ x0_2.jump x0_2.on hm 5 4 3 rfl).pk (L' := [blk bp0 [v1p, (nV r10_1.2.p)] 72, ow [(sV b10_1 0 3 3)] ([256, -1, 1] : List Int), ow [(sV b0_5 0 5 5)] ([-1, x0_1.regs, (x0_1.blocks.length : Int), 0, 1] : List Int), ow [v0_12, (sV b10_2 o10_1 x0_2.ins.length c9_1), (nV x0_2.jump), (nV x0_2.on), v0_14] ((⟨x0_2.phis, (x0_2.ins.set (0 : Int).toNat (⟨x10_1.op, x10_1.to, x10_1.args, r10_1.1⟩ : Ins_)), x0_2.jump, x0_2.on, x0_2.next_⟩ : Block_) : Block_), holeE b0_4 o0_2 x0_1.blocks.length c0_3 (x0_1.blocks : List Block_) (r0_4.1).toNat [v0_12, (sV b10_2 o10_1 x0_2.ins.length c9_1), (nV x0_2.jump), (nV x0_2.on), v0_14], blk b0_2 [(sV b0_3 o0_1 r0_2.codes.length c0_1)] 25, holeE b0_3 o0_1 r0_2.codes.length c0_1 (r0_2.codes : List Code_) (r0_3.1).toNat [(nV x0_1.params), (nV x0_1.regs), (sV b0_4 o0_2 x0_1.blocks.length c0_3)], ow [v0_2] r0_1.1.codes, blk b0_1 [(.slice none 0 0)] 25]) [0, 1, 2, 5, 6, 7, 8, 9, 10] rfl rfl
              replace hm := (hm.shutE (y := ((⟨x0_2.phis, (x0_2.ins.set (0 : Int).toNat (⟨x10_1.op, x10_1.to, x10_1.args, r10_1.1⟩ : Ins_)), x0_2.jump, x0_2.on, x0_2.next_⟩ : Block_) : Block_)) 4 3 (by decide) rfl rfl).pk (L' := [blk bp0 [v1p, (nV r10_1.2.p)] 72, ow [(sV b10_1 0 3 3)] ([256, -1, 1] : List Int), ow [(sV b0_5 0 5 5)] ([-1, x0_1.regs, (x0_1.blocks.length : Int), 0, 1] : List Int), ow [(sV b0_4 o0_2 x0_1.blocks.length c0_3)] (x0_1.blocks.set (r0_4.1).toNat (⟨x0_2.phis, (x0_2.ins.set (0 : Int).toNat (⟨x10_1.op, x10_1.to, x10_1.args, r10_1.1⟩ : Ins_)), x0_2.jump, x0_2.on, x0_2.next_⟩ : Block_)), blk b0_2 [(sV b0_3 o0_1 r0_2.codes.length c0_1)] 25, holeE b0_3 o0_1 r0_2.codes.length c0_1 (r0_2.codes : List Code_) (r0_3.1).toNat [(nV x0_1.params), (nV x0_1.regs), (sV b0_4 o0_2 x0_1.blocks.length c0_3)], ow [v0_2] r0_1.1.codes, blk b0_1 [(.slice none 0 0)] 25]) [0, 1, 2, 4, 5, 6, 7, 8] rfl rfl
              have hx10_5 := List.getElem?_set_self (a := ((⟨x0_2.phis, (x0_2.ins.set (0 : Int).toNat (⟨x10_1.op, x10_1.to, x10_1.args, r10_1.1⟩ : Ins_)), x0_2.jump, x0_2.on, x0_2.next_⟩ : Block_) : Block_)) (idx_lt hx0_8)
              replace hm : Mem w0 hz _ [blk bp0 [v1p, (nV r10_1.2.p)] 72, ow [(sV b10_1 0 3 3)] ([256, -1, 1] : List Int), ow [(sV b0_5 0 5 5)] ([-1, x0_1.regs, (x0_1.blocks.length : Int), 0, 1] : List Int), ow [(nV x0_1.params), (nV x0_1.regs), (sV b0_4 o0_2 x0_1.blocks.length c0_3)] ((⟨x0_1.params, x0_1.regs, (x0_1.blocks.set (r0_4.1).toNat (⟨x0_2.phis, (x0_2.ins.set (0 : Int).toNat (⟨x10_1.op, x10_1.to, x10_1.args, r10_1.1⟩ : Ins_)), x0_2.jump, x0_2.on, x0_2.next_⟩ : Block_))⟩ : Code_) : Code_), blk b0_2 [(sV b0_3 o0_1 r0_2.codes.length c0_1)] 25, holeE b0_3 o0_1 r0_2.codes.length c0_1 (r0_2.codes : List Code_) (r0_3.1).toNat [(nV x0_1.params), (nV x0_1.regs), (sV b0_4 o0_2 x0_1.blocks.length c0_3)], ow [v0_2] r0_1.1.codes, blk b0_1 [(.slice none 0 0)] 25] := mk_Code_ x0_1.params x0_1.regs hm 3 rfl
              replace hm := (hm.shutE (y := ((⟨x0_1.params, x0_1.regs, (x0_1.blocks.set (r0_4.1).toNat (⟨x0_2.phis, (x0_2.ins.set (0 : Int).toNat (⟨x10_1.op, x10_1.to, x10_1.args, r10_1.1⟩ : Ins_)), x0_2.jump, x0_2.on, x0_2.next_⟩ : Block_))⟩ : Code_) : Code_)) 5 3 (by decide) rfl rfl).pk (L' := [blk bp0 [v1p, (nV r10_1.2.p)] 72, ow [(sV b10_1 0 3 3)] ([256, -1, 1] : List Int), ow [(sV b0_5 0 5 5)] ([-1, x0_1.regs, (x0_1.blocks.length : Int), 0, 1] : List Int), blk b0_2 [(sV b0_3 o0_1 r0_2.codes.length c0_1)] 25, ow [(sV b0_3 o0_1 r0_2.codes.length c0_1)] (r0_2.codes.set (r0_3.1).toNat (⟨x0_1.params, x0_1.regs, (x0_1.blocks.set (r0_4.1).toNat (⟨x0_2.phis, (x0_2.ins.set (0 : Int).toNat (⟨x10_1.op, x10_1.to, x10_1.args, r10_1.1⟩ : Ins_)), x0_2.jump, x0_2.on, x0_2.next_⟩ : Block_))⟩ : Code_)), ow [v0_2] r0_1.1.codes, blk b0_1 [(.slice none 0 0)] 25]) [0, 1, 2, 4, 5, 6, 7] rfl rfl
              have hx10_6 := List.getElem?_set_self (a := ((⟨x0_1.params, x0_1.regs, (x0_1.blocks.set (r0_4.1).toNat (⟨x0_2.phis, (x0_2.ins.set (0 : Int).toNat (⟨x10_1.op, x10_1.to, x10_1.args, r10_1.1⟩ : Ins_)), x0_2.jump, x0_2.on, x0_2.next_⟩ : Block_))⟩ : Code_) : Code_)) (idx_lt hx0_5)
              exact gz hm [6, 3, 4, 0] rfl
             refine gcf rfl (gSk ?_)
             replace hm := (mk_Block_ x0_2.jump x0_2.on hm 4 3 2 rfl).pk (L' := [blk bp0 [v1p, (nV r0_6.2.p)] 72, ow [(sV b0_5 0 5 5)] ([-1, x0_1.regs, (x0_1.blocks.length : Int), 0, 1] : List Int), ow [v0_12, (.slice p9_1 x0_2.ins.length c9_1), (nV x0_2.jump), (nV x0_2.on), v0_14] (x0_2 : Block_), holeE b0_4 o0_2 x0_1.blocks.length c0_3 (x0_1.blocks : List Block_) (r0_4.1).toNat [v0_12, (.slice p9_1 x0_2.ins.length c9_1), (nV x0_2.jump), (nV x0_2.on), v0_14], blk b0_2 [(sV b0_3 o0_1 r0_2.codes.length c0_1)] 25, holeE b0_3 o0_1 r0_2.codes.length c0_1 (r0_2.codes : List Code_) (r0_3.1).toNat [(nV x0_1.params), (nV x0_1.regs), (sV b0_4 o0_2 x0_1.blocks.length c0_3)], ow [v0_2] r0_1.1.codes, blk b0_1 [(.slice none 0 0)] 25]) [0, 1, 4, 5, 6, 7, 8, 9] rfl rfl
             replace hm := (hm.shutE (y := (x0_2 : Block_)) 3 2 (by decide) rfl rfl).pk (L' := [blk bp0 [v1p, (nV r0_6.2.p)] 72, ow [(sV b0_5 0 5 5)] ([-1, x0_1.regs, (x0_1.blocks.length : Int), 0, 1] : List Int), ow [(sV b0_4 o0_2 x0_1.blocks.length c0_3)] (x0_1.blocks.set (r0_4.1).toNat x0_2), blk b0_2 [(sV b0_3 o0_1 r0_2.codes.length c0_1)] 25, holeE b0_3 o0_1 r0_2.codes.length c0_1 (r0_2.codes : List Code_) (r0_3.1).toNat [(nV x0_1.params), (nV x0_1.regs), (sV b0_4 o0_2 x0_1.blocks.length c0_3)], ow [v0_2] r0_1.1.codes, blk b0_1 [(.slice none 0 0)] 25]) [0, 1, 3, 4, 5, 6, 7] rfl rfl
             rw [set_same hx0_8] at hm
             replace hm : Mem w0 hz _ [blk bp0 [v1p, (nV r0_6.2.p)] 72, ow [(sV b0_5 0 5 5)] ([-1, x0_1.regs, (x0_1.blocks.length : Int), 0, 1] : List Int), ow [(nV x0_1.params), (nV x0_1.regs), (sV b0_4 o0_2 x0_1.blocks.length c0_3)] (x0_1 : Code_), blk b0_2 [(sV b0_3 o0_1 r0_2.codes.length c0_1)] 25, holeE b0_3 o0_1 r0_2.codes.length c0_1 (r0_2.codes : List Code_) (r0_3.1).toNat [(nV x0_1.params), (nV x0_1.regs), (sV b0_4 o0_2 x0_1.blocks.length c0_3)], ow [v0_2] r0_1.1.codes, blk b0_1 [(.slice none 0 0)] 25] := mk_Code_ x0_1.params x0_1.regs hm 2 rfl
             replace hm := (hm.shutE (y := (x0_1 : Code_)) 4 2 (by decide) rfl rfl).pk (L' := [blk bp0 [v1p, (nV r0_6.2.p)] 72, ow [(sV b0_5 0 5 5)] ([-1, x0_1.regs, (x0_1.blocks.length : Int), 0, 1] : List Int), blk b0_2 [(sV b0_3 o0_1 r0_2.codes.length c0_1)] 25, ow [(sV b0_3 o0_1 r0_2.codes.length c0_1)] (r0_2.codes.set (r0_3.1).toNat x0_1), ow [v0_2] r0_1.1.codes, blk b0_1 [(.slice none 0 0)] 25]) [0, 1, 3, 4, 5, 6] rfl rfl
             rw [set_same hx0_5] at hm
             exact gz hm [5, 2, 3, 0] rfl
            repeat clear hm
            intro s9_1 w hm
            exact gz hm [0, 1, 2, 3] rfl
           refine gcf rfl (gSk ?_)
           replace hm := (mk_Block_ x0_2.jump x0_2.on hm 4 3 2 rfl).pk (L' := [blk bp0 [v1p, (nV r0_6.2.p)] 72, ow [(sV b0_5 0 5 5)] ([-1, x0_1.regs, (x0_1.blocks.length : Int), 0, 1] : List Int), ow [v0_12, v0_13, (nV x0_2.jump), (nV x0_2.on), v0_14] (x0_2 : Block_), holeE b0_4 o0_2 x0_1.blocks.length c0_3 (x0_1.blocks : List Block_) (r0_4.1).toNat [v0_12, v0_13, (nV x0_2.jump), (nV x0_2.on), v0_14], blk b0_2 [(sV b0_3 o0_1 r0_2.codes.length c0_1)] 25, holeE b0_3 o0_1 r0_2.codes.length c0_1 (r0_2.codes : List Code_) (r0_3.1).toNat [(nV x0_1.params), (nV x0_1.regs), (sV b0_4 o0_2 x0_1.blocks.length c0_3)], ow [v0_2] r0_1.1.codes, blk b0_1 [(.slice none 0 0)] 25]) [0, 1, 4, 5, 6, 7, 8, 9] rfl rfl
           replace hm := (hm.shutE (y := (x0_2 : Block_)) 3 2 (by decide) rfl rfl).pk (L' := [blk bp0 [v1p, (nV r0_6.2.p)] 72, ow [(sV b0_5 0 5 5)] ([-1, x0_1.regs, (x0_1.blocks.length : Int), 0, 1] : List Int), ow [(sV b0_4 o0_2 x0_1.blocks.length c0_3)] (x0_1.blocks.set (r0_4.1).toNat x0_2), blk b0_2 [(sV b0_3 o0_1 r0_2.codes.length c0_1)] 25, holeE b0_3 o0_1 r0_2.codes.length c0_1 (r0_2.codes : List Code_) (r0_3.1).toNat [(nV x0_1.params), (nV x0_1.regs), (sV b0_4 o0_2 x0_1.blocks.length c0_3)], ow [v0_2] r0_1.1.codes, blk b0_1 [(.slice none 0 0)] 25]) [0, 1, 3, 4, 5, 6, 7] rfl rfl
           rw [set_same hx0_8] at hm
           replace hm : Mem w0 hz _ [blk bp0 [v1p, (nV r0_6.2.p)] 72, ow [(sV b0_5 0 5 5)] ([-1, x0_1.regs, (x0_1.blocks.length : Int), 0, 1] : List Int), ow [(nV x0_1.params), (nV x0_1.regs), (sV b0_4 o0_2 x0_1.blocks.length c0_3)] (x0_1 : Code_), blk b0_2 [(sV b0_3 o0_1 r0_2.codes.length c0_1)] 25, holeE b0_3 o0_1 r0_2.codes.length c0_1 (r0_2.codes : List Code_) (r0_3.1).toNat [(nV x0_1.params), (nV x0_1.regs), (sV b0_4 o0_2 x0_1.blocks.length c0_3)], ow [v0_2] r0_1.1.codes, blk b0_1 [(.slice none 0 0)] 25] := mk_Code_ x0_1.params x0_1.regs hm 2 rfl
           replace hm := (hm.shutE (y := (x0_1 : Code_)) 4 2 (by decide) rfl rfl).pk (L' := [blk bp0 [v1p, (nV r0_6.2.p)] 72, ow [(sV b0_5 0 5 5)] ([-1, x0_1.regs, (x0_1.blocks.length : Int), 0, 1] : List Int), blk b0_2 [(sV b0_3 o0_1 r0_2.codes.length c0_1)] 25, ow [(sV b0_3 o0_1 r0_2.codes.length c0_1)] (r0_2.codes.set (r0_3.1).toNat x0_1), ow [v0_2] r0_1.1.codes, blk b0_1 [(.slice none 0 0)] 25]) [0, 1, 3, 4, 5, 6] rfl rfl
           rw [set_same hx0_5] at hm
           exact gz hm [5, 2, 3, 0] rfl
          repeat clear hm
          intro s8_1 w hm
          exact gz hm [0, 1, 2, 3] rfl
         repeat clear hm
         intro s7_2 w hm
         exact gz hm [0, 1, 2, 3] rfl
        repeat clear hm
        intro s6_2 w hm
        exact gz hm [0, 1, 2, 3] rfl
       repeat clear hm
       intro s5_2 w hm
       exact gz hm [0, 1, 2, 3] rfl
      repeat clear hm
      intro s4_1 w hm
      exact gz hm [0, 1, 2, 3] rfl
     repeat clear hm
     intro s3_2 w hm
     exact gz hm [0, 1, 2, 3] rfl
    repeat clear hm
    intro s2_1 w hm
    exact gz hm [0, 1, 2, 3] rfl
   repeat clear hm
   intro s1_1 w hm
   exact gz hm [0, 1, 2, 3] rfl
  repeat clear hm
  intro s0_1 w hm
  exact gS (gR (gY (yn (hm.blk_at 1 rfl) isAgg25 sizeOf25 rfl) (gSN hm 0 sizeOf25 (one_cons rfl one_nil) rfl fun w hm => gE (gRt (grc 0 results12 hm rfl isAgg25 sizeOf25 ⟨(sV b0_3 o0_1 r0_2.codes.length c0_1), rfl, hm.pk [3, 2] rfl rfl⟩)))))

theorem spec_DrawNumbersFor_ok (w0 : World) (code : List UInt8) (v1 : Value) (h1 : GT.rep (hp w0) [v1] code) :
    ConM Tryd.prog 4 [v1] w0 (spec_DrawNumbersFor code) fun r v w' => ∃ (x1 : Value), v = (.agg #[x1]) ∧ Mem w0 (hp w0) w' [ow [x1] r.codes] := by
  unfold spec_DrawNumbersFor
  refine gcon func4 rfl fun r => ?_
  have hm := Mem.start w0
  refine gS (gR (gAl hm zeroValue25 rfl fun b0_1 w hm => gE (gS (gR (gM rfl (gCg rfl call13 (spec_l30Open_ok _ _ hm.lez code v1 h1 ) ?_))))))
  rintro r0_1 hx0_1 v0_1 w ⟨b0_2, v0_2, hz0_1, rfl, hle0_1, h0_1, hB⟩
  replace hm := Mem.giveA hm hle0_1 hB; clear hB
  obtain ⟨hz0_2, hle, hm1, hsub, hk0_1⟩ := hm.take2 (L1 := [blk b0_2 [v0_2, (nV r0_1.p)] 72]) (L2 := [blk b0_1 [(.slice none 0 0)] 25]) [0] [1] (by decide) rfl rfl
  refine gCg rfl call12 (spec_l7Bent_ok _ hz0_2 r0_1 b0_2 v0_2 (GT.mono hle h0_1) hm1 ) ?_
  rintro r0_2 hx0_2 v0_3 w ⟨v0_4, rfl, hB⟩
  replace hm := hk0_1 _ _ hB; clear hB
  refine gSN hm 2 sizeOf25 (one_cons (rep_one (hm.ow_rep 1 rfl)) one_nil) rfl fun w hm => gE (gRt ?_)
  replace hm := hm.thaw hle0_1
  exact grc 2 results4 hm rfl isAgg25 sizeOf25 ⟨v0_4, rfl, hm.pk [1] rfl rfl⟩

theorem impl_within_ok (w0 : World) (n_ : Int) (low : Int) (high : Int) :
    ConM Tryd.prog 24 [(nV n_), (nV low), (nV high)] w0 (impl_within n_ low high) fun r v w' => v = (.bool (r)) ∧ Below w0.heap.size w0 w' := by
  unfold impl_within
  refine gcon func24 rfl fun r => ?_
  have hm := Mem.start w0
  refine gS (gR (gA rfl (gE (gS (gJ hm (fun s0_1 => [(6, (.bool (s0_1)))]) (fun s0_1 => []) (fun s0_1 => ?_) ?_)))))
  ·
   refine gR (gM rfl (gM rfl (gB rfl (gM rfl (gsd 10 rfl (fun h1_1 => ?_) fun h1_1 => ?_)))))
   ·
    exact gM rfl (gM rfl (gB rfl (gKt rfl (gA rfl (gE (gz hm [] rfl))))))
   exact gO rfl (gO rfl (gO rfl (gKf rfl (gA rfl (gE (gz hm [] rfl))))))
  repeat clear hm
  intro s0_1 w hm
  exact gRt (gr1 results24 rfl ⟨rfl, hm.below⟩)

theorem impl_codeOk_1_ok (w0 : World) (r_ : Int) (c0_ : Code_) (v1 : Value) (h1 : GT.rep (hp w0) [v1] c0_.blocks) (bf0 : Nat) (hbf0 : w0.heap[bf0]? = some (.cells ([(nV c0_.params), (nV c0_.regs), v1] : List Value).toArray 45 (0, 0))) :
    ConM Tryd.prog 39 [(nV r_), (pV bf0)] w0 (impl_codeOk_1 r_ c0_) fun r v w' => v = (.bool (r)) ∧ Below w0.heap.size w0 w' := by
  unfold impl_codeOk_1
  refine gcon func39 rfl fun r => ?_
  have hm := Mem.start w0
  exact gS (gR (gA rfl (gE (gS (gR (gM rfl (gF fo_45_1 rfl (gY (yl isAgg3 (hm.old_cell hbf0 rfl) rfl) (gB rfl (gC hm rfl call24 (impl_within_ok _ r_ 0 (w64 (c0_.regs - 1))) fun r0_1 hx0_1 w hm => gA rfl (gE (gRt (gr1 results39 rfl ⟨rfl, hm.below⟩)))))))))))))

theorem impl_nextCount_ok (w0 : World) (jump : Int) :
    ConM Tryd.prog 40 [(nV jump)] w0 (impl_nextCount jump) fun r v w' => v = (nV r) ∧ Below w0.heap.size w0 w' := by
  unfold impl_nextCount
  refine gcon func40 rfl fun r => ?_
  have hm := Mem.start w0
  refine gS (gR (gA rfl (gE (gS (gS (gR (gM rfl (gE (gBk (gS (gR (gB rfl (gA rfl (gE (gsd 4 rfl (fun h0_1 => ?_) fun h0_1 => ?_)))))))))))))))
  ·
   exact gct rfl (gS (gR (gA rfl (gE (gRt (gr1 results40 rfl ⟨rfl, hm.below⟩))))))
  refine gcf rfl (gS (gR (gB rfl (gA rfl (gE (gsd 6 rfl (fun h0_2 => ?_) fun h0_2 => ?_))))))
  ·
   exact gct rfl (gS (gR (gA rfl (gE (gRt (gr1 results40 rfl ⟨rfl, hm.below⟩))))))
  refine gcf rfl (gS (gR (gB rfl (gA rfl (gE (gsd 8 rfl (fun h0_3 => ?_) fun h0_3 => ?_))))))
  ·
   exact gct rfl (gS (gR (gA rfl (gE (gRt (gr1 results40 rfl ⟨rfl, hm.below⟩))))))
  exact gcf rfl (gSk (gS (gR (gA rfl (gE (gRt (gr1 results40 rfl ⟨rfl, hm.below⟩)))))))

theorem impl_usesOn_ok (w0 : World) (jump : Int) :
    ConM Tryd.prog 41 [(nV jump)] w0 (impl_usesOn jump) fun r v w' => v = (.bool (r)) ∧ Below w0.heap.size w0 w' := by
  unfold impl_usesOn
  refine gcon func41 rfl fun r => ?_
  have hm := Mem.start w0
  refine gS (gR (gA rfl (gE (gS (gJ hm (fun s0_1 => [(2, (.bool (s0_1)))]) (fun s0_1 => []) (fun s0_1 => ?_) ?_)))))
  ·
   refine gR (gM rfl (gB rfl (gM rfl (gsd 5 rfl (fun h1_1 => ?_) fun h1_1 => ?_))))
   ·
    exact gO rfl (gO rfl (gKt rfl (gA rfl (gE (gz hm [] rfl)))))
   exact gM rfl (gB rfl (gKf rfl (gA rfl (gE (gz hm [] rfl)))))
  repeat clear hm
  intro s0_1 w hm
  exact gRt (gr1 results41 rfl ⟨rfl, hm.below⟩)

theorem impl_codeOk_2_ok (w0 : World) (n_ : Int) (c0_ : Code_) (v1 : Value) (h1 : GT.rep (hp w0) [v1] c0_.blocks) (bf0 : Nat) (hbf0 : w0.heap[bf0]? = some (.cells ([(nV c0_.params), (nV c0_.regs), v1] : List Value).toArray 45 (0, 0))) :
    ConM Tryd.prog 43 [(nV n_), (pV bf0)] w0 (impl_codeOk_2 n_ c0_) fun r v w' => v = (.bool (r)) ∧ Below w0.heap.size w0 w' := by
  unfold impl_codeOk_2
  refine gcon func43 rfl fun r => ?_
  have hm := Mem.start w0
  refine gS (gR (gA rfl (gE (gS (gR (gM rfl (gF fo_45_2 rfl (gY (yl isAgg43 (hm.old_cell hbf0 rfl) rfl) ?_))))))))
  obtain ⟨p0_1, c0_1, rfl, hl0_1⟩ := ro_slice h1
  exact gY (yV st_43 rfl) (gY (yS (by omega) (by omega) rfl) (gC hm rfl call24 (impl_within_ok _ n_ 1 (((c0_.blocks.length : Int)) - 1)) fun r0_1 hx0_1 w hm => gN rfl (gA rfl (gE (gRt (gr1 results43 rfl ⟨rfl, hm.below⟩))))))

theorem slices_IndexFunc_S_int_int_ok (w0 : World) (s_ : List Int) (v1 : Value) (h1 : GT.rep (hp w0) [v1] s_) (f : Int → Option Bool) (fv1 : Value) (hfn1 : ∀ (w : World) (y0 : Int) (r : Bool), Below w0.heap.size w0 w → f y0 = some r → FnOk Tryd.prog fv1 [(nV y0)] w (fun v w' => v = (.bool (r)) ∧ Below w.heap.size w w')) :
    ConM Tryd.prog 65 [v1, fv1] w0 (slices_IndexFunc_S_int_int s_ f) fun r v w' => v = (nV r) ∧ Below w0.heap.size w0 w' := by
  unfold slices_IndexFunc_S_int_int
  refine gcon func65 rfl fun r => ?_
  have hm := Mem.start w0
  refine gS (gR (gA rfl (gE (gS (gS (gR (gM rfl ?_)))))))
  obtain ⟨p0_1, c0_1, rfl, hl0_1⟩ := ro_slice h1
  refine gY (yV st_29 rfl) (gM rfl (gE (gBk (gNf hm (fun i1_1 xs1_1 => [(0, (.slice p0_1 s_.length c0_1)), (1, fv1), (7, (nV ((s_.length : Int)))), (8, (nV i1_1))]) (fun i1_1 xs1_1 => []) [] rfl ?_ ?_))))
  ·
   repeat clear hm
   intro r0_1 hq0_1 i1_1 xs1_1 w hm hi0_1 hi0_2 q0_1 ho0_1
   refine gS (gR (gB rfl (gE (gS (go _ 9 rfl (decide_eq_true (by omega)) (gct rfl (gSk (gS (gBk (gS (gR (gM rfl (gA rfl (gE (gS (gR (gM rfl (gM rfl (gM rfl (gg fun x1_1 h1_1 hx1_2 => ?_))))))))))))))))))))
   obtain ⟨b1_1, o1_1, c1_1, he⟩ := idx_form h1 hx1_2
   simp only [Value.slice.injEq, Option.some.injEq] at he; obtain ⟨rfl, _, rfl⟩ := he
   refine gI st_29 h1_1 (idx_lt hx1_2) rfl (gY (yl isAgg3 ((flat_cells (cs := [(nV x1_1)]) (hm.now h1) hx1_2 rfl).cell (j := 0) rfl) rfl) (gb fun r1_1 hx1_3 => gf rfl (fun a hf => e_callv hf rfl rfl rfl (hfn1 _ x1_1 _ hm.below hx1_3)) ?_))
   rintro v1_1 w ⟨rfl, hB⟩
   replace hm := hm.below' hB; clear hB
   refine gE (gs 16 rfl (fun h1_2 => ?_) fun h1_2 => ?_)
   ·
    exact gct rfl (gS (gR (gM rfl (gA rfl (gE (gRt (gLr ho0_1 hq0_1 (gr1 results65 rfl ⟨rfl, hm.below⟩))))))))
   exact gcf rfl (gSk (gR (gP (by omega) (by omega) rfl (gM rfl (gE (gze hm [] rfl))))))
  repeat clear hm
  intro i0_1 xs0_1 w hm hi0_3 hi0_4
  exact gS (gR (gB rfl (gE (gS (go _ 9 rfl (decide_eq_false (by omega)) (gcf rfl (gXt (gHh (gS (gR (gA rfl (gE (gRt (gr1 results65 rfl ⟨rfl, hm.below⟩))))))))))))))

theorem slices_ContainsFunc_S_int_int_ok (w0 : World) (s_ : List Int) (v1 : Value) (h1 : GT.rep (hp w0) [v1] s_) (f : Int → Option Bool) (fv1 : Value) (hfn1 : ∀ (w : World) (y0 : Int) (r : Bool), Below w0.heap.size w0 w → f y0 = some r → FnOk Tryd.prog fv1 [(nV y0)] w (fun v w' => v = (.bool (r)) ∧ Below w.heap.size w w')) :
    ConM Tryd.prog 42 [v1, fv1] w0 (slices_ContainsFunc_S_int_int s_ f) fun r v w' => v = (.bool (r)) ∧ Below w0.heap.size w0 w' := by
  unfold slices_ContainsFunc_S_int_int
  refine gcon func42 rfl fun r => ?_
  have hm := Mem.start w0
  exact gS (gR (gA rfl (gE (gS (gR (gM rfl (gM rfl (gC hm rfl call65 (slices_IndexFunc_S_int_int_ok _ s_ v1 (hm.now h1) f fv1 (fun w y0 r hB hq => hfn1 w y0 r (hm.below.trans (hB.mono hm.below.size)) hq)) fun r0_1 hx0_1 w hm => gB rfl (gA rfl (gE (gRt (gr1 results42 rfl ⟨rfl, hm.below⟩))))))))))))

theorem impl_insOk_1_ok (w0 : World) (r_ : Int) (c0_ : Code_) (v1 : Value) (h1 : GT.rep (hp w0) [v1] c0_.blocks) (bf0 : Nat) (hbf0 : w0.heap[bf0]? = some (.cells ([(nV c0_.params), (nV c0_.regs), v1] : List Value).toArray 45 (0, 0))) :
    ConM Tryd.prog 67 [(nV r_), (pV bf0)] w0 (impl_insOk_1 r_ c0_) fun r v w' => v = (.bool (r)) ∧ Below w0.heap.size w0 w' := by
  unfold impl_insOk_1
  refine gcon func67 rfl fun r => ?_
  have hm := Mem.start w0
  exact gS (gR (gA rfl (gE (gS (gR (gM rfl (gF fo_45_1 rfl (gY (yl isAgg3 (hm.old_cell hbf0 rfl) rfl) (gB rfl (gC hm rfl call24 (impl_within_ok _ r_ 0 (w64 (c0_.regs - 1))) fun r0_1 hx0_1 w hm => gA rfl (gE (gRt (gr1 results67 rfl ⟨rfl, hm.below⟩)))))))))))))

theorem impl_isIns_ok (w0 : World) (op : Int) :
    ConM Tryd.prog 68 [(nV op)] w0 (impl_isIns op) fun r v w' => v = (.bool (r)) ∧ Below w0.heap.size w0 w' := by
  unfold impl_isIns
  refine gcon func68 rfl fun r => ?_
  have hm := Mem.start w0
  exact gS (gR (gA rfl (gE (gS (gR (gM rfl (gC hm rfl call24 (impl_within_ok _ op 1 14) fun r0_1 hx0_1 w hm => gA rfl (gE (gRt (gr1 results68 rfl ⟨rfl, hm.below⟩))))))))))

theorem impl_insOk_2_ok (w0 : World) (r_ : Int) (c0_0_ : Code_) (v1 : Value) (h1 : GT.rep (hp w0) [v1] c0_0_.blocks) (bf0_0 : Nat) (hbf0_0 : w0.heap[bf0_0]? = some (.cells ([(nV c0_0_.params), (nV c0_0_.regs), v1] : List Value).toArray 45 (0, 0))) (bf0 : Nat) (hbf0 : w0.heap[bf0]? = some (.cells ([(.func (.func 67) #[] #[(pV bf0_0)])] : List Value).toArray 85 (0, 0))) :
    ConM Tryd.prog 69 [(nV r_), (pV bf0)] w0 (impl_insOk_2 r_ c0_0_) fun r v w' => v = (.bool (r)) ∧ Below w0.heap.size w0 w' := by
  unfold impl_insOk_2
  refine gcon func69 rfl fun r => ?_
  have hm := Mem.start w0
  refine gS (gR (gA rfl (gE (gS (gR (gY (yl isAgg85 (hm.old_cell hbf0 rfl) rfl) (gM rfl (gb fun r0_1 hx0_1 => gf rfl (fun a hf => e_callv hf rfl rfl rfl ⟨67, [(pV bf0_0)], rfl, call67, impl_insOk_1_ok _ r_ c0_0_ v1 (rep_later (hm.now h1) (Below.refl _ _)) bf0_0 (hm.old_later hbf0_0 (Below.refl _ _)) _ hx0_1⟩) ?_))))))))
  rintro v0_1 w ⟨rfl, hB⟩
  replace hm := hm.below' hB; clear hB
  exact gN rfl (gA rfl (gE (gRt (gr1 results69 rfl ⟨rfl, hm.below⟩))))

theorem impl_sets_ok (w0 : World) (op : Int) :
    ConM Tryd.prog 70 [(nV op)] w0 (impl_sets op) fun r v w' => v = (.bool (r)) ∧ Below w0.heap.size w0 w' := by
  unfold impl_sets
  refine gcon func70 rfl fun r => ?_
  have hm := Mem.start w0
  refine gS (gR (gA rfl (gE (gS (gJ hm (fun s0_1 => [(2, (.bool (s0_1)))]) (fun s0_1 => []) (fun s0_1 => ?_) ?_)))))
  ·
   refine gR (gM rfl (gC hm rfl call68 (impl_isIns_ok _ op) fun r1_1 hx1_1 w hm => gM rfl (gs 5 rfl (fun h1_1 => ?_) fun h1_1 => ?_)))
   ·
    refine gM rfl (gB rfl (gKt rfl (gM rfl (gsd 9 rfl (fun h1_2 => ?_) fun h1_2 => ?_))))
    ·
     exact gM rfl (gB rfl (gKt rfl (gA rfl (gE (gz hm [] rfl)))))
    exact gO rfl (gO rfl (gKf rfl (gA rfl (gE (gz hm [] rfl)))))
   exact gO rfl (gO rfl (gKf rfl (gM rfl (gO rfl (gO rfl (gKf rfl (gA rfl (gE (gz hm [] rfl)))))))))
  repeat clear hm
  intro s0_1 w hm
  exact gRt (gr1 results70 rfl ⟨rfl, hm.below⟩)

theorem impl_isByte_ok (w0 : World) (n_ : Int) :
    ConM Tryd.prog 55 [(nV n_)] w0 (impl_isByte n_) fun r v w' => v = (.bool (r)) ∧ Below w0.heap.size w0 w' := by
  unfold impl_isByte
  refine gcon func55 rfl fun r => ?_
  have hm := Mem.start w0
  exact gS (gR (gA rfl (gE (gS (gR (gM rfl (gC hm rfl call24 (impl_within_ok _ n_ 0 255) fun r0_1 hx0_1 w hm => gA rfl (gE (gRt (gr1 results55 rfl ⟨rfl, hm.below⟩))))))))))

theorem impl_insArgs_ok (w0 : World) (op : Int) :
    ConM Tryd.prog 71 [(nV op)] w0 (impl_insArgs op) fun r v w' => v = (nV r) ∧ Below w0.heap.size w0 w' := by
  unfold impl_insArgs
  refine gcon func71 rfl fun r => ?_
  have hm := Mem.start w0
  refine gS (gR (gA rfl (gE (gS (gS (gR (gM rfl (gE (gBk (gS (gR (gB rfl (gA rfl (gE (gsd 4 rfl (fun h0_1 => ?_) fun h0_1 => ?_)))))))))))))))
  ·
   exact gct rfl (gS (gR (gA rfl (gE (gRt (gr1 results71 rfl ⟨rfl, hm.below⟩))))))
  refine gcf rfl (gS (gS (gR (gB rfl (gA rfl (gE (gJ hm (fun s0_1 => [(6, (.bool (s0_1)))]) (fun s0_1 => []) (fun s0_1 => ?_) ?_)))))))
  ·
   refine gsd 6 rfl (fun h1_1 => ?_) fun h1_1 => ?_
   ·
    exact gct rfl (gSk (gz hm [] rfl))
   refine gcf rfl (gS (gR (gB rfl (gA rfl (gE (gJ hm (fun s1_1 => [(6, (.bool (s1_1)))]) (fun s1_1 => []) (fun s1_1 => ?_) ?_))))))
   ·
    refine gsd 6 rfl (fun h2_1 => ?_) fun h2_1 => ?_
    ·
     exact gct rfl (gSk (gz hm [] rfl))
    refine gcf rfl (gS (gR (gB rfl (gA rfl (gE (gJ hm (fun s2_1 => [(6, (.bool (s2_1)))]) (fun s2_1 => []) (fun s2_1 => ?_) ?_))))))
    ·
     refine gsd 6 rfl (fun h3_1 => ?_) fun h3_1 => ?_
     ·
      exact gct rfl (gSk (gz hm [] rfl))
     exact gcf rfl (gR (gB rfl (gA rfl (gE (gz hm [] rfl)))))
    repeat clear hm
    intro s2_1 w hm
    exact gz hm [] rfl
   repeat clear hm
   intro s1_1 w hm
   exact gz hm [] rfl
  repeat clear hm
  intro s0_1 w hm
  refine gs 6 rfl (fun h0_2 => ?_) fun h0_2 => ?_
  ·
   exact gct rfl (gS (gR (gA rfl (gE (gRt (gr1 results71 rfl ⟨rfl, hm.below⟩))))))
  exact gcf rfl (gSk (gS (gR (gA rfl (gE (gRt (gr1 results71 rfl ⟨rfl, hm.below⟩)))))))

theorem impl_insOk_ok (w0 : World) (u : Unit_) (v1 : Value) (h1 : GT.rep (hp w0) [v1] u.codes) (k_ : Int) (x_ : Ins_) (v2 : Value) (h2 : GT.rep (hp w0) [v2] x_.args) :
    ConM Tryd.prog 46 [(.agg #[v1]), (nV k_), (.agg #[(nV x_.op), (nV x_.to), v2, (nV x_.n_)])] w0 (impl_insOk u k_ x_) fun r v w' => v = (.bool (r)) ∧ Below w0.heap.size w0 w' := by
  unfold impl_insOk
  refine gcon func46 rfl fun r => ?_
  have hm := Mem.start w0
  refine gS (gR (gBx hm rfl fun b0_1 w hm => gBx hm rfl fun b0_2 w hm => gA rfl (gE (gS (gR (gF fo_25_0 rfl (gL hm 1 isAgg23 rfl (gM rfl (gg fun x0_1 h0_1 hx0_2 => ?_)))))))))
  obtain ⟨b0_3, o0_1, c0_1, he⟩ := idx_form' h1 hx0_2
  subst he
  obtain ⟨v0_1, hc0_1, h0_2⟩ := rk_Code_ h1 hx0_2
  refine gI st_23 h0_1 (idx_lt hx0_2) rfl (gY (yn (hc0_1.mono hm.lez) isAgg45 sizeOf45 rfl) (gAl hm zeroValue45 rfl fun b0_4 w hm => gSN hm 0 sizeOf45 (one_cons rfl (one_cons rfl (one_cons (rep_one h0_2) one_nil))) rfl fun w hm => gE (gS (gR (gY (yU rfl) (gAl hm zeroValue85 rfl fun b0_5 w hm => gS1 hm 0 sizeOf85 rfl rfl fun w hm => gE (gS (gS (gJ hm (fun s0_1 => [(1, (nV k_)), (3, (pV b0_1)), (5, (pV b0_2)), (8, (pV b0_5)), (24, (.bool (s0_1)))]) (fun s0_1 => [blk b0_1 [(sV b0_3 o0_1 u.codes.length c0_1)] 25, blk b0_2 [(nV x_.op), (nV x_.to), v2, (nV x_.n_)] 68, blk b0_5 [(.func (.func 67) #[] #[(pV b0_4)])] 85, blk b0_4 [(nV x0_1.params), (nV x0_1.regs), v0_1] 45]) (fun s0_1 => ?_) ?_)))))))))
  ·
   refine gR (gF fo_68_0 rfl (gL hm 2 isAgg3 rfl (gC hm rfl call68 (impl_isIns_ok _ x_.op) fun r1_1 hx1_1 w hm => gN rfl (gM rfl (gsn 19 rfl (fun h1_1 => ?_) fun h1_1 => ?_)))))
   ·
    exact gO rfl (gO rfl (gO rfl (gO rfl (gKt rfl (gE (gz hm [3, 2, 0, 1] rfl))))))
   exact gF fo_68_2 rfl (gL hm 2 isAgg29 rfl (gY (yU rfl) (gC hm rfl call42 (slices_ContainsFunc_S_int_int_ok _ x_.args v2 (hm.now h2) (fun y0 => impl_insOk_2 y0 x0_1) (.func (.func 69) #[] #[(pV b0_5)]) (fun w y0 r hB hq => ⟨69, [(pV b0_5)], rfl, call69, impl_insOk_2_ok w y0 x0_1 v0_1 (rep_later (hm.now h0_2) hB) b0_4 (hm.blk_later 1 rfl hB) b0_5 (hm.blk_later 0 rfl hB) r hq⟩)) fun r1_2 hx1_2 w hm => gKf rfl (gE (gz hm [3, 2, 0, 1] rfl)))))
  repeat clear hm
  intro s0_1 w hm
  refine gs 24 rfl (fun h0_3 => ?_) fun h0_3 => ?_
  ·
   exact gct rfl (gS (gR (gA rfl (gE (gRt (gr1 results46 rfl ⟨rfl, hm.below⟩))))))
  refine gcf rfl (gSk (gS (gS (gJ hm (fun s0_2 => [(1, (nV k_)), (3, (pV b0_1)), (5, (pV b0_2)), (45, (.bool (s0_2)))]) (fun s0_2 => [blk b0_1 [(sV b0_3 o0_1 u.codes.length c0_1)] 25, blk b0_2 [(nV x_.op), (nV x_.to), v2, (nV x_.n_)] 68]) (fun s0_2 => ?_) ?_))))
  ·
   refine gR (gF fo_68_0 rfl (gL hm 1 isAgg3 rfl (gC hm rfl call70 (impl_sets_ok _ x_.op) fun r1_3 hx1_3 w hm => gM rfl (gs 28 rfl (fun h1_2 => ?_) fun h1_2 => ?_))))
   ·
    refine gL hm 2 isAgg85 rfl (gF fo_68_1 rfl (gL hm 1 isAgg3 rfl (gb fun r1_4 hx1_4 => gf rfl (fun a hf => e_callv hf rfl rfl rfl ⟨67, [(pV b0_4)], rfl, call67, impl_insOk_1_ok _ x_.to x0_1 v0_1 (rep_later (hm.now h0_2) (Below.refl _ _)) b0_4 (hm.blk_later 3 rfl (Below.refl _ _)) _ hx1_4⟩) ?_)))
    rintro v1_4 w ⟨rfl, hB⟩
    replace hm := hm.below' hB; clear hB
    refine gN rfl (gKt rfl (gM rfl (gsn 35 rfl (fun h1_3 => ?_) fun h1_3 => ?_)))
    ·
     exact gO rfl (gO rfl (gO rfl (gO rfl (gO rfl (gO rfl (gO rfl (gO rfl (gO rfl (gKt rfl (gE (gz hm [0, 1] rfl)))))))))))
    refine gF fo_68_0 rfl (gL hm 1 isAgg3 rfl (gC hm rfl call70 (impl_sets_ok _ x_.op) fun r1_5 hx1_5 w hm => gN rfl (gM rfl (gsn 40 rfl (fun h1_4 => ?_) fun h1_4 => ?_))))
    ·
     exact gF fo_68_1 rfl (gL hm 1 isAgg3 rfl (gB rfl (gKt rfl (gKf rfl (gE (gz hm [0, 1] rfl))))))
    exact gO rfl (gO rfl (gO rfl (gKf rfl (gKf rfl (gE (gz hm [0, 1] rfl))))))
   refine gO rfl (gO rfl (gO rfl (gO rfl (gO rfl (gKf rfl (gM rfl (gF fo_68_0 rfl (gL hm 1 isAgg3 rfl (gC hm rfl call70 (impl_sets_ok _ x_.op) fun r1_6 hx1_6 w hm => gN rfl (gM rfl (gsn 40 rfl (fun h1_5 => ?_) fun h1_5 => ?_)))))))))))
   ·
    exact gF fo_68_1 rfl (gL hm 1 isAgg3 rfl (gB rfl (gKt rfl (gKf rfl (gE (gz hm [0, 1] rfl))))))
   exact gO rfl (gO rfl (gO rfl (gKf rfl (gKf rfl (gE (gz hm [0, 1] rfl))))))
  repeat clear hm
  intro s0_2 w hm
  refine gs 45 rfl (fun h0_4 => ?_) fun h0_4 => ?_
  ·
   exact gct rfl (gS (gR (gA rfl (gE (gRt (gr1 results46 rfl ⟨rfl, hm.below⟩))))))
  refine gcf rfl (gSk (gS (gS (gR (gF fo_68_0 rfl (gL hm 1 isAgg3 rfl (gE (gBk (gS (gR (gB rfl (gA rfl (gE (gsd 48 rfl (fun h0_5 => ?_) fun h0_5 => ?_))))))))))))))
  ·
   refine gct rfl (gS (gJ hm (fun s0_3 => [(6, (.bool (s0_3)))]) (fun s0_3 => []) (fun s0_3 => ?_) ?_))
   ·
    refine gR (gF fo_68_2 rfl (gL hm 1 isAgg29 rfl ?_))
    obtain ⟨p1_1, c1_1, rfl, hl1_1⟩ := ro_slice h2
    refine gY (yV st_29 rfl) (gB rfl (gM rfl (gsd 54 rfl (fun h1_6 => ?_) fun h1_6 => ?_)))
    ·
     exact gF fo_68_3 rfl (gL hm 1 isAgg3 rfl (gC hm rfl call55 (impl_isByte_ok _ x_.n_) fun r1_7 hx1_7 w hm => gKt rfl (gA rfl (gE (gz hm [] rfl)))))
    exact gO rfl (gO rfl (gO rfl (gKf rfl (gA rfl (gE (gz hm [] rfl))))))
   repeat clear hm
   intro s0_3 w hm
   exact gRt (gr1 results46 rfl ⟨rfl, hm.below⟩)
  refine gcf rfl (gS (gR (gB rfl (gA rfl (gE (gsd 59 rfl (fun h0_6 => ?_) fun h0_6 => ?_))))))
  ·
   refine gct rfl (gS (gJ hm (fun s0_4 => [(6, (.bool (s0_4)))]) (fun s0_4 => []) (fun s0_4 => ?_) ?_))
   ·
    refine gW (.p 0 (.p 2 (.p 3 (.e 1 (.e 4 (.p 5 (.p 6 (.p 9 (.p 11 (.q 7 (.p 8 (.q 10 (.e 12 (.p 13 (.p 14 (.e 15 (.p 16 (.p 17 (.p 18 .fin))) .nil))) .nil)))))))) .nil) .nil)))) [7, 10, 12, 15] [0, 2, 3, 5, 6, 8, 9, 11, 13, 14, 16, 17, 18] hm [0, 1] [blk b0_1 [(sV b0_3 o0_1 u.codes.length c0_1)] 25, blk b0_2 [(nV x_.op), (nV x_.to), v2, (nV x_.n_)] 68] rfl mxo (by kernel_rfl) (fun _ _ _ h => h.2) fun w hm hS => tP rfl (fun w => yF fo_68_3 rfl) (tP rfl (fun w => yM rfl) (tP rfl (fun w => yB rfl) (tO (tY rfl (yL hm 1 isAgg3 rfl) (tAn rfl (tO (gb fun r1_8 hx1_8 => tf rfl rfl (fun a hf => e_call hf rfl call24 rfl (impl_within_ok _ x_.n_ 0 (w64 (k_ - 1)) _ hx1_8)) ?_)))))))
    rintro v1_8 w ⟨rfl, hB⟩
    replace hm := hm.below' hB; clear hB
    refine tAk hm [0, 1] rfl fun hS => tP rfl (fun w => yM rfl) (gs 66 rfl (fun h1_7 => ?_) fun h1_7 => ?_)
    ·
     refine tP rfl (fun w => yF fo_68_2 rfl) (tP rfl (fun w => yF fo_25_0 rfl) (tP rfl (fun w => yF fo_68_3 rfl) (tQ rfl hS (fun w hm => yL hm 1 isAgg29 rfl) ?_)))
     obtain ⟨p1_2, c1_2, rfl, hl1_2⟩ := ro_slice h2
     refine tP rfl (fun w => yV st_29 rfl) (tQ rfl hS (fun w hm => yL hm 0 isAgg23 rfl) (tO (tY rfl (yL hm 1 isAgg3 rfl) (tAs hS (gg fun x1_1 h1_8 hx1_10 => ?_)))))
     obtain ⟨v1_9, hc1_1, h1_9⟩ := rk_Code_ h1 hx1_10
     exact tP rfl (fun w => yI st_23 h1_8 (idx_lt hx1_10) rfl) (tP rfl (fun w => yF fo_45_0 rfl) (tO (tY rfl (yl isAgg3 ((hc1_1.mono hm.lez).cell (j := 0) rfl) rfl) (tAs hS (tP rfl (fun w => yB rfl) (tP rfl (fun w => yKt rfl) (tP rfl (fun w => yA rfl) (tE (gz hm [] rfl)))))))))
    exact tPo rfl rfl (tPo rfl rfl (tPo rfl rfl (tQo rfl hS rfl (tPo rfl rfl (tQo rfl hS rfl (tO (tEo rfl rfl (tAs hS (tPo rfl rfl (tPo rfl rfl (tO (tEo rfl rfl (tAs hS (tPo rfl rfl (tP rfl (fun w => yKf rfl) (tP rfl (fun w => yA rfl) (tE (gz hm [] rfl))))))))))))))))))
   repeat clear hm
   intro s0_4 w hm
   exact gRt (gr1 results46 rfl ⟨rfl, hm.below⟩)
  refine gcf rfl (gSk (gS (gJ hm (fun s0_5 => [(6, (.bool (s0_5)))]) (fun s0_5 => []) (fun s0_5 => ?_) ?_)))
  ·
   refine gW (.p 0 (.e 1 (.p 2 (.p 3 (.p 4 (.p 7 (.q 5 (.p 6 (.e 8 (.e 9 (.p 10 (.p 11 (.p 12 .fin))) .nil) .nil))))))) .nil)) [8, 9] [0, 2, 3, 4, 6, 7, 10, 11, 12] hm [0, 1] [blk b0_1 [(sV b0_3 o0_1 u.codes.length c0_1)] 25, blk b0_2 [(nV x_.op), (nV x_.to), v2, (nV x_.n_)] 68] rfl mxo (by kernel_rfl) (fun _ _ _ h => h.2) fun w hm hS => tP rfl (fun w => yF fo_68_3 rfl) (tO (tY rfl (yL hm 1 isAgg3 rfl) (tAn rfl (tP rfl (fun w => yB rfl) (tP rfl (fun w => yM rfl) (gsd 82 rfl (fun h1_10 => ?_) fun h1_10 => ?_))))))
   ·
    refine tP rfl (fun w => yF fo_68_2 rfl) (tP rfl (fun w => yF fo_68_0 rfl) (tQ rfl hS (fun w hm => yL hm 1 isAgg29 rfl) ?_))
    obtain ⟨p1_3, c1_3, rfl, hl1_3⟩ := ro_slice h2
    refine tP rfl (fun w => yV st_29 rfl) (tO (tY rfl (yL hm 1 isAgg3 rfl) (tAs hS (tO (gb fun r1_9 hx1_11 => tf rfl rfl (fun a hf => e_call hf rfl call71 rfl (impl_insArgs_ok _ x_.op _ hx1_11)) ?_)))))
    rintro v1_10 w ⟨rfl, hB⟩
    replace hm := hm.below' hB; clear hB
    exact tAk hm [0, 1] rfl fun hS => tP rfl (fun w => yB rfl) (tP rfl (fun w => yKt rfl) (tP rfl (fun w => yA rfl) (tE (gz hm [] rfl))))
   exact tPo rfl rfl (tPo rfl rfl (tQo rfl hS rfl (tPo rfl rfl (tO (tEo rfl rfl (tAs hS (tO (tEo rfl rfl (tAs hS (tPo rfl rfl (tP rfl (fun w => yKf rfl) (tP rfl (fun w => yA rfl) (tE (gz hm [] rfl))))))))))))))
  repeat clear hm
  intro s0_5 w hm
  exact gRt (gr1 results46 rfl ⟨rfl, hm.below⟩)

theorem impl_codeOk_3_ok (w0 : World) (i_ : Ins_) (v1 : Value) (h1 : GT.rep (hp w0) [v1] i_.args) (c0_ : Unit_) (v2 : Value) (h2 : GT.rep (hp w0) [v2] c0_.codes) (bf0 : Nat) (hbf0 : w0.heap[bf0]? = some (.cells ([v2] : List Value).toArray 25 (0, 0))) (c1_ : Int) (bf1 : Nat) (hbf1 : w0.heap[bf1]? = some (.cells ([(nV c1_)] : List Value).toArray 3 (0, 0))) :
    ConM Tryd.prog 45 [(.agg #[(nV i_.op), (nV i_.to), v1, (nV i_.n_)]), (pV bf0), (pV bf1)] w0 (impl_codeOk_3 i_ c0_ c1_) fun r v w' => v = (.bool (r)) ∧ Below w0.heap.size w0 w' := by
  unfold impl_codeOk_3
  refine gcon func45 rfl fun r => ?_
  have hm := Mem.start w0
  exact gS (gR (gBx hm rfl fun b0_1 w hm => gA rfl (gE (gS (gR (gY (yn (hm.old_at hbf0) isAgg25 sizeOf25 rfl) (gY (yl isAgg3 (hm.old_cell hbf1 rfl) rfl) (gY (yn (hm.blk_at 0 rfl) isAgg68 sizeOf68 rfl) (gC hm rfl call46 (impl_insOk_ok _ c0_ v2 (hm.now h2) c1_ i_ v1 (hm.now h1)) fun r0_1 hx0_1 w hm => gN rfl (gA rfl (gE (gRt (gr1 results45 rfl ⟨rfl, hm.below⟩)))))))))))))

theorem slices_IndexFunc_S_impl_Ins_impl_Ins_ok (w0 : World) (s_ : List Ins_) (v1 : Value) (h1 : GT.rep (hp w0) [v1] s_) (f : Ins_ → Option Bool) (fv1 : Value) (hfn1 : ∀ (w : World) (y0 : Ins_) (z1 : Value) (_ : GT.rep (hp w) [z1] y0.args) (r : Bool), Below w0.heap.size w0 w → f y0 = some r → FnOk Tryd.prog fv1 [(.agg #[(nV y0.op), (nV y0.to), z1, (nV y0.n_)])] w (fun v w' => v = (.bool (r)) ∧ Below w.heap.size w w')) :
    ConM Tryd.prog 66 [v1, fv1] w0 (slices_IndexFunc_S_impl_Ins_impl_Ins s_ f) fun r v w' => v = (nV r) ∧ Below w0.heap.size w0 w' := by
  unfold slices_IndexFunc_S_impl_Ins_impl_Ins
  refine gcon func66 rfl fun r => ?_
  have hm := Mem.start w0
  refine gS (gR (gA rfl (gE (gS (gS (gR (gM rfl ?_)))))))
  obtain ⟨p0_1, c0_1, rfl, hl0_1⟩ := ro_slice h1
  refine gY (yV st_63 rfl) (gM rfl (gE (gBk (gNf hm (fun i1_1 xs1_1 => [(0, (.slice p0_1 s_.length c0_1)), (1, fv1), (7, (nV ((s_.length : Int)))), (8, (nV i1_1))]) (fun i1_1 xs1_1 => []) [] rfl ?_ ?_))))
  ·
   repeat clear hm
   intro r0_1 hq0_1 i1_1 xs1_1 w hm hi0_1 hi0_2 q0_1 ho0_1
   refine gS (gR (gB rfl (gE (gS (go _ 9 rfl (decide_eq_true (by omega)) (gct rfl (gSk (gS (gBk (gS (gR (gM rfl (gA rfl (gE (gS (gR (gM rfl (gM rfl (gM rfl (gg fun x1_1 h1_1 hx1_2 => ?_))))))))))))))))))))
   obtain ⟨b1_1, o1_1, c1_1, he⟩ := idx_form' h1 hx1_2
   simp only [Value.slice.injEq, Option.some.injEq] at he; obtain ⟨rfl, _, rfl⟩ := he
   obtain ⟨v1_1, hc1_1, h1_2⟩ := rk_Ins_ h1 hx1_2
   refine gI st_63 h1_1 (idx_lt hx1_2) rfl (gY (yn (hc1_1.mono hm.lez) isAgg68 sizeOf68 rfl) (gb fun r1_1 hx1_3 => gf rfl (fun a hf => e_callv hf rfl rfl rfl (hfn1 _ x1_1 v1_1 (hm.now h1_2) _ hm.below hx1_3)) ?_))
   rintro v1_2 w ⟨rfl, hB⟩
   replace hm := hm.below' hB; clear hB
   refine gE (gs 16 rfl (fun h1_3 => ?_) fun h1_3 => ?_)
   ·
    exact gct rfl (gS (gR (gM rfl (gA rfl (gE (gRt (gLr ho0_1 hq0_1 (gr1 results66 rfl ⟨rfl, hm.below⟩))))))))
   exact gcf rfl (gSk (gR (gP (by omega) (by omega) rfl (gM rfl (gE (gze hm [] rfl))))))
  repeat clear hm
  intro i0_1 xs0_1 w hm hi0_3 hi0_4
  exact gS (gR (gB rfl (gE (gS (go _ 9 rfl (decide_eq_false (by omega)) (gcf rfl (gXt (gHh (gS (gR (gA rfl (gE (gRt (gr1 results66 rfl ⟨rfl, hm.below⟩))))))))))))))

theorem slices_ContainsFunc_S_impl_Ins_impl_Ins_ok (w0 : World) (s_ : List Ins_) (v1 : Value) (h1 : GT.rep (hp w0) [v1] s_) (f : Ins_ → Option Bool) (fv1 : Value) (hfn1 : ∀ (w : World) (y0 : Ins_) (z1 : Value) (_ : GT.rep (hp w) [z1] y0.args) (r : Bool), Below w0.heap.size w0 w → f y0 = some r → FnOk Tryd.prog fv1 [(.agg #[(nV y0.op), (nV y0.to), z1, (nV y0.n_)])] w (fun v w' => v = (.bool (r)) ∧ Below w.heap.size w w')) :
    ConM Tryd.prog 44 [v1, fv1] w0 (slices_ContainsFunc_S_impl_Ins_impl_Ins s_ f) fun r v w' => v = (.bool (r)) ∧ Below w0.heap.size w0 w' := by
  unfold slices_ContainsFunc_S_impl_Ins_impl_Ins
  refine gcon func44 rfl fun r => ?_
  have hm := Mem.start w0
  exact gS (gR (gA rfl (gE (gS (gR (gM rfl (gM rfl (gC hm rfl call66 (slices_IndexFunc_S_impl_Ins_impl_Ins_ok _ s_ v1 (hm.now h1) f fv1 (fun w y0 z0_0 z0_1 r hB hq => hfn1 w y0 z0_0 z0_1 r (hm.below.trans (hB.mono hm.below.size)) hq)) fun r0_1 hx0_1 w hm => gB rfl (gA rfl (gE (gRt (gr1 results44 rfl ⟨rfl, hm.below⟩))))))))))))

theorem slices_Index_S_int_int_ok (w0 : World) (s_ : List Int) (v1 : Value) (h1 : GT.rep (hp w0) [v1] s_) (v_ : Int) :
    ConM Tryd.prog 57 [v1, (nV v_)] w0 (slices_Index_S_int_int s_ v_) fun r v w' => v = (nV r) ∧ Below w0.heap.size w0 w' := by
  unfold slices_Index_S_int_int
  refine gcon func57 rfl fun r => ?_
  have hm := Mem.start w0
  refine gS (gR (gA rfl (gE (gS (gS (gR (gM rfl ?_)))))))
  obtain ⟨p0_1, c0_1, rfl, hl0_1⟩ := ro_slice h1
  refine gY (yV st_29 rfl) (gM rfl (gE (gBk (gNf hm (fun i1_1 xs1_1 => [(0, (.slice p0_1 s_.length c0_1)), (1, (nV v_)), (7, (nV ((s_.length : Int)))), (8, (nV i1_1))]) (fun i1_1 xs1_1 => []) [] rfl ?_ ?_))))
  ·
   repeat clear hm
   intro r0_1 hq0_1 i1_1 xs1_1 w hm hi0_1 hi0_2 q0_1 ho0_1
   refine gS (gR (gB rfl (gE (gS (go _ 9 rfl (decide_eq_true (by omega)) (gct rfl (gSk (gS (gBk (gS (gR (gM rfl (gA rfl (gE (gS (gR (gM rfl (gM rfl (gM rfl (gg fun x1_1 h1_1 hx1_2 => ?_))))))))))))))))))))
   obtain ⟨b1_1, o1_1, c1_1, he⟩ := idx_form h1 hx1_2
   simp only [Value.slice.injEq, Option.some.injEq] at he; obtain ⟨rfl, _, rfl⟩ := he
   refine gI st_29 h1_1 (idx_lt hx1_2) rfl (gY (yl isAgg3 ((flat_cells (cs := [(nV x1_1)]) (hm.now h1) hx1_2 rfl).cell (j := 0) rfl) rfl) (gB rfl (gE (gsd 16 rfl (fun h1_2 => ?_) fun h1_2 => ?_))))
   ·
    exact gct rfl (gS (gR (gM rfl (gA rfl (gE (gRt (gLr ho0_1 hq0_1 (gr1 results57 rfl ⟨rfl, hm.below⟩))))))))
   exact gcf rfl (gSk (gR (gP (by omega) (by omega) rfl (gM rfl (gE (gze hm [] rfl))))))
  repeat clear hm
  intro i0_1 xs0_1 w hm hi0_3 hi0_4
  exact gS (gR (gB rfl (gE (gS (go _ 9 rfl (decide_eq_false (by omega)) (gcf rfl (gXt (gHh (gS (gR (gA rfl (gE (gRt (gr1 results57 rfl ⟨rfl, hm.below⟩))))))))))))))

theorem slices_Contains_S_int_int_ok (w0 : World) (s_ : List Int) (v1 : Value) (h1 : GT.rep (hp w0) [v1] s_) (v_ : Int) :
    ConM Tryd.prog 72 [v1, (nV v_)] w0 (slices_Contains_S_int_int s_ v_) fun r v w' => v = (.bool (r)) ∧ Below w0.heap.size w0 w' := by
  unfold slices_Contains_S_int_int
  refine gcon func72 rfl fun r => ?_
  have hm := Mem.start w0
  exact gS (gR (gA rfl (gE (gS (gR (gM rfl (gM rfl (gC hm rfl call57 (slices_Index_S_int_int_ok _ s_ v1 (hm.now h1) v_) fun r0_1 hx0_1 w hm => gB rfl (gA rfl (gE (gRt (gr1 results72 rfl ⟨rfl, hm.below⟩))))))))))))

theorem impl_PredsOf_ok (w0 : World) (c_ : Code_) (v1 : Value) (h1 : GT.rep (hp w0) [v1] c_.blocks) (b_ : Int) :
    ConM Tryd.prog 47 [(.agg #[(nV c_.params), (nV c_.regs), v1]), (nV b_)] w0 (impl_PredsOf c_ b_) fun r v w' => ∃ (x1 : Value), v = x1 ∧ Mem w0 (hp w0) w' [ow [x1] r] := by
  unfold impl_PredsOf
  refine gcon func47 rfl fun r => ?_
  have hm := Mem.start w0
  refine gS (gR (gBx hm rfl fun b0_1 w hm => gA rfl (gE (gS (gR (gA rfl (gE (gS (gS (gR (gM rfl (gF fo_45_2 rfl (gL hm 0 isAgg43 rfl ?_)))))))))))))
  obtain ⟨p0_1, c0_1, rfl, hl0_1⟩ := ro_slice h1
  refine gY (yV st_43 rfl) (gY (yS (by omega) (by omega) rfl) (gC hm rfl call24 (impl_within_ok _ b_ 0 (((c_.blocks.length : Int)) - 1)) fun r0_1 hx0_1 w hm => gN rfl (gE (gsn 14 rfl (fun h0_1 => ?_) fun h0_1 => ?_))))
  ·
   refine gct rfl (gS (gR (gA rfl (gE (gRt ?_)))))
   replace hm := hm.nilow (α := Int)
   exact gr1 results47 rfl ⟨(.slice none 0 0), rfl, hm.pk [0] rfl rfl⟩
  refine gcf rfl (gSk (gS (gS (gR (gF fo_45_2 rfl (gL hm 0 isAgg43 rfl (gY (yV st_43 rfl) (gM rfl (gE (gBk ?_))))))))))
  replace hm := hm.nilow (α := Int)
  refine gNg (fun i1_1 xs1_1 a w => ∃ (v1_1 : Value), St 33 [(1, (nV b_)), (5, v1_1), (16, (.slice p0_1 c_.blocks.length c0_1)), (17, (nV ((c_.blocks.length : Int)))), (18, (nV i1_1))] w0 (hp w0) [ow [v1_1] xs1_1] a w) (fun a hf => ⟨(.slice none 0 0), hf.sb rfl, hm.pk [0] rfl rfl⟩) ?_ ?_
  ·
   repeat clear hm
   rintro _ _ i1_1 xs1_1 a w ⟨v1_1, hf, hm⟩ hi0_1 hi0_2 q0_1 _
   refine gv hf (gS (gR (gB rfl (gE (gS (go _ 19 rfl (decide_eq_true (by omega)) (gct rfl (gSk (gS (gJg (fun s1_1 a w => ∃ (v1_2 : Value), St 33 [(1, (nV b_)), (5, v1_2), (16, (.slice p0_1 c_.blocks.length c0_1)), (17, (nV ((c_.blocks.length : Int)))), (18, (nV i1_1))] w0 (hp w0) [ow [v1_2] s1_1] a w) (fun s1_1 => ?_) ?_))))))))))
   ·
    refine gBk (gS (gR (gM rfl (gg fun x2_1 h2_1 hx2_2 => ?_))))
    obtain ⟨b2_1, o2_1, c2_1, he⟩ := idx_form' h1 hx2_2
    simp only [Value.slice.injEq, Option.some.injEq] at he; obtain ⟨rfl, _, rfl⟩ := he
    obtain ⟨v2_1, v2_2, v2_3, hc2_1, h2_2, h2_3, h2_4⟩ := rk_Block_ h1 hx2_2
    refine gI st_43 h2_1 (idx_lt hx2_2) rfl (gY (yn (hc2_1.mono hm.lez) isAgg65 sizeOf65 rfl) (gAl hm zeroValue65 rfl fun b2_2 w hm => gA rfl (gSN hm 0 sizeOf65 (one_cons (rep_one h2_2) (one_cons (rep_one h2_3) (one_cons rfl (one_cons rfl (one_cons (rep_one h2_4) one_nil))))) rfl fun w hm => gE (gS (gR (gF fo_65_4 rfl (gL hm 0 isAgg29 rfl (gM rfl (gC hm rfl call72 (slices_Contains_S_int_int_ok _ x2_1.next_ v2_3 (hm.now h2_4) b_) fun r2_1 hx2_3 w hm => gE (gJg (fun s2_1 a w => ∃ (v2_5 : Value), St 33 [(1, (nV b_)), (5, v2_5), (16, (sV b2_1 o2_1 c_.blocks.length c0_1)), (17, (nV ((c_.blocks.length : Int)))), (18, (nV i1_1))] w0 (hp w0) [ow [v2_5] s2_1] a w) (fun s2_1 => ?_) ?_))))))))))
    ·
     refine gs 26 rfl (fun h3_1 => ?_) fun h3_1 => ?_
     ·
      refine gct rfl (gR (gM rfl (gM rfl (gf rfl (fun a hf => e_build (vs := #[(0, (nV i1_1))]) (cs := [(nV i1_1)]) et_29 hf hm rfl rfl (by kernel_rfl) rfl rfl) ?_))))
      rintro _ w ⟨b3_1, rfl, hm⟩
      replace hm := hm.lit (xs := ([i1_1] : List Int)) 0 rfl rfl rfl rfl
      refine gb fun ys3_1 hx3_1 => ?_
      obtain ⟨h3_2, h3_2e⟩ := appM_some.1 hx3_1
      refine gf rfl (fun a hf => e_append 2 et_29 hf hm rfl (hm.ow_rep 0 rfl) rfl rfl rfl h3_2) ?_
      rintro v3_1 w hm
      rw [h3_2e] at hm
      exact gA rfl (gE (gZ fun a hf => ⟨v3_1, hf.sb rfl, hm.pk [2] rfl rfl⟩))
     exact gcf rfl (gSk (gZ fun a hf => ⟨v1_1, hf.sb rfl, hm.pk [1] rfl rfl⟩))
    repeat clear hm
    rintro s2_1 a w ⟨v2_5, hf, hm⟩
    exact gv hf (gZ fun a hf => ⟨v2_5, hf.sb rfl, hm.pk [0] rfl rfl⟩)
   repeat clear hm
   rintro s1_1 a w ⟨v1_2, hf, hm⟩
   exact gv hf (gR (gP (by omega) (by omega) rfl (gM rfl (gE (gZe fun a hf => ⟨v1_2, hf.sb rfl, hm.pk [0] rfl rfl⟩)))))
  repeat clear hm
  rintro i0_1 xs0_1 a w ⟨v0_2, hf, hm⟩ hi0_3 hi0_4
  exact gv hf (gS (gR (gB rfl (gE (gS (go _ 19 rfl (decide_eq_false (by omega)) (gcf rfl (gXt (gHh (gS (gR (gM rfl (gA rfl (gE (gRt (gr1 results47 rfl ⟨v0_2, rfl, hm.pk [0] rfl rfl⟩))))))))))))))))

theorem impl_codeOk_4_ok (w0 : World) (r_ : Int) (c0_0_ : Code_) (v1 : Value) (h1 : GT.rep (hp w0) [v1] c0_0_.blocks) (bf0_0 : Nat) (hbf0_0 : w0.heap[bf0_0]? = some (.cells ([(nV c0_0_.params), (nV c0_0_.regs), v1] : List Value).toArray 45 (0, 0))) (bf0 : Nat) (hbf0 : w0.heap[bf0]? = some (.cells ([(.func (.func 39) #[] #[(pV bf0_0)])] : List Value).toArray 85 (0, 0))) :
    ConM Tryd.prog 48 [(nV r_), (pV bf0)] w0 (impl_codeOk_4 r_ c0_0_) fun r v w' => v = (.bool (r)) ∧ Below w0.heap.size w0 w' := by
  unfold impl_codeOk_4
  refine gcon func48 rfl fun r => ?_
  have hm := Mem.start w0
  refine gS (gR (gA rfl (gE (gS (gR (gY (yl isAgg85 (hm.old_cell hbf0 rfl) rfl) (gM rfl (gb fun r0_1 hx0_1 => gf rfl (fun a hf => e_callv hf rfl rfl rfl ⟨39, [(pV bf0_0)], rfl, call39, impl_codeOk_1_ok _ r_ c0_0_ v1 (rep_later (hm.now h1) (Below.refl _ _)) bf0_0 (hm.old_later hbf0_0 (Below.refl _ _)) _ hx0_1⟩) ?_))))))))
  rintro v0_1 w ⟨rfl, hB⟩
  replace hm := hm.below' hB; clear hB
  exact gN rfl (gA rfl (gE (gRt (gr1 results48 rfl ⟨rfl, hm.below⟩))))

theorem impl_codeOk_ok (w0 : World) (u : Unit_) (v1 : Value) (h1 : GT.rep (hp w0) [v1] u.codes) (k_ : Int) :
    ConM Tryd.prog 25 [(.agg #[v1]), (nV k_)] w0 (impl_codeOk u k_) fun r v w' => v = (.bool (r)) ∧ Below w0.heap.size w0 w' := by
  unfold impl_codeOk
  refine gcon func25 rfl fun r => ?_
  have hm := Mem.start w0
  refine gS (gR (gBx hm rfl fun b0_1 w hm => gBx hm rfl fun b0_2 w hm => gA rfl (gE (gS (gR (gF fo_25_0 rfl (gL hm 1 isAgg23 rfl (gL hm 0 isAgg3 rfl (gg fun x0_1 h0_1 hx0_2 => ?_)))))))))
  obtain ⟨b0_3, o0_1, c0_1, he⟩ := idx_form' h1 hx0_2
  subst he
  obtain ⟨v0_1, hc0_1, h0_2⟩ := rk_Code_ h1 hx0_2
  refine gI st_23 h0_1 (idx_lt hx0_2) rfl (gY (yn (hc0_1.mono hm.lez) isAgg45 sizeOf45 rfl) (gAl hm zeroValue45 rfl fun b0_4 w hm => gSN hm 0 sizeOf45 (one_cons rfl (one_cons rfl (one_cons (rep_one h0_2) one_nil))) rfl fun w hm => gE (gS (gS (gJ hm (fun s0_1 => [(2, (pV b0_1)), (3, (pV b0_2)), (5, (pV b0_4)), (36, (.bool (s0_1)))]) (fun s0_1 => [blk b0_1 [(sV b0_3 o0_1 u.codes.length c0_1)] 25, blk b0_2 [(nV k_)] 3, blk b0_4 [(nV x0_1.params), (nV x0_1.regs), v0_1] 45]) (fun s0_1 => ?_) ?_)))))
  ·
   refine gR (gF fo_45_1 rfl (gL hm 0 isAgg3 rfl (gC hm rfl call24 (impl_within_ok _ x0_1.regs 0 300) fun r1_1 hx1_1 w hm => gN rfl (gM rfl (gsn 21 rfl (fun h1_1 => ?_) fun h1_1 => ?_)))))
   ·
    exact gO rfl (gO rfl (gO rfl (gO rfl (gO rfl (gO rfl (gO rfl (gKt rfl (gM rfl (gO rfl (gO rfl (gO rfl (gO rfl (gO rfl (gKt rfl (gE (gz hm [2, 1, 0] rfl))))))))))))))))
   refine gF fo_45_0 rfl (gL hm 0 isAgg3 rfl (gF fo_45_1 rfl (gL hm 0 isAgg3 rfl (gY (yG rfl (y_min rfl rfl rfl)) ?_))))
   have h1_2 : minI 3 x0_1.regs = min 3 x0_1.regs := minI_eq _ _
   refine gC hm rfl call24 (impl_within_ok _ x0_1.params 0 (minI 3 x0_1.regs)) fun r1_2 hx1_2 w hm => gN rfl (gKf rfl (gM rfl (gsn 30 rfl (fun h1_3 => ?_) fun h1_3 => ?_)))
   ·
    exact gO rfl (gO rfl (gO rfl (gO rfl (gO rfl (gKt rfl (gE (gz hm [2, 1, 0] rfl)))))))
   refine gF fo_45_2 rfl (gL hm 0 isAgg43 rfl ?_)
   obtain ⟨p1_1, c1_1, rfl, hl1_1⟩ := ro_slice h0_2
   exact gY (yV st_43 rfl) (gC hm rfl call24 (impl_within_ok _ (x0_1.blocks.length : Int) 1 160) fun r1_3 hx1_3 w hm => gN rfl (gKf rfl (gE (gz hm [2, 1, 0] rfl))))
  repeat clear hm
  intro s0_1 w hm
  refine gs 36 rfl (fun h0_3 => ?_) fun h0_3 => ?_
  ·
   exact gct rfl (gS (gR (gA rfl (gE (gRt (gr1 results25 rfl ⟨rfl, hm.below⟩))))))
  refine gcf rfl (gSk (gS (gR (gY (yU rfl) (gAl hm zeroValue85 rfl fun b0_5 w hm => gS1 hm 0 sizeOf85 rfl rfl fun w hm => gE (gS (gS (gR (gF fo_45_2 rfl (gL hm 3 isAgg43 rfl ?_))))))))))
  obtain ⟨p0_1, c0_2, rfl, hl0_1⟩ := ro_slice h0_2
  refine gY (yV st_43 rfl) (gM rfl (gE (gBk (gNf hm (fun i1_1 xs1_1 => [(2, (pV b0_1)), (3, (pV b0_2)), (5, (pV b0_4)), (6, (pV b0_5)), (39, (.slice p0_1 x0_1.blocks.length c0_2)), (40, (nV ((x0_1.blocks.length : Int)))), (41, (nV i1_1))]) (fun i1_1 xs1_1 => [blk b0_1 [(sV b0_3 o0_1 u.codes.length c0_1)] 25, blk b0_2 [(nV k_)] 3, blk b0_4 [(nV x0_1.params), (nV x0_1.regs), (.slice p0_1 x0_1.blocks.length c0_2)] 45, blk b0_5 [(.func (.func 39) #[] #[(pV b0_4)])] 85]) [1, 2, 3, 0] rfl ?_ ?_))))
  ·
   repeat clear hm
   intro r0_1 hq0_2 i1_1 xs1_1 w hm hi0_1 hi0_2 q0_1 ho0_1
   refine gS (gR (gB rfl (gE (gS (go _ 42 rfl (decide_eq_true (by omega)) (gct rfl (gSk (gS (gBk (gS (gR (gM rfl (gg fun x1_1 h1_4 hx1_5 => ?_)))))))))))))
   obtain ⟨b1_1, o1_1, c1_2, he⟩ := idx_form' h0_2 hx1_5
   simp only [Value.slice.injEq, Option.some.injEq] at he; obtain ⟨rfl, _, rfl⟩ := he
   obtain ⟨v1_4, v1_5, v1_6, hc1_1, h1_5, h1_6, h1_7⟩ := rk_Block_ h0_2 hx1_5
   refine gI st_43 h1_4 (idx_lt hx1_5) rfl (gY (yn (hc1_1.mono hm.lez) isAgg65 sizeOf65 rfl) (gAl hm zeroValue65 rfl fun b1_2 w hm => gA rfl (gSN hm 0 sizeOf65 (one_cons (rep_one h1_5) (one_cons (rep_one h1_6) (one_cons rfl (one_cons rfl (one_cons (rep_one h1_7) one_nil))))) rfl fun w hm => gE (gS (gS (gJ hm (fun s1_1 => [(2, (pV b0_1)), (3, (pV b0_2)), (5, (pV b0_4)), (6, (pV b0_5)), (7, (nV i1_1)), (8, (pV b1_2)), (39, (sV b1_1 o1_1 x0_1.blocks.length c0_2)), (40, (nV ((x0_1.blocks.length : Int)))), (41, (nV i1_1)), (75, (.bool (s1_1)))]) (fun s1_1 => [blk b0_1 [(sV b0_3 o0_1 u.codes.length c0_1)] 25, blk b0_2 [(nV k_)] 3, blk b0_4 [(nV x0_1.params), (nV x0_1.regs), (sV b1_1 o1_1 x0_1.blocks.length c0_2)] 45, blk b0_5 [(.func (.func 39) #[] #[(pV b0_4)])] 85, blk b1_2 [v1_4, v1_5, (nV x1_1.jump), (nV x1_1.on), v1_6] 65]) (fun s1_1 => ?_) ?_))))))
   ·
    refine gW (.p 0 (.p 3 (.q 1 (.p 2 (.e 4 (.e 5 (.p 6 (.p 7 (.p 8 (.e 9 (.e 10 (.p 11 (.p 13 (.q 12 (.e 14 (.e 15 (.p 16 (.p 17 (.p 18 (.p 19 (.p 20 (.e 21 (.e 22 (.p 23 (.p 24 (.p 25 (.e 26 (.p 27 (.p 28 (.p 29 .fin))) .nil)))) .nil) .nil)))))) .nil) .nil)))) .nil) .nil)))) .nil) .nil))))) [4, 5, 14] [0, 2, 3, 6, 7, 8, 11, 13, 16, 17, 18, 19, 20, 23, 24, 25, 27, 28, 29] hm [0, 1, 2, 3, 4] [blk b1_2 [v1_4, v1_5, (nV x1_1.jump), (nV x1_1.on), v1_6] 65, blk b0_1 [(sV b0_3 o0_1 u.codes.length c0_1)] 25, blk b0_2 [(nV k_)] 3, blk b0_4 [(nV x0_1.params), (nV x0_1.regs), (sV b1_1 o1_1 x0_1.blocks.length c0_2)] 45, blk b0_5 [(.func (.func 39) #[] #[(pV b0_4)])] 85] rfl mxo (by kernel_rfl) (fun _ _ _ h => h.2) fun w hm hS => tP rfl (fun w => yF fo_65_4 rfl) (tP rfl (fun w => yF fo_65_2 rfl) (tQ rfl hS (fun w hm => yL hm 0 isAgg29 rfl) ?_))
    obtain ⟨p2_1, c2_1, rfl, hl2_1⟩ := ro_slice h1_7
    refine tP rfl (fun w => yV st_29 rfl) (tO (tY rfl (yL hm 0 isAgg3 rfl) (tAs hS (tO (gb fun r2_1 hx2_1 => tf rfl rfl (fun a hf => e_call hf rfl call40 rfl (impl_nextCount_ok _ x1_1.jump _ hx2_1)) ?_)))))
    rintro v2_1 w ⟨rfl, hB⟩
    replace hm := hm.below' hB; clear hB
    refine tAk hm [0, 1, 2, 3, 4] rfl fun hS => tP rfl (fun w => yB rfl) (tP rfl (fun w => yM rfl) (gsd 53 rfl (fun h2_1 => ?_) fun h2_1 => ?_))
    ·
     refine tPo rfl rfl (tO (tEo rfl rfl (tAn rfl (tO (tEo rfl rfl (tAn rfl (tPo rfl rfl (tPo rfl rfl (tQo rfl hS rfl (tO (tEo rfl rfl (tAs hS (tO (tEo rfl rfl (tAn rfl (tPo rfl rfl (tPo rfl rfl (tP rfl (fun w => yKt rfl) (tP rfl (fun w => yM rfl) (tPo rfl rfl (tO (tEo rfl rfl (tAn rfl (tO (tEo rfl rfl (tAn rfl (tPo rfl rfl (tPo rfl rfl (tPo rfl rfl (tO ?_))))))))))))))))))))))))))))))
     exact tEo rfl rfl (tAn rfl (tPo rfl rfl (tPo rfl rfl (tP rfl (fun w => yKt rfl) (tE (gz hm [1, 2, 3, 4, 0] rfl))))))
    refine tP rfl (fun w => yF fo_65_2 rfl) (tO (tY rfl (yL hm 0 isAgg3 rfl) (tAn rfl (tO (gb fun r2_2 hx2_2 => tf rfl rfl (fun a hf => e_call hf rfl call41 rfl (impl_usesOn_ok _ x1_1.jump _ hx2_2)) ?_)))))
    rintro v2_2 w ⟨rfl, hB⟩
    replace hm := hm.below' hB; clear hB
    refine tAk hm [0, 1, 2, 3, 4] rfl fun hS => tP rfl (fun w => yM rfl) (gs 57 rfl (fun h2_2 => ?_) fun h2_2 => ?_)
    ·
     refine tP rfl (fun w => yF fo_65_3 rfl) (tQ rfl hS (fun w hm => yL hm 4 isAgg85 rfl) (tO (tY rfl (yL hm 0 isAgg3 rfl) (tAs hS (tO (gb fun r2_3 hx2_3 => tf rfl rfl (fun a hf => e_callv hf rfl rfl rfl ⟨39, [(pV b0_4)], rfl, call39, impl_codeOk_1_ok _ x1_1.on x0_1 (sV b1_1 o1_1 x0_1.blocks.length c0_2) (rep_later (hm.now h0_2) (Below.refl _ _)) b0_4 (hm.blk_later 3 rfl (Below.refl _ _)) _ hx2_3⟩) ?_))))))
     rintro v2_3 w ⟨rfl, hB⟩
     replace hm := hm.below' hB; clear hB
     refine tAn rfl (tP rfl (fun w => yN rfl) (tP rfl (fun w => yKt rfl) (tP rfl (fun w => yKf rfl) (tP rfl (fun w => yM rfl) (gsn 65 rfl (fun h2_3 => ?_) fun h2_3 => ?_)))))
     ·
      exact tPo rfl rfl (tO (tEo rfl rfl (tAn rfl (tO (tEo rfl rfl (tAn rfl (tPo rfl rfl (tPo rfl rfl (tPo rfl rfl (tO (tEo rfl rfl (tAn rfl (tPo rfl rfl (tPo rfl rfl (tP rfl (fun w => yKt rfl) (tE (gz hm [1, 2, 3, 4, 0] rfl)))))))))))))))))
     refine tP rfl (fun w => yF fo_65_2 rfl) (tO (tY rfl (yL hm 0 isAgg3 rfl) (tAn rfl (tO (gb fun r2_4 hx2_4 => tf rfl rfl (fun a hf => e_call hf rfl call41 rfl (impl_usesOn_ok _ x1_1.jump _ hx2_4)) ?_)))))
     rintro v2_4 w ⟨rfl, hB⟩
     replace hm := hm.below' hB; clear hB
     refine tAn rfl (tP rfl (fun w => yN rfl) (tP rfl (fun w => yM rfl) (gsn 70 rfl (fun h2_4 => ?_) fun h2_4 => ?_)))
     ·
      exact tP rfl (fun w => yF fo_65_3 rfl) (tO (tY rfl (yL hm 0 isAgg3 rfl) (tAn rfl (tP rfl (fun w => yB rfl) (tP rfl (fun w => yKt rfl) (tP rfl (fun w => yKf rfl) (tE (gz hm [1, 2, 3, 4, 0] rfl))))))))
     exact tPo rfl rfl (tO (tEo rfl rfl (tAn rfl (tPo rfl rfl (tP rfl (fun w => yKf rfl) (tP rfl (fun w => yKf rfl) (tE (gz hm [1, 2, 3, 4, 0] rfl))))))))
    refine tPo rfl rfl (tQo rfl hS rfl (tO (tEo rfl rfl (tAs hS (tO (tEo rfl rfl (tAn rfl (tPo rfl rfl (tP rfl (fun w => yKf rfl) (tP rfl (fun w => yKf rfl) (tP rfl (fun w => yM rfl) (tP rfl (fun w => yF fo_65_2 rfl) (tO (tY rfl (yL hm 0 isAgg3 rfl) (tAn rfl (tO (gb fun r2_5 hx2_5 => tf rfl rfl (fun a hf => e_call hf rfl call41 rfl (impl_usesOn_ok _ x1_1.jump _ hx2_5)) ?_)))))))))))))))))
    rintro v2_5 w ⟨rfl, hB⟩
    replace hm := hm.below' hB; clear hB
    refine tAn rfl (tP rfl (fun w => yN rfl) (tP rfl (fun w => yM rfl) (gsn 70 rfl (fun h2_5 => ?_) fun h2_5 => ?_)))
    ·
     exact tP rfl (fun w => yF fo_65_3 rfl) (tO (tY rfl (yL hm 0 isAgg3 rfl) (tAn rfl (tP rfl (fun w => yB rfl) (tP rfl (fun w => yKt rfl) (tP rfl (fun w => yKf rfl) (tE (gz hm [1, 2, 3, 4, 0] rfl))))))))
    exact tPo rfl rfl (tO (tEo rfl rfl (tAn rfl (tPo rfl rfl (tP rfl (fun w => yKf rfl) (tP rfl (fun w => yKf rfl) (tE (gz hm [1, 2, 3, 4, 0] rfl))))))))
   repeat clear hm
   intro s1_1 w hm
   refine gs 75 rfl (fun h1_8 => ?_) fun h1_8 => ?_
   ·
    exact gct rfl (gS (gR (gA rfl (gE (gRt (gLr ho0_1 hq0_2 (gr1 results25 rfl ⟨rfl, hm.below⟩)))))))
   refine gcf rfl (gSk (gS (gS (gJ hm (fun s1_2 => [(2, (pV b0_1)), (3, (pV b0_2)), (5, (pV b0_4)), (6, (pV b0_5)), (7, (nV i1_1)), (8, (pV b1_2)), (39, (sV b1_1 o1_1 x0_1.blocks.length c0_2)), (40, (nV ((x0_1.blocks.length : Int)))), (41, (nV i1_1)), (85, (.bool (s1_2)))]) (fun s1_2 => [blk b0_1 [(sV b0_3 o0_1 u.codes.length c0_1)] 25, blk b0_2 [(nV k_)] 3, blk b0_4 [(nV x0_1.params), (nV x0_1.regs), (sV b1_1 o1_1 x0_1.blocks.length c0_2)] 45, blk b0_5 [(.func (.func 39) #[] #[(pV b0_4)])] 85, blk b1_2 [v1_4, v1_5, (nV x1_1.jump), (nV x1_1.on), v1_6] 65]) (fun s1_2 => ?_) ?_))))
   ·
    refine gR (gF fo_65_4 rfl (gL hm 4 isAgg29 rfl (gY (yU rfl) (gC hm rfl call42 (slices_ContainsFunc_S_int_int_ok _ x1_1.next_ v1_6 (hm.now h1_7) (fun y0 => impl_codeOk_2 y0 x0_1) (.func (.func 43) #[] #[(pV b0_4)]) (fun w y0 r hB hq => ⟨43, [(pV b0_4)], rfl, call43, impl_codeOk_2_ok w y0 x0_1 (sV b1_1 o1_1 x0_1.blocks.length c0_2) (rep_later (hm.now h0_2) hB) b0_4 (hm.blk_later 2 rfl hB) r hq⟩)) fun r2_6 hx2_6 w hm => gM rfl (gs 80 rfl (fun h2_6 => ?_) fun h2_6 => ?_)))))
    ·
     exact gO rfl (gO rfl (gO rfl (gO rfl (gKt rfl (gE (gz hm [0, 1, 2, 3, 4] rfl))))))
    exact gF fo_65_1 rfl (gL hm 4 isAgg63 rfl (gY (yU rfl) (gC hm rfl call44 (slices_ContainsFunc_S_impl_Ins_impl_Ins_ok _ x1_1.ins v1_5 (hm.now h1_6) (fun y0 => impl_codeOk_3 y0 u k_) (.func (.func 45) #[] #[(pV b0_1), (pV b0_2)]) (fun w y0 z0_0 z0_1 r hB hq => ⟨45, [(pV b0_1), (pV b0_2)], rfl, call45, impl_codeOk_3_ok w y0 z0_0 z0_1 u (sV b0_3 o0_1 u.codes.length c0_1) (rep_later (hm.now h1) hB) b0_1 (hm.blk_later 0 rfl hB) k_ b0_2 (hm.blk_later 1 rfl hB) r hq⟩)) fun r2_7 hx2_7 w hm => gKf rfl (gE (gz hm [0, 1, 2, 3, 4] rfl)))))
   repeat clear hm
   intro s1_2 w hm
   refine gs 85 rfl (fun h1_9 => ?_) fun h1_9 => ?_
   ·
    exact gct rfl (gS (gR (gA rfl (gE (gRt (gLr ho0_1 hq0_2 (gr1 results25 rfl ⟨rfl, hm.below⟩)))))))
   refine gcf rfl (gSk (gS (gR (gY (yn (hm.blk_at 2 rfl) isAgg45 sizeOf45 rfl) (gM rfl (gCg rfl call47 (impl_PredsOf_ok _ x0_1 (sV b1_1 o1_1 x0_1.blocks.length c0_2) (hm.now h0_2) i1_1) ?_))))))
   rintro r1_4 hx1_6 v1_7 w ⟨_, rfl, hB⟩
   replace hm := hm.give hB; clear hB
   obtain ⟨p1_2, c1_3, rfl, hl1_2⟩ := ro_slice (hm.ow_rep 0 rfl)
   refine gY (yV st_29 rfl) (gA rfl (gE (gS (gR (gF fo_65_0 rfl (gL hm 5 isAgg62 rfl ?_))))))
   obtain ⟨p1_3, c1_4, rfl, hl1_3⟩ := ro_slice h1_5
   refine gY (yV st_62 rfl) (gM rfl (gE (gBk (gNf hm (fun i2_1 xs2_1 => [(2, (pV b0_1)), (3, (pV b0_2)), (5, (pV b0_4)), (6, (pV b0_5)), (7, (nV i1_1)), (9, (nV ((r1_4.length : Int)))), (39, (sV b1_1 o1_1 x0_1.blocks.length c0_2)), (40, (nV ((x0_1.blocks.length : Int)))), (41, (nV i1_1)), (91, (.slice p1_3 x1_1.phis.length c1_4)), (92, (nV ((x1_1.phis.length : Int)))), (93, (nV i2_1))]) (fun i2_1 xs2_1 => [blk b0_1 [(sV b0_3 o0_1 u.codes.length c0_1)] 25, blk b0_2 [(nV k_)] 3, blk b0_4 [(nV x0_1.params), (nV x0_1.regs), (sV b1_1 o1_1 x0_1.blocks.length c0_2)] 45, blk b0_5 [(.func (.func 39) #[] #[(pV b0_4)])] 85]) [1, 2, 3, 4] rfl ?_ ?_))))
   ·
    repeat clear hm
    intro r1_5 hq1_3 i2_1 xs2_1 w hm hi1_1 hi1_2 q1_1 ho1_5
    refine gS (gR (gB rfl (gE (gS (go _ 94 rfl (decide_eq_true (by omega)) (gct rfl (gSk (gS (gBk (gS (gR (gg fun x2_1 h2_7 hx2_9 => ?_))))))))))))
    obtain ⟨b2_1, o2_1, c2_2, he⟩ := idx_form' h1_5 hx2_9
    simp only [Value.slice.injEq, Option.some.injEq] at he; obtain ⟨rfl, _, rfl⟩ := he
    obtain ⟨v2_8, hc2_1, h2_8⟩ := rk_Phi_ h1_5 hx2_9
    refine gI st_62 h2_7 (idx_lt hx2_9) rfl (gY (yn (hc2_1.mono hm.lez) isAgg70 sizeOf70 rfl) (gAl hm zeroValue70 rfl fun b2_2 w hm => gSN hm 0 sizeOf70 (one_cons rfl (one_cons (rep_one h2_8) one_nil)) rfl fun w hm => gE (gS (gJ hm (fun s2_1 => [(2, (pV b0_1)), (3, (pV b0_2)), (5, (pV b0_4)), (6, (pV b0_5)), (7, (nV i1_1)), (9, (nV ((r1_4.length : Int)))), (39, (sV b1_1 o1_1 x0_1.blocks.length c0_2)), (40, (nV ((x0_1.blocks.length : Int)))), (41, (nV i1_1)), (91, (sV b2_1 o2_1 x1_1.phis.length c1_4)), (92, (nV ((x1_1.phis.length : Int)))), (93, (nV i2_1)), (118, (.bool (s2_1)))]) (fun s2_1 => [blk b0_1 [(sV b0_3 o0_1 u.codes.length c0_1)] 25, blk b0_2 [(nV k_)] 3, blk b0_4 [(nV x0_1.params), (nV x0_1.regs), (sV b1_1 o1_1 x0_1.blocks.length c0_2)] 45, blk b0_5 [(.func (.func 39) #[] #[(pV b0_4)])] 85]) (fun s2_1 => ?_) ?_))))
    ·
     refine gR (gM rfl (gB rfl (gM rfl (gsd 99 rfl (fun h3_1 => ?_) fun h3_1 => ?_))))
     ·
      exact gO rfl (gO rfl (gO rfl (gO rfl (gO rfl (gKt rfl (gM rfl (gO rfl (gO rfl (gO rfl (gO rfl (gO rfl (gKt rfl (gM rfl (gO rfl (gO rfl (gO rfl (gO rfl (gKt rfl (gE (gz hm [1, 2, 3, 4] rfl))))))))))))))))))))
     refine gL hm 4 isAgg85 rfl (gF fo_70_0 rfl (gL hm 0 isAgg3 rfl (gb fun r3_1 hx3_1 => gf rfl (fun a hf => e_callv hf rfl rfl rfl ⟨39, [(pV b0_4)], rfl, call39, impl_codeOk_1_ok _ x2_1.to x0_1 (sV b1_1 o1_1 x0_1.blocks.length c0_2) (rep_later (hm.now h0_2) (Below.refl _ _)) b0_4 (hm.blk_later 3 rfl (Below.refl _ _)) _ hx3_1⟩) ?_)))
     rintro v3_1 w ⟨rfl, hB⟩
     replace hm := hm.below' hB; clear hB
     refine gN rfl (gKf rfl (gM rfl (gsn 106 rfl (fun h3_2 => ?_) fun h3_2 => ?_)))
     ·
      exact gO rfl (gO rfl (gO rfl (gO rfl (gO rfl (gKt rfl (gM rfl (gO rfl (gO rfl (gO rfl (gO rfl (gKt rfl (gE (gz hm [1, 2, 3, 4] rfl)))))))))))))
     refine gF fo_70_1 rfl (gL hm 0 isAgg29 rfl ?_)
     obtain ⟨p3_1, c3_1, rfl, hl3_1⟩ := ro_slice h2_8
     refine gY (yV st_29 rfl) (gM rfl (gB rfl (gKf rfl (gM rfl (gsd 113 rfl (fun h3_3 => ?_) fun h3_3 => ?_)))))
     ·
      exact gO rfl (gO rfl (gO rfl (gO rfl (gKt rfl (gE (gz hm [1, 2, 3, 4] rfl))))))
     exact gF fo_70_1 rfl (gL hm 0 isAgg29 rfl (gY (yU rfl) (gC hm rfl call42 (slices_ContainsFunc_S_int_int_ok _ x2_1.args (.slice p3_1 x2_1.args.length c3_1) (hm.now h2_8) (fun y0 => impl_codeOk_4 y0 x0_1) (.func (.func 48) #[] #[(pV b0_5)]) (fun w y0 r hB hq => ⟨48, [(pV b0_5)], rfl, call48, impl_codeOk_4_ok w y0 x0_1 (sV b1_1 o1_1 x0_1.blocks.length c0_2) (rep_later (hm.now h0_2) hB) b0_4 (hm.blk_later 3 rfl hB) b0_5 (hm.blk_later 4 rfl hB) r hq⟩)) fun r3_2 hx3_2 w hm => gKf rfl (gE (gz hm [1, 2, 3, 4] rfl)))))
    repeat clear hm
    intro s2_1 w hm
    refine gs 118 rfl (fun h2_9 => ?_) fun h2_9 => ?_
    ·
     exact gct rfl (gS (gR (gA rfl (gE (gRt (gLr ho1_5 hq1_3 (gLr ho0_1 hq0_2 (gr1 results25 rfl ⟨rfl, hm.below⟩))))))))
    exact gcf rfl (gSk (gR (gP (by omega) (by omega) rfl (gM rfl (gE (gze hm [0, 1, 2, 3] rfl))))))
   repeat clear hm
   intro i1_2 xs1_2 w hm hi1_3 hi1_4
   exact gS (gR (gB rfl (gE (gS (go _ 94 rfl (decide_eq_false (by omega)) (gcf rfl (gXt (gHh (gR (gP (by omega) (by omega) rfl (gM rfl (gE (gze hm [0, 1, 2, 3] rfl)))))))))))))
  repeat clear hm
  intro i0_1 xs0_1 w hm hi0_3 hi0_4
  exact gS (gR (gB rfl (gE (gS (go _ 42 rfl (decide_eq_false (by omega)) (gcf rfl (gXt (gHh (gS (gR (gA rfl (gE (gRt (gr1 results25 rfl ⟨rfl, hm.below⟩))))))))))))))

theorem impl_codeCount_ok (w0 : World) (c_ : Code_) (v1 : Value) (h1 : GT.rep (hp w0) [v1] c_.blocks) :
    ConM Tryd.prog 26 [(.agg #[(nV c_.params), (nV c_.regs), v1])] w0 (impl_codeCount c_) fun r v w' => v = (nV r) ∧ Below w0.heap.size w0 w' := by
  unfold impl_codeCount
  refine gcon func26 rfl fun r => ?_
  have hm := Mem.start w0
  refine gS (gR (gBx hm rfl fun b0_1 w hm => gA rfl (gE (gS (gR (gA rfl (gE (gS (gS (gR (gF fo_45_2 rfl (gL hm 0 isAgg43 rfl ?_))))))))))))
  obtain ⟨p0_1, c0_1, rfl, hl0_1⟩ := ro_slice h1
  refine gY (yV st_43 rfl) (gM rfl (gE (gBk (gNf hm (fun i1_1 xs1_1 => [(3, (nV xs1_1)), (7, (.slice p0_1 c_.blocks.length c0_1)), (8, (nV ((c_.blocks.length : Int)))), (9, (nV i1_1))]) (fun i1_1 xs1_1 => []) [] rfl ?_ ?_))))
  ·
   repeat clear hm
   intro _ _ i1_1 xs1_1 w hm hi0_1 hi0_2 q0_1 _
   refine gS (gR (gB rfl (gE (gS (go _ 10 rfl (decide_eq_true (by omega)) (gct rfl (gSk (gS (gBk (gS (gR (gg fun x1_1 h1_1 hx1_2 => ?_))))))))))))
   obtain ⟨b1_1, o1_1, c1_1, he⟩ := idx_form' h1 hx1_2
   simp only [Value.slice.injEq, Option.some.injEq] at he; obtain ⟨rfl, _, rfl⟩ := he
   obtain ⟨v1_1, v1_2, v1_3, hc1_1, h1_2, h1_3, h1_4⟩ := rk_Block_ h1 hx1_2
   refine gI st_43 h1_1 (idx_lt hx1_2) rfl (gY (yn (hc1_1.mono hm.lez) isAgg65 sizeOf65 rfl) (gAl hm zeroValue65 rfl fun b1_2 w hm => gSN hm 0 sizeOf65 (one_cons (rep_one h1_2) (one_cons (rep_one h1_3) (one_cons rfl (one_cons rfl (one_cons (rep_one h1_4) one_nil))))) rfl fun w hm => gE (gR (gM rfl (gF fo_65_0 rfl (gL hm 0 isAgg62 rfl ?_))))))
   obtain ⟨p1_1, c1_2, rfl, hl1_1⟩ := ro_slice h1_2
   refine gY (yV st_62 rfl) (gF fo_65_1 rfl (gL hm 0 isAgg63 rfl ?_))
   obtain ⟨p1_2, c1_3, rfl, hl1_2⟩ := ro_slice h1_3
   exact gY (yV st_63 rfl) (gP (by omega) (by omega) rfl (gB rfl (gA rfl (gE (gR (gP (by omega) (by omega) rfl (gM rfl (gE (gze hm [] rfl)))))))))
  repeat clear hm
  intro i0_1 xs0_1 w hm hi0_3 hi0_4
  exact gS (gR (gB rfl (gE (gS (go _ 10 rfl (decide_eq_false (by omega)) (gcf rfl (gXt (gHh (gS (gR (gM rfl (gA rfl (gE (gRt (gr1 results26 rfl ⟨rfl, hm.below⟩)))))))))))))))

theorem impl_UnitValid_ok (w0 : World) (u : Unit_) (v1 : Value) (h1 : GT.rep (hp w0) [v1] u.codes) :
    ConM Tryd.prog 11 [(.agg #[v1])] w0 (impl_UnitValid u) fun r v w' => v = (.bool (r)) ∧ Below w0.heap.size w0 w' := by
  unfold impl_UnitValid
  refine gcon func11 rfl fun r => ?_
  have hm := Mem.start w0
  refine gS (gR (gBx hm rfl fun b0_1 w hm => gA rfl (gE (gS (gS (gR (gF fo_25_0 rfl (gL hm 0 isAgg23 rfl ?_))))))))
  obtain ⟨p0_1, c0_1, rfl, hl0_1⟩ := ro_slice h1
  refine gY (yV st_23 rfl) (gC hm rfl call24 (impl_within_ok _ (u.codes.length : Int) 1 4) fun r0_1 hx0_1 w hm => gN rfl (gE (gsn 10 rfl (fun h0_1 => ?_) fun h0_1 => ?_)))
  ·
   exact gct rfl (gS (gR (gA rfl (gE (gRt (gr1 results11 rfl ⟨rfl, hm.below⟩))))))
  refine gcf rfl (gSk (gS (gR (gA rfl (gE (gS (gS (gR (gF fo_25_0 rfl (gL hm 0 isAgg23 rfl (gY (yV st_23 rfl) (gM rfl (gE (gBk (gNf hm (fun i1_1 xs1_1 => [(1, (pV b0_1)), (3, (nV xs1_1)), (12, (.slice p0_1 u.codes.length c0_1)), (13, (nV ((u.codes.length : Int)))), (14, (nV i1_1))]) (fun i1_1 xs1_1 => [blk b0_1 [(.slice p0_1 u.codes.length c0_1)] 25]) [0] rfl ?_ ?_)))))))))))))))
  ·
   repeat clear hm
   intro r0_2 hq0_1 i1_1 xs1_1 w hm hi0_1 hi0_2 q0_1 ho0_2
   refine gS (gR (gB rfl (gE (gS (go _ 15 rfl (decide_eq_true (by omega)) (gct rfl (gSk (gS (gBk (gS (gR (gM rfl (gg fun x1_1 h1_1 hx1_2 => ?_)))))))))))))
   obtain ⟨b1_1, o1_1, c1_1, he⟩ := idx_form' h1 hx1_2
   simp only [Value.slice.injEq, Option.some.injEq] at he; obtain ⟨rfl, _, rfl⟩ := he
   obtain ⟨v1_1, hc1_1, h1_2⟩ := rk_Code_ h1 hx1_2
   refine gI st_23 h1_1 (idx_lt hx1_2) rfl (gY (yn (hc1_1.mono hm.lez) isAgg45 sizeOf45 rfl) (gAl hm zeroValue45 rfl fun b1_2 w hm => gA rfl (gSN hm 0 sizeOf45 (one_cons rfl (one_cons rfl (one_cons (rep_one h1_2) one_nil))) rfl fun w hm => gE (gS (gS (gR (gY (yn (hm.blk_at 1 rfl) isAgg25 sizeOf25 rfl) (gM rfl (gC hm rfl call25 (impl_codeOk_ok _ u (sV b1_1 o1_1 u.codes.length c0_1) (hm.now h1) i1_1) fun r1_1 hx1_3 w hm => gN rfl (gE (gsn 22 rfl (fun h1_3 => ?_) fun h1_3 => ?_)))))))))))
   ·
    exact gct rfl (gS (gR (gA rfl (gE (gRt (gLr ho0_2 hq0_1 (gr1 results11 rfl ⟨rfl, hm.below⟩)))))))
   exact gcf rfl (gSk (gR (gM rfl (gY (yn (hm.blk_at 0 rfl) isAgg45 sizeOf45 rfl) (gC hm rfl call26 (impl_codeCount_ok _ x1_1 v1_1 (hm.now h1_2)) fun r1_2 hx1_4 w hm => gB rfl (gA rfl (gE (gR (gP (by omega) (by omega) rfl (gM rfl (gE (gze hm [1] rfl))))))))))))
  repeat clear hm
  intro i0_1 xs0_1 w hm hi0_3 hi0_4
  exact gS (gR (gB rfl (gE (gS (go _ 15 rfl (decide_eq_false (by omega)) (gcf rfl (gXt (gHh (gS (gR (gM rfl (gB rfl (gA rfl (gE (gRt (gr1 results11 rfl ⟨rfl, hm.below⟩))))))))))))))))

theorem impl_mainParams_ok (w0 : World) (u : Unit_) (v1 : Value) (h1 : GT.rep (hp w0) [v1] u.codes) :
    ConM Tryd.prog 15 [(.agg #[v1])] w0 (impl_mainParams u) fun r v w' => v = (nV r) ∧ Below w0.heap.size w0 w' := by
  unfold impl_mainParams
  refine gcon func15 rfl fun r => ?_
  have hm := Mem.start w0
  refine gS (gR (gBx hm rfl fun b0_1 w hm => gA rfl (gE (gS (gR (gF fo_25_0 rfl (gL hm 0 isAgg23 rfl (gF fo_25_0 rfl (gL hm 0 isAgg23 rfl ?_)))))))))
  obtain ⟨p0_1, c0_1, rfl, hl0_1⟩ := ro_slice h1
  refine gY (yV st_23 rfl) (gY (yS (by omega) (by omega) rfl) (gg fun x0_1 h0_1 hx0_2 => ?_))
  obtain ⟨b0_2, o0_1, c0_2, he⟩ := idx_form' h1 hx0_2
  simp only [Value.slice.injEq, Option.some.injEq] at he; obtain ⟨rfl, _, rfl⟩ := he
  obtain ⟨v0_1, hc0_1, h0_2⟩ := rk_Code_ h1 hx0_2
  exact gI st_23 h0_1 (idx_lt hx0_2) rfl (gF fo_45_0 rfl (gY (yl isAgg3 ((hc0_1.mono hm.lez).cell (j := 0) rfl) rfl) (gA rfl (gE (gRt (gr1 results15 rfl ⟨rfl, hm.below⟩))))))

theorem slices_Clone_S_int_int_ok (w0 : World) (s_ : List Int) (v1 : Value) (h1 : GT.rep (hp w0) [v1] s_) :
    ConM Tryd.prog 31 [v1] w0 (slices_Clone_S_int_int s_) fun r v w' => ∃ (x1 : Value), v = x1 ∧ Mem w0 (hp w0) w' [ow [x1] r] := by
  unfold slices_Clone_S_int_int
  refine gcon func31 rfl fun r => ?_
  have hm := Mem.start w0
  refine gS (gR (gA rfl (gE (gS (gS (gR (gM rfl ?_)))))))
  rcases nil_or h1 with ⟨he, h0_1⟩ | ⟨p0_1, c0_1, he⟩
  ·
   subst he; subst h0_1
   refine gcg (m' := some ([] : List Int)) (by simp [appM]) (gY (yG rfl (y_eqnil_t st_29.und rfl rfl rfl)) (gE (gct rfl (gS (gR (gA rfl (gE (gRt ?_))))))))
   replace hm := hm.nilow (α := Int)
   exact gr1 results31 rfl ⟨(.slice none 0 0), rfl, hm.pk [0] rfl rfl⟩
  subst he
  refine gY (yG rfl (y_eqnil_f st_29.und rfl rfl rfl)) (gE (gcf rfl (gSk (gS (gR (gf rfl (fun a hf => e_build0 (α := Int) et_29 hm rfl) ?_))))))
  rintro v0_1 w hm
  refine gM rfl (gb fun ys0_1 hx0_1 => ?_)
  obtain ⟨h0_2, h0_2e⟩ := appM_some.1 hx0_1
  refine gf rfl (fun a hf => e_append 0 et_29 hf hm rfl (hm.now h1) rfl rfl rfl h0_2) ?_
  rintro v0_2 w hm
  rw [h0_2e] at hm
  exact gA rfl (gE (gRt (gr1 results31 rfl ⟨v0_2, rfl, hm.pk [0] rfl rfl⟩)))

theorem impl_triesOf_ok (w0 : World) (n_ : Int) (hG0 : GT.rep (hp w0) [.slice (some ⟨0, 0, none⟩) 3 3] glob_impl_tries) :
    ConM Tryd.prog 14 [(nV n_)] w0 (impl_triesOf n_) fun r v w' => ∃ (x1 : Value), v = x1 ∧ Mem w0 (hp w0) w' [ow [x1] r] := by
  unfold impl_triesOf
  refine gcon func14 rfl fun r => ?_
  have hm := Mem.start w0
  refine gS (gR (gA rfl (gE (gS (gR (gA rfl (gE (gS (gS (gR (gY (yn (glob_cells (tab := glob_impl_tries) (hm.now hG0) rfl (by decide)) isAgg74 sizeOf74 rfl) (gM rfl (gE (gBk ?_))))))))))))))
  replace hm := hm.nilow (α := List Int)
  refine gNg (fun i1_1 xs1_1 a w => ∃ (v1_1 : Value), St 18 [(0, (nV n_)), (3, v1_1), (6, (.agg #[(nV 0), (nV 0), (nV 0), (nV 1), (nV 2), (nV 3), (nV 255), (nV 16), (nV 7)])), (7, (nV i1_1))] w0 (hp w0) [ow [v1_1] xs1_1] a w) (fun a hf => ⟨(.slice none 0 0), hf.sb rfl, hm.pk [0] rfl rfl⟩) ?_ ?_
  ·
   repeat clear hm
   rintro _ _ i1_1 xs1_1 a w ⟨v1_1, hf, hm⟩ hi0_1 hi0_2 q0_1 _
   refine gv hf (gS (gR (gB rfl (gE (gS (go _ 8 rfl (decide_eq_true (by omega)) (gct rfl (gSk (gS (gBk (gS (gR (gg fun x1_1 h1_1 hx1_2 => gY (yG rfl (y_idx_agg underlying74 sizeOf73 isAgg73 rfl rfl rfl h1_1 (by have := idx_lt2 (n := 3) hx1_2 rfl; omega) (idx3 hx1_2 rfl))) (gAl hm zeroValue73 rfl fun b1_1 w hm => gSN hm 0 sizeOf73 (one_cons rfl (one_cons rfl (one_cons rfl one_nil))) rfl fun w hm => gE (gR (gM rfl (gM rfl (gb fun x1_2 hx1_3 => ?_))))))))))))))))))
   obtain ⟨h1_2, h1_2e⟩ := subM_some.1 hx1_3
   obtain ⟨v1_2, hy1_1⟩ : ∃ nv, nv = subV (GT.sz Int) (sV b1_1 0 3 3) (0 : Int).toNat (n_ : Int).toNat := ⟨_, rfl⟩
   refine gY (yG rfl (yl_eq hy1_1 (y_slcArrH (n := 3) underlying73 sizeOf3 rfl rfl rfl h1_2.2.1 h1_2.2.2))) (gCg rfl call31 (slices_Clone_S_int_int_ok _ x1_2 v1_2 (view_rep hy1_1 h1_2e h1_2 (hm.arr_rep (pre := []) (post := []) (arr := ([x1_1.a0, x1_1.a1, x1_1.a2] : List Int)) (n := 3) 0 rfl (by decide)))) ?_)
   rintro r1_1 hx1_4 v1_3 w ⟨_, rfl, hB⟩
   replace hm := hm.give hB; clear hB
   obtain ⟨p1_1, c1_1, rfl, hl1_1⟩ := ro_slice (hm.ow_rep 0 rfl)
   refine gf rfl (fun a hf => e_build (vs := #[(0, (.slice p1_1 r1_1.length c1_1))]) (cs := [(.slice p1_1 r1_1.length c1_1)]) et_27 hf hm rfl rfl (by kernel_rfl) rfl rfl) ?_
   rintro _ w ⟨b1_2, rfl, hm⟩
   replace hm := hm.els_nil (α := List Int)
   replace hm := hm.imp (c' := ow [(.slice p1_1 r1_1.length c1_1)] (r1_1 : List Int)) 2 rfl (fun F h0 => h0)
   replace hm := (hm.els_cons 0 2 (by decide) rfl rfl).pk (L' := [els [(.slice p1_1 r1_1.length c1_1)] ([r1_1] : List (List Int)), blk b1_2 [(.slice p1_1 r1_1.length c1_1)] 29, blk b1_1 [(nV x1_1.a0), (nV x1_1.a1), (nV x1_1.a2)] 73, ow [v1_1] xs1_1]) [0, 1, 3, 4] rfl rfl
   replace hm := (hm.lit_els 1 0 (by decide) rfl rfl rfl rfl).pk (L' := [ow [(sV b1_2 0 1 1)] ([r1_1] : List (List Int)), blk b1_1 [(nV x1_1.a0), (nV x1_1.a1), (nV x1_1.a2)] 73, ow [v1_1] xs1_1]) [1, 2, 3] rfl rfl
   refine gb fun ys1_1 hx1_5 => ?_
   obtain ⟨h1_3, h1_3e⟩ := appM_some.1 hx1_5
   replace hm := (hm.both 2 0 (by decide) rfl rfl).pk (L' := [blk b1_1 [(nV x1_1.a0), (nV x1_1.a1), (nV x1_1.a2)] 73, both (ow [v1_1] xs1_1) (ow [(sV b1_2 0 1 1)] ([r1_1] : List (List Int)))]) [1, 2] rfl rfl
   refine gf rfl (fun a hf => e_appendD (xs := xs1_1) (ys := ([r1_1] : List (List Int))) 1 et_27 hf hm rfl rfl rfl rfl h1_3) ?_
   rintro v1_5 w hm
   rw [h1_3e] at hm
   exact gA rfl (gE (gR (gP (by omega) (by omega) rfl (gM rfl (gE (gZe fun a hf => ⟨v1_5, hf.sb rfl, hm.pk [1] rfl rfl⟩))))))
  repeat clear hm
  rintro i0_1 xs0_1 a w ⟨v0_1, hf, hm⟩ hi0_3 hi0_4
  exact gv hf (gS (gR (gB rfl (gE (gS (go _ 8 rfl (decide_eq_false (by omega)) (gcf rfl (gXt (gHh (gS (gR (gM rfl (gA rfl (gE (gRt (gr1 results14 rfl ⟨v0_1, rfl, hm.pk [0] rfl rfl⟩))))))))))))))))

theorem impl_NumbersFor_ok (w0 : World) (u : Unit_) (v1 : Value) (h1 : GT.rep (hp w0) [v1] u.codes) (hG0 : GT.rep (hp w0) [.slice (some ⟨0, 0, none⟩) 3 3] glob_impl_tries) :
    ConM Tryd.prog 5 [(.agg #[v1])] w0 (impl_NumbersFor u) fun r v w' => ∃ (x1 : Value), v = x1 ∧ Mem w0 (hp w0) w' [ow [x1] r] := by
  unfold impl_NumbersFor
  refine gcon func5 rfl fun r => ?_
  have hm := Mem.start w0
  refine gS (gR (gBx hm rfl fun b0_1 w hm => gA rfl (gE (gS (gS (gR (gY (yn (hm.blk_at 0 rfl) isAgg25 sizeOf25 rfl) (gC hm rfl call11 (impl_UnitValid_ok _ u v1 (hm.now h1)) fun r0_1 hx0_1 w hm => gN rfl (gE (gsn 5 rfl (fun h0_1 => ?_) fun h0_1 => ?_))))))))))
  ·
   refine gct rfl (gS (gR (gA rfl (gE (gRt ?_)))))
   replace hm := hm.nilow (α := List Int)
   exact gr1 results5 rfl ⟨(.slice none 0 0), rfl, hm.pk [0] rfl rfl⟩
  refine gcf rfl (gSk (gS (gR (gY (yn (hm.blk_at 0 rfl) isAgg25 sizeOf25 rfl) (gC hm rfl call15 (impl_mainParams_ok _ u v1 (hm.now h1)) fun r0_2 hx0_2 w hm => gCg rfl call14 (impl_triesOf_ok _ r0_2 (hm.now hG0)) ?_)))))
  rintro r0_3 hx0_3 v0_3 w ⟨_, rfl, hB⟩
  replace hm := hm.give hB; clear hB
  exact gA rfl (gE (gRt (gr1 results5 rfl ⟨v0_3, rfl, hm.pk [0] rfl rfl⟩)))

theorem spec_l7Regs_ok (w0 : World) (c_ : Code_) (v1 : Value) (h1 : GT.rep (hp w0) [v1] c_.blocks) (list : List Int) (v2 : Value) (h2 : GT.rep (hp w0) [v2] list) :
    ConM Tryd.prog 53 [(.agg #[(nV c_.params), (nV c_.regs), v1]), v2] w0 (spec_l7Regs c_ list) fun r v w' => v = (.bool (r)) ∧ Below w0.heap.size w0 w' := by
  unfold spec_l7Regs
  refine gcon func53 rfl fun r => ?_
  have hm := Mem.start w0
  refine gS (gR (gBx hm rfl fun b0_1 w hm => gA rfl (gE (gS (gS (gR (gA rfl (gE (gBk (gNf hm (fun i1_1 xs1_1 => [(1, v2), (2, (pV b0_1)), (5, (nV i1_1))]) (fun i1_1 xs1_1 => [blk b0_1 [(nV c_.params), (nV c_.regs), v1] 45]) [0] rfl ?_ ?_))))))))))
  ·
   repeat clear hm
   intro r0_1 hq0_1 i1_1 xs1_1 w hm hi0_1 hi0_2 q0_1 ho0_1
   refine gS (gS (gR (gM rfl (gM rfl ?_))))
   obtain ⟨p1_1, c1_1, rfl, hl1_1⟩ := ro_slice h2
   refine gY (yV st_29 rfl) (gB rfl (gE (go _ 9 rfl (decide_eq_true (by omega)) (gct rfl (gSk (gS (gBk (gS (gW (.p 0 (.p 1 (.p 2 (.p 4 (.q 3 (.e 5 (.p 6 (.e 7 (.p 8 .fin) .nil)) .nil)))))) [5] [0, 1, 2, 4, 6, 8] hm [0] [blk b0_1 [(nV c_.params), (nV c_.regs), v1] 45] rfl mxo (by kernel_rfl) (fun _ _ _ h => h.2) fun w hm hS => tP rfl (fun w => yM rfl) (tP rfl (fun w => yM rfl) (gg fun x1_1 h1_1 hx1_2 => ?_)))))))))))
   obtain ⟨b1_1, o1_1, c1_2, he⟩ := idx_form h2 hx1_2
   simp only [Value.slice.injEq, Option.some.injEq] at he; obtain ⟨rfl, _, rfl⟩ := he
   refine tP rfl (fun w => yI st_29 h1_1 (idx_lt hx1_2) rfl) (tP rfl (fun w => yF fo_45_1 rfl) (tQ rfl hS (fun w hm => yl isAgg3 ((flat_cells (cs := [(nV x1_1)]) (hm.now h2) hx1_2 rfl).cell (j := 0) rfl) rfl) (tO (tY rfl (yL hm 0 isAgg3 rfl) (tAs hS (tP rfl (fun w => yB rfl) (tO (gb fun r1_1 hx1_3 => tf rfl rfl (fun a hf => e_call hf rfl call21 rfl (spec_l1In_ok _ x1_1 0 (w64 (c_.regs - 1)) _ hx1_3)) ?_))))))))
   rintro v1_1 w ⟨rfl, hB⟩
   replace hm := hm.below' hB; clear hB
   refine tAn rfl (tP rfl (fun w => yN rfl) (tE (gsn 20 rfl (fun h1_2 => ?_) fun h1_2 => ?_)))
   ·
    exact gct rfl (gS (gR (gA rfl (gE (gRt (gLr ho0_1 hq0_1 (gr1 results53 rfl ⟨rfl, hm.below⟩)))))))
   exact gcf rfl (gSk (gR (gM rfl (gP (by omega) (by omega) rfl (gA rfl (gE (gze hm [0] rfl)))))))
  repeat clear hm
  intro i0_1 xs0_1 w hm hi0_3 hi0_4
  refine gS (gS (gR (gM rfl (gM rfl ?_))))
  obtain ⟨p0_1, c0_1, rfl, hl0_1⟩ := ro_slice h2
  exact gY (yV st_29 rfl) (gB rfl (gE (go _ 9 rfl (decide_eq_false (by omega)) (gcf rfl (gXt (gHh (gS (gR (gA rfl (gE (gRt (gr1 results53 rfl ⟨rfl, hm.below⟩))))))))))))

theorem spec_l7Ins_ok (w0 : World) (u : Unit_) (v1 : Value) (h1 : GT.rep (hp w0) [v1] u.codes) (k_ : Int) (x_ : Ins_) (v2 : Value) (h2 : GT.rep (hp w0) [v2] x_.args) :
    ConM Tryd.prog 52 [(.agg #[v1]), (nV k_), (.agg #[(nV x_.op), (nV x_.to), v2, (nV x_.n_)])] w0 (spec_l7Ins u k_ x_) fun r v w' => v = (.bool (r)) ∧ Below w0.heap.size w0 w' := by
  unfold spec_l7Ins
  refine gcon func52 rfl fun r => ?_
  have hm := Mem.start w0
  refine gS (gR (gBx hm rfl fun b0_1 w hm => gBx hm rfl fun b0_2 w hm => gA rfl (gE (gS (gR (gF fo_25_0 rfl (gL hm 1 isAgg23 rfl (gM rfl (gg fun x0_1 h0_1 hx0_2 => ?_)))))))))
  obtain ⟨b0_3, o0_1, c0_1, he⟩ := idx_form' h1 hx0_2
  subst he
  obtain ⟨v0_1, hc0_1, h0_2⟩ := rk_Code_ h1 hx0_2
  refine gI st_23 h0_1 (idx_lt hx0_2) rfl (gY (yn (hc0_1.mono hm.lez) isAgg45 sizeOf45 rfl) (gAl hm zeroValue45 rfl fun b0_4 w hm => gSN hm 0 sizeOf45 (one_cons rfl (one_cons rfl (one_cons (rep_one h0_2) one_nil))) rfl fun w hm => gE (gS (gS (gJ hm (fun s0_1 => [(1, (nV k_)), (3, (pV b0_1)), (5, (pV b0_2)), (7, (pV b0_4)), (23, (.bool (s0_1)))]) (fun s0_1 => [blk b0_1 [(sV b0_3 o0_1 u.codes.length c0_1)] 25, blk b0_2 [(nV x_.op), (nV x_.to), v2, (nV x_.n_)] 68, blk b0_4 [(nV x0_1.params), (nV x0_1.regs), v0_1] 45]) (fun s0_1 => ?_) ?_)))))
  ·
   refine gR (gF fo_68_0 rfl (gL hm 1 isAgg3 rfl (gC hm rfl call21 (spec_l1In_ok _ x_.op 1 14) fun r1_1 hx1_1 w hm => gN rfl (gM rfl (gsn 17 rfl (fun h1_1 => ?_) fun h1_1 => ?_)))))
   ·
    exact gO rfl (gO rfl (gO rfl (gO rfl (gO rfl (gKt rfl (gE (gz hm [2, 1, 0] rfl)))))))
   exact gY (yn (hm.blk_at 0 rfl) isAgg45 sizeOf45 rfl) (gF fo_68_2 rfl (gL hm 1 isAgg29 rfl (gC hm rfl call53 (spec_l7Regs_ok _ x0_1 v0_1 (hm.now h0_2) x_.args v2 (hm.now h2)) fun r1_2 hx1_2 w hm => gN rfl (gKf rfl (gE (gz hm [2, 1, 0] rfl))))))
  repeat clear hm
  intro s0_1 w hm
  refine gs 23 rfl (fun h0_3 => ?_) fun h0_3 => ?_
  ·
   exact gct rfl (gS (gR (gA rfl (gE (gRt (gr1 results52 rfl ⟨rfl, hm.below⟩))))))
  refine gcf rfl (gSk (gS (gS (gJ hm (fun s0_2 => [(1, (nV k_)), (3, (pV b0_1)), (5, (pV b0_2)), (44, (.bool (s0_2)))]) (fun s0_2 => [blk b0_1 [(sV b0_3 o0_1 u.codes.length c0_1)] 25, blk b0_2 [(nV x_.op), (nV x_.to), v2, (nV x_.n_)] 68]) (fun s0_2 => ?_) ?_))))
  ·
   refine gW (.p 0 (.p 3 (.p 5 (.q 1 (.q 4 (.q 6 (.p 7 (.e 2 (.e 8 (.p 9 (.p 10 (.p 11 (.e 12 (.e 13 (.p 14 (.p 15 (.p 16 (.e 17 (.p 18 (.p 19 (.p 20 .fin))) .nil)))) .nil) .nil)))) .nil) .nil)))))))) [1, 2, 4, 6] [0, 3, 5, 7, 9, 10, 11, 14, 15, 16, 18, 19, 20] hm [0, 1, 2] [blk b0_1 [(sV b0_3 o0_1 u.codes.length c0_1)] 25, blk b0_2 [(nV x_.op), (nV x_.to), v2, (nV x_.n_)] 68, blk b0_4 [(nV x0_1.params), (nV x0_1.regs), v0_1] 45] rfl mxo (by kernel_rfl) (fun _ _ _ h => h.2) fun w hm hS => tP rfl (fun w => yF fo_68_0 rfl) (tP rfl (fun w => yF fo_68_1 rfl) (tP rfl (fun w => yF fo_45_1 rfl) (tQ rfl hS (fun w hm => yL hm 1 isAgg3 rfl) (tQ rfl hS (fun w hm => yL hm 1 isAgg3 rfl) (tQ rfl hS (fun w hm => yL hm 2 isAgg3 rfl) (tP rfl (fun w => yB rfl) (tO (gb fun r1_3 hx1_3 => tf rfl rfl (fun a hf => e_call hf rfl call76 rfl (spec_l7Makes_ok _ x_.op _ hx1_3)) ?_))))))))
   rintro v1_3 w ⟨rfl, hB⟩
   replace hm := hm.below' hB; clear hB
   refine tAk hm [0, 1, 2] rfl fun hS => tO (gb fun r1_4 hx1_4 => tf rfl rfl (fun a hf => e_call hf rfl call21 rfl (spec_l1In_ok _ x_.to 0 (w64 (x0_1.regs - 1)) _ hx1_4)) ?_)
   rintro v1_4 w ⟨rfl, hB⟩
   replace hm := hm.below' hB; clear hB
   refine tAn rfl (tP rfl (fun w => yG rfl (y_neqb underlying4 rfl rfl rfl)) (tP rfl (fun w => yM rfl) (gsd 34 rfl (fun h1_2 => ?_) fun h1_2 => ?_)))
   ·
    exact tPo rfl rfl (tO (tEo rfl rfl (tAn rfl (tO (tEo rfl rfl (tAn rfl (tPo rfl rfl (tPo rfl rfl (tPo rfl rfl (tO (tEo rfl rfl (tAn rfl (tPo rfl rfl (tPo rfl rfl (tP rfl (fun w => yKt rfl) (tE (gz hm [0, 1] rfl)))))))))))))))))
   refine tP rfl (fun w => yF fo_68_0 rfl) (tO (tY rfl (yL hm 1 isAgg3 rfl) (tAn rfl (tO (gb fun r1_5 hx1_5 => tf rfl rfl (fun a hf => e_call hf rfl call76 rfl (spec_l7Makes_ok _ x_.op _ hx1_5)) ?_)))))
   rintro v1_5 w ⟨rfl, hB⟩
   replace hm := hm.below' hB; clear hB
   refine tAn rfl (tP rfl (fun w => yN rfl) (tP rfl (fun w => yM rfl) (gsn 39 rfl (fun h1_3 => ?_) fun h1_3 => ?_)))
   ·
    exact tP rfl (fun w => yF fo_68_1 rfl) (tO (tY rfl (yL hm 1 isAgg3 rfl) (tAn rfl (tP rfl (fun w => yB rfl) (tP rfl (fun w => yKt rfl) (tP rfl (fun w => yKf rfl) (tE (gz hm [0, 1] rfl))))))))
   exact tPo rfl rfl (tO (tEo rfl rfl (tAn rfl (tPo rfl rfl (tP rfl (fun w => yKf rfl) (tP rfl (fun w => yKf rfl) (tE (gz hm [0, 1] rfl))))))))
  repeat clear hm
  intro s0_2 w hm
  refine gs 44 rfl (fun h0_4 => ?_) fun h0_4 => ?_
  ·
   exact gct rfl (gS (gR (gA rfl (gE (gRt (gr1 results52 rfl ⟨rfl, hm.below⟩))))))
  refine gcf rfl (gSk (gS (gS (gR (gF fo_68_0 rfl (gL hm 1 isAgg3 rfl (gB rfl (gE (gsd 47 rfl (fun h0_5 => ?_) fun h0_5 => ?_)))))))))
  ·
   refine gct rfl (gS (gJ hm (fun s0_3 => [(6, (.bool (s0_3)))]) (fun s0_3 => []) (fun s0_3 => ?_) ?_))
   ·
    refine gW (.p 0 (.p 2 (.p 3 (.e 1 (.e 4 (.p 5 (.p 6 (.p 9 (.p 11 (.q 7 (.p 8 (.q 10 (.e 12 (.p 13 (.p 14 (.e 15 (.p 16 (.p 17 (.p 18 .fin))) .nil))) .nil)))))))) .nil) .nil)))) [7, 10, 12, 15] [0, 2, 3, 5, 6, 8, 9, 11, 13, 14, 16, 17, 18] hm [0, 1] [blk b0_1 [(sV b0_3 o0_1 u.codes.length c0_1)] 25, blk b0_2 [(nV x_.op), (nV x_.to), v2, (nV x_.n_)] 68] rfl mxo (by kernel_rfl) (fun _ _ _ h => h.2) fun w hm hS => tP rfl (fun w => yF fo_68_3 rfl) (tP rfl (fun w => yM rfl) (tP rfl (fun w => yB rfl) (tO (tY rfl (yL hm 1 isAgg3 rfl) (tAn rfl (tO (gb fun r1_6 hx1_6 => tf rfl rfl (fun a hf => e_call hf rfl call21 rfl (spec_l1In_ok _ x_.n_ 0 (w64 (k_ - 1)) _ hx1_6)) ?_)))))))
    rintro v1_6 w ⟨rfl, hB⟩
    replace hm := hm.below' hB; clear hB
    refine tAk hm [0, 1] rfl fun hS => tP rfl (fun w => yM rfl) (gs 53 rfl (fun h1_4 => ?_) fun h1_4 => ?_)
    ·
     refine tP rfl (fun w => yF fo_68_2 rfl) (tP rfl (fun w => yF fo_25_0 rfl) (tP rfl (fun w => yF fo_68_3 rfl) (tQ rfl hS (fun w hm => yL hm 1 isAgg29 rfl) ?_)))
     obtain ⟨p1_1, c1_1, rfl, hl1_1⟩ := ro_slice h2
     refine tP rfl (fun w => yV st_29 rfl) (tQ rfl hS (fun w hm => yL hm 0 isAgg23 rfl) (tO (tY rfl (yL hm 1 isAgg3 rfl) (tAs hS (gg fun x1_1 h1_5 hx1_8 => ?_)))))
     obtain ⟨v1_7, hc1_1, h1_6⟩ := rk_Code_ h1 hx1_8
     exact tP rfl (fun w => yI st_23 h1_5 (idx_lt hx1_8) rfl) (tP rfl (fun w => yF fo_45_0 rfl) (tO (tY rfl (yl isAgg3 ((hc1_1.mono hm.lez).cell (j := 0) rfl) rfl) (tAs hS (tP rfl (fun w => yB rfl) (tP rfl (fun w => yKt rfl) (tP rfl (fun w => yA rfl) (tE (gz hm [] rfl)))))))))
    exact tPo rfl rfl (tPo rfl rfl (tPo rfl rfl (tQo rfl hS rfl (tPo rfl rfl (tQo rfl hS rfl (tO (tEo rfl rfl (tAs hS (tPo rfl rfl (tPo rfl rfl (tO (tEo rfl rfl (tAs hS (tPo rfl rfl (tP rfl (fun w => yKf rfl) (tP rfl (fun w => yA rfl) (tE (gz hm [] rfl))))))))))))))))))
   repeat clear hm
   intro s0_3 w hm
   exact gRt (gr1 results52 rfl ⟨rfl, hm.below⟩)
  refine gcf rfl (gSk (gS (gJ hm (fun s0_4 => [(6, (.bool (s0_4)))]) (fun s0_4 => []) (fun s0_4 => ?_) ?_)))
  ·
   refine gW (.p 0 (.p 3 (.q 1 (.p 2 (.e 4 (.e 5 (.p 6 (.p 7 (.p 8 (.e 9 (.e 10 (.p 11 (.p 12 (.p 13 (.e 14 (.p 15 (.p 16 (.p 17 (.e 18 (.p 19 (.p 20 (.p 21 (.p 22 .fin)))) .nil)))) .nil)))) .nil) .nil)))) .nil) .nil))))) [4, 5] [0, 2, 3, 6, 7, 8, 11, 12, 13, 15, 16, 17, 19, 20, 21, 22] hm [0, 1] [blk b0_1 [(sV b0_3 o0_1 u.codes.length c0_1)] 25, blk b0_2 [(nV x_.op), (nV x_.to), v2, (nV x_.n_)] 68] rfl mxo (by kernel_rfl) (fun _ _ _ h => h.2) fun w hm hS => tP rfl (fun w => yF fo_68_2 rfl) (tP rfl (fun w => yF fo_68_0 rfl) (tQ rfl hS (fun w hm => yL hm 1 isAgg29 rfl) ?_))
   obtain ⟨p1_2, c1_2, rfl, hl1_2⟩ := ro_slice h2
   refine tP rfl (fun w => yV st_29 rfl) (tO (tY rfl (yL hm 1 isAgg3 rfl) (tAs hS (tO (gb fun r1_7 hx1_9 => tf rfl rfl (fun a hf => e_call hf rfl call77 rfl (spec_l7Args_ok _ x_.op _ hx1_9)) ?_)))))
   rintro v1_8 w ⟨rfl, hB⟩
   replace hm := hm.below' hB; clear hB
   refine tAk hm [0, 1] rfl fun hS => tP rfl (fun w => yB rfl) (tP rfl (fun w => yM rfl) (gsd 73 rfl (fun h1_7 => ?_) fun h1_7 => ?_))
   ·
    refine tP rfl (fun w => yF fo_68_3 rfl) (tO (tY rfl (yL hm 1 isAgg3 rfl) (tAn rfl (tO (gb fun r1_8 hx1_10 => tf rfl rfl (fun a hf => e_call hf rfl call21 rfl (spec_l1In_ok _ x_.n_ 0 255 _ hx1_10)) ?_)))))
    rintro v1_9 w ⟨rfl, hB⟩
    replace hm := hm.below' hB; clear hB
    refine tAn rfl (tP rfl (fun w => yKt rfl) (tP rfl (fun w => yM rfl) (gs 78 rfl (fun h1_8 => ?_) fun h1_8 => ?_)))
    ·
     refine tP rfl (fun w => yF fo_68_3 rfl) (tO (tY rfl (yL hm 1 isAgg3 rfl) (tAn rfl (tP rfl (fun w => yB rfl) (tP rfl (fun w => yM rfl) (gsd 82 rfl (fun h1_9 => ?_) fun h1_9 => ?_))))))
     ·
      exact tPo rfl rfl (tO (tEo rfl rfl (tAn rfl (tPo rfl rfl (tP rfl (fun w => yKt rfl) (tP rfl (fun w => yKt rfl) (tP rfl (fun w => yA rfl) (tE (gz hm [] rfl)))))))))
     exact tP rfl (fun w => yF fo_68_0 rfl) (tO (tY rfl (yL hm 1 isAgg3 rfl) (tAn rfl (tP rfl (fun w => yB rfl) (tP rfl (fun w => yKf rfl) (tP rfl (fun w => yKt rfl) (tP rfl (fun w => yA rfl) (tE (gz hm [] rfl)))))))))
    exact tPo rfl rfl (tO (tEo rfl rfl (tAn rfl (tPo rfl rfl (tPo rfl rfl (tPo rfl rfl (tO (tEo rfl rfl (tAn rfl (tPo rfl rfl (tPo rfl rfl (tP rfl (fun w => yKf rfl) (tP rfl (fun w => yA rfl) (tE (gz hm [] rfl)))))))))))))))
   exact tPo rfl rfl (tO (tEo rfl rfl (tAn rfl (tO (tEo rfl rfl (tAn rfl (tP rfl (fun w => yKf rfl) (tP rfl (fun w => yM rfl) (tPo rfl rfl (tO (tEo rfl rfl (tAn rfl (tPo rfl rfl (tPo rfl rfl (tPo rfl rfl (tO (tEo rfl rfl (tAn rfl (tPo rfl rfl (tPo rfl rfl (tP rfl (fun w => yKf rfl) (tP rfl (fun w => yA rfl) (tE (gz hm [] rfl))))))))))))))))))))))))
  repeat clear hm
  intro s0_4 w hm
  exact gRt (gr1 results52 rfl ⟨rfl, hm.below⟩)

theorem spec_l7Block_ok (w0 : World) (u : Unit_) (v1 : Value) (h1 : GT.rep (hp w0) [v1] u.codes) (k_ : Int) (b_ : Int) :
    ConM Tryd.prog 32 [(.agg #[v1]), (nV k_), (nV b_)] w0 (spec_l7Block u k_ b_) fun r v w' => v = (.bool (r)) ∧ Below w0.heap.size w0 w' := by
  unfold spec_l7Block
  refine gcon func32 rfl fun r => ?_
  have hm := Mem.start w0
  refine gS (gR (gBx hm rfl fun b0_1 w hm => gA rfl (gE (gS (gR (gF fo_25_0 rfl (gL hm 0 isAgg23 rfl (gM rfl (gg fun x0_1 h0_1 hx0_2 => ?_)))))))))
  obtain ⟨b0_2, o0_1, c0_1, he⟩ := idx_form' h1 hx0_2
  subst he
  obtain ⟨v0_1, hc0_1, h0_2⟩ := rk_Code_ h1 hx0_2
  refine gI st_23 h0_1 (idx_lt hx0_2) rfl (gY (yn (hc0_1.mono hm.lez) isAgg45 sizeOf45 rfl) (gAl hm zeroValue45 rfl fun b0_3 w hm => gSN hm 0 sizeOf45 (one_cons rfl (one_cons rfl (one_cons (rep_one h0_2) one_nil))) rfl fun w hm => gE (gS (gR (gF fo_45_2 rfl (gL hm 0 isAgg43 rfl (gM rfl (gg fun x0_2 h0_3 hx0_4 => ?_))))))))
  obtain ⟨b0_4, o0_2, c0_2, he⟩ := idx_form' h0_2 hx0_4
  subst he
  obtain ⟨v0_2, v0_3, v0_4, hc0_2, h0_4, h0_5, h0_6⟩ := rk_Block_ h0_2 hx0_4
  refine gI st_43 h0_3 (idx_lt hx0_4) rfl (gY (yn (hc0_2.mono hm.lez) isAgg65 sizeOf65 rfl) (gAl hm zeroValue65 rfl fun b0_5 w hm => gSN hm 0 sizeOf65 (one_cons (rep_one h0_4) (one_cons (rep_one h0_5) (one_cons rfl (one_cons rfl (one_cons (rep_one h0_6) one_nil))))) rfl fun w hm => gE (gS (gR (gA rfl (gE (gS (gS (gR (gF fo_65_2 rfl (gL hm 0 isAgg3 rfl (gE (gJge (fun s0_1 a w => 0 ≤ x0_2.jump ∧ x0_2.jump ≤ 3 ∧ 0 ≤ s0_1 ∧ s0_1 ≤ 2 ∧ St 136 [(1, (nV k_)), (2, (nV b_)), (3, (pV b0_1)), (7, (pV b0_3)), (8, (pV b0_5)), (9, (nV s0_1))] w0 (hp w0) [blk b0_1 [(sV b0_2 o0_1 u.codes.length c0_1)] 25, blk b0_3 [(nV x0_1.params), (nV x0_1.regs), (sV b0_4 o0_2 x0_1.blocks.length c0_2)] 45, blk b0_5 [v0_2, v0_3, (nV x0_2.jump), (nV x0_2.on), v0_4] 65] a w) (fun c0_3 hq0_1 => ?_) ?_)))))))))))))
  ·
   refine gBk (gS (gR (gB rfl (gA rfl (gE (gJge (fun s1_1 a w => 0 ≤ x0_2.jump ∧ x0_2.jump ≤ 3 ∧ 0 ≤ s1_1 ∧ s1_1 ≤ 2 ∧ St 136 [(1, (nV k_)), (2, (nV b_)), (3, (pV b0_1)), (7, (pV b0_3)), (8, (pV b0_5)), (9, (nV s1_1))] w0 (hp w0) [blk b0_1 [(sV b0_2 o0_1 u.codes.length c0_1)] 25, blk b0_3 [(nV x0_1.params), (nV x0_1.regs), (sV b0_4 o0_2 x0_1.blocks.length c0_2)] 45, blk b0_5 [v0_2, v0_3, (nV x0_2.jump), (nV x0_2.on), v0_4] 65] a w) (fun c1_1 hq1_1 => ?_) ?_))))))
   ·
    refine gsd 26 rfl (fun h2_1 => ?_) fun h2_1 => ?_
    ·
     refine gct rfl (gS (gR (gF fo_65_3 rfl (gL hm 0 isAgg3 rfl (gB rfl (gE (gsd 30 rfl (fun h2_2 => ?_) fun h2_2 => ?_)))))))
     ·
      exact gct rfl (gS (gR (gA rfl (gE (gRt (gEr hq1_1 (gEr hq0_1 (gr1 results32 rfl ⟨rfl, hm.below⟩))))))))
     exact gcf rfl (gSk (gZe fun a hf => ⟨(by first | omega | (dsimp only; omega)), (by first | omega | (dsimp only; omega)), (by first | omega | (dsimp only; omega)), (by first | omega | (dsimp only; omega)), hf.sb rfl, hm.pk [2, 1, 0] rfl rfl⟩))
    refine gcf rfl (gS (gR (gB rfl (gA rfl (gE (gJge (fun s2_1 a w => 0 ≤ x0_2.jump ∧ x0_2.jump ≤ 3 ∧ 0 ≤ s2_1 ∧ s2_1 ≤ 2 ∧ St 136 [(1, (nV k_)), (2, (nV b_)), (3, (pV b0_1)), (7, (pV b0_3)), (8, (pV b0_5)), (9, (nV s2_1))] w0 (hp w0) [blk b0_1 [(sV b0_2 o0_1 u.codes.length c0_1)] 25, blk b0_3 [(nV x0_1.params), (nV x0_1.regs), (sV b0_4 o0_2 x0_1.blocks.length c0_2)] 45, blk b0_5 [v0_2, v0_3, (nV x0_2.jump), (nV x0_2.on), v0_4] 65] a w) (fun c2_1 hq2_1 => ?_) ?_))))))
    ·
     refine gsd 31 rfl (fun h3_1 => ?_) fun h3_1 => ?_
     ·
      exact gct rfl (gR (gA rfl (gE (gZe fun a hf => ⟨(by first | omega | (dsimp only; omega)), (by first | omega | (dsimp only; omega)), (by first | omega | (dsimp only; omega)), (by first | omega | (dsimp only; omega)), hf.sb rfl, hm.pk [2, 1, 0] rfl rfl⟩))))
     refine gcf rfl (gS (gR (gB rfl (gA rfl (gE (gsd 33 rfl (fun h3_2 => ?_) fun h3_2 => ?_))))))
     ·
      exact gct rfl (gR (gA rfl (gE (gZe fun a hf => ⟨(by first | omega | (dsimp only; omega)), (by first | omega | (dsimp only; omega)), (by first | omega | (dsimp only; omega)), (by first | omega | (dsimp only; omega)), hf.sb rfl, hm.pk [2, 1, 0] rfl rfl⟩))))
     exact gcf rfl (gS (gR (gA rfl (gE (gRt (gEr hq2_1 (gEr hq1_1 (gEr hq0_1 (gr1 results32 rfl ⟨rfl, hm.below⟩)))))))))
    repeat clear hm
    rintro s2_1 a w ⟨hn2_1, hn2_2, hn2_3, hn2_4, hf, hm⟩
    exact gv hf (gZe fun a hf => ⟨(by first | omega | (dsimp only; omega)), (by first | omega | (dsimp only; omega)), (by first | omega | (dsimp only; omega)), (by first | omega | (dsimp only; omega)), hf.sb rfl, hm.pk [0, 1, 2] rfl rfl⟩)
   repeat clear hm
   rintro s1_1 a w ⟨hn1_1, hn1_2, hn1_3, hn1_4, hf, hm⟩
   exact gv hf (gZe fun a hf => ⟨(by first | omega | (dsimp only; omega)), (by first | omega | (dsimp only; omega)), (by first | omega | (dsimp only; omega)), (by first | omega | (dsimp only; omega)), hf.sb rfl, hm.pk [0, 1, 2] rfl rfl⟩)
  repeat clear hm
  rintro s0_1 a w ⟨hn0_1, hn0_2, hn0_3, hn0_4, hf, hm⟩
  refine gv hf (gS (gS (gJg (fun s0_2 a w => 0 ≤ x0_2.jump ∧ x0_2.jump ≤ 3 ∧ St 136 [(1, (nV k_)), (2, (nV b_)), (3, (pV b0_1)), (7, (pV b0_3)), (8, (pV b0_5)), (53, (.bool (s0_2)))] w0 (hp w0) [blk b0_1 [(sV b0_2 o0_1 u.codes.length c0_1)] 25, blk b0_3 [(nV x0_1.params), (nV x0_1.regs), (sV b0_4 o0_2 x0_1.blocks.length c0_2)] 45, blk b0_5 [v0_2, v0_3, (nV x0_2.jump), (nV x0_2.on), v0_4] 65] a w) (fun s0_2 => ?_) ?_)))
  ·
   refine gR (gF fo_65_4 rfl (gL hm 2 isAgg29 rfl ?_))
   obtain ⟨p1_1, c1_2, rfl, hl1_1⟩ := ro_slice h0_6
   refine gY (yV st_29 rfl) (gM rfl (gB rfl (gM rfl (gsd 40 rfl (fun h1_1 => ?_) fun h1_1 => ?_))))
   ·
    exact gO rfl (gO rfl (gO rfl (gO rfl (gO rfl (gO rfl (gO rfl (gO rfl (gO rfl (gO rfl (gO rfl (gO rfl (gKt rfl (gE (gZ fun a hf => ⟨(by first | omega | (dsimp only; omega)), (by first | omega | (dsimp only; omega)), hf.sb rfl, hm.pk [0, 1, 2] rfl rfl⟩))))))))))))))
   refine gF fo_65_2 rfl (gL hm 2 isAgg3 rfl (gB rfl (gM rfl (gsd 44 rfl (fun h1_2 => ?_) fun h1_2 => ?_))))
   ·
    exact gF fo_65_3 rfl (gL hm 2 isAgg3 rfl (gF fo_45_1 rfl (gL hm 1 isAgg3 rfl (gB rfl (gC hm rfl call21 (spec_l1In_ok _ x0_2.on 0 (w64 (x0_1.regs - 1))) fun r1_1 hx1_1 w hm => gN rfl (gKt rfl (gKf rfl (gE (gZ fun a hf => ⟨(by first | omega | (dsimp only; omega)), (by first | omega | (dsimp only; omega)), hf.sb rfl, hm.pk [0, 1, 2] rfl rfl⟩)))))))))
   exact gO rfl (gO rfl (gO rfl (gO rfl (gO rfl (gO rfl (gO rfl (gKf rfl (gKf rfl (gE (gZ fun a hf => ⟨(by first | omega | (dsimp only; omega)), (by first | omega | (dsimp only; omega)), hf.sb rfl, hm.pk [0, 1, 2] rfl rfl⟩))))))))))
  repeat clear hm
  rintro s0_2 a w ⟨hn0_5, hn0_6, hf, hm⟩
  refine gv hf (gs 53 rfl (fun h0_7 => ?_) fun h0_7 => ?_)
  ·
   exact gct rfl (gS (gR (gA rfl (gE (gRt (gr1 results32 rfl ⟨rfl, hm.below⟩))))))
  refine gcf rfl (gSk (gS (gS (gR (gA rfl (gE (gBk (gNf hm (fun i1_1 xs1_1 => [(1, (nV k_)), (2, (nV b_)), (3, (pV b0_1)), (7, (pV b0_3)), (8, (pV b0_5)), (10, (nV i1_1))]) (fun i1_1 xs1_1 => [blk b0_1 [(sV b0_2 o0_1 u.codes.length c0_1)] 25, blk b0_3 [(nV x0_1.params), (nV x0_1.regs), (sV b0_4 o0_2 x0_1.blocks.length c0_2)] 45, blk b0_5 [v0_2, v0_3, (nV x0_2.jump), (nV x0_2.on), v0_4] 65]) [0, 1, 2] rfl ?_ ?_))))))))
  ·
   repeat clear hm
   intro r0_1 hq0_3 i1_1 xs1_1 w hm hi0_1 hi0_2 q0_1 ho0_1
   refine gS (gS (gR (gM rfl (gF fo_65_4 rfl (gL hm 2 isAgg29 rfl ?_)))))
   obtain ⟨p1_2, c1_3, rfl, hl1_2⟩ := ro_slice h0_6
   refine gY (yV st_29 rfl) (gB rfl (gE (go _ 58 rfl (decide_eq_true (by omega)) (gct rfl (gSk (gS (gBk (gS (gW (.p 0 (.p 2 (.p 5 (.q 1 (.p 3 (.q 4 (.e 6 (.p 7 (.p 8 (.e 9 (.p 10 .fin) .nil))) .nil))))))) [6] [0, 2, 3, 5, 7, 8, 10] hm [0, 1, 2] [blk b0_1 [(sV b0_2 o0_1 u.codes.length c0_1)] 25, blk b0_3 [(nV x0_1.params), (nV x0_1.regs), (sV b0_4 o0_2 x0_1.blocks.length c0_2)] 45, blk b0_5 [v0_2, v0_3, (nV x0_2.jump), (nV x0_2.on), (.slice p1_2 x0_2.next_.length c1_3)] 65] rfl mxo (by kernel_rfl) (fun _ _ _ h => h.2) fun w hm hS => tP rfl (fun w => yF fo_65_4 rfl) (tP rfl (fun w => yM rfl) (tP rfl (fun w => yF fo_45_2 rfl) (tQ rfl hS (fun w hm => yL hm 2 isAgg29 rfl) (gg fun x1_1 h1_3 hx1_3 => ?_)))))))))))))
   obtain ⟨b1_1, o1_1, c1_4, he⟩ := idx_form h0_6 hx1_3
   simp only [Value.slice.injEq, Option.some.injEq] at he; obtain ⟨rfl, _, rfl⟩ := he
   refine tP rfl (fun w => yI st_29 h1_3 (idx_lt hx1_3) rfl) (tQ rfl hS (fun w hm => yl isAgg3 ((flat_cells (cs := [(nV x1_1)]) (hm.now h0_6) hx1_3 rfl).cell (j := 0) rfl) rfl) (tO (tY rfl (yL hm 1 isAgg43 rfl) (tAs hS ?_))))
   have hl1_3 := rep_len h0_2
   refine tP rfl (fun w => yV st_43 rfl) (tP rfl (fun w => yS (by omega) (by omega) rfl) (tO (gb fun r1_2 hx1_4 => tf rfl rfl (fun a hf => e_call hf rfl call21 rfl (spec_l1In_ok _ x1_1 1 (((x0_1.blocks.length : Int)) - 1) _ hx1_4)) ?_)))
   rintro v1_2 w ⟨rfl, hB⟩
   replace hm := hm.below' hB; clear hB
   refine tAn rfl (tP rfl (fun w => yN rfl) (tE (gsn 71 rfl (fun h1_4 => ?_) fun h1_4 => ?_)))
   ·
    exact gct rfl (gS (gR (gA rfl (gE (gRt (gLr ho0_1 hq0_3 (gr1 results32 rfl ⟨rfl, hm.below⟩)))))))
   exact gcf rfl (gSk (gR (gM rfl (gP (by omega) (by omega) rfl (gA rfl (gE (gze hm [0, 1, 2] rfl)))))))
  repeat clear hm
  intro i0_1 xs0_1 w hm hi0_3 hi0_4
  refine gS (gS (gR (gM rfl (gF fo_65_4 rfl (gL hm 2 isAgg29 rfl ?_)))))
  obtain ⟨p0_1, c0_4, rfl, hl0_1⟩ := ro_slice h0_6
  refine gY (yV st_29 rfl) (gB rfl (gE (go _ 58 rfl (decide_eq_false (by omega)) (gcf rfl (gXt (gHh (gS (gS (gR (gA rfl (gE (gBk (gNf hm (fun i1_2 xs1_2 => [(1, (nV k_)), (2, (nV b_)), (3, (pV b0_1)), (7, (pV b0_3)), (8, (pV b0_5)), (11, (nV i1_2))]) (fun i1_2 xs1_2 => [blk b0_1 [(sV b0_2 o0_1 u.codes.length c0_1)] 25, blk b0_3 [(nV x0_1.params), (nV x0_1.regs), (sV b0_4 o0_2 x0_1.blocks.length c0_2)] 45, blk b0_5 [v0_2, v0_3, (nV x0_2.jump), (nV x0_2.on), (.slice p0_1 x0_2.next_.length c0_4)] 65]) [0, 1, 2] rfl ?_ ?_)))))))))))))
  ·
   repeat clear hm
   intro r0_2 hq0_4 i1_2 xs1_2 w hm hi0_5 hi0_6 q0_2 ho0_2
   refine gS (gS (gR (gM rfl (gF fo_65_1 rfl (gL hm 2 isAgg63 rfl ?_)))))
   obtain ⟨p1_3, c1_5, rfl, hl1_4⟩ := ro_slice h0_5
   refine gY (yV st_63 rfl) (gB rfl (gE (go _ 76 rfl (decide_eq_true (by omega)) (gct rfl (gSk (gS (gBk (gS (gW (.p 1 (.p 2 (.p 4 (.q 0 (.e 3 (.p 5 (.e 6 (.e 7 (.p 8 .fin) .nil) .nil)) .nil))))) [3, 6] [1, 2, 4, 5, 8] hm [0, 1, 2] [blk b0_1 [(sV b0_2 o0_1 u.codes.length c0_1)] 25, blk b0_3 [(nV x0_1.params), (nV x0_1.regs), (sV b0_4 o0_2 x0_1.blocks.length c0_2)] 45, blk b0_5 [v0_2, (.slice p1_3 x0_2.ins.length c1_5), (nV x0_2.jump), (nV x0_2.on), (.slice p0_1 x0_2.next_.length c0_4)] 65] rfl mxo (by kernel_rfl) (fun _ _ _ h => h.2) fun w hm hS => tP rfl (fun w => yM rfl) (tP rfl (fun w => yF fo_65_1 rfl) (tP rfl (fun w => yM rfl) (tQ rfl hS (fun w hm => yn (hm.blk_at 0 rfl) isAgg25 sizeOf25 rfl) (tO (tY rfl (yL hm 2 isAgg63 rfl) (tAs hS (gg fun x1_2 h1_5 hx1_6 => ?_))))))))))))))))
   obtain ⟨b1_2, o1_2, c1_6, he⟩ := idx_form' h0_5 hx1_6
   simp only [Value.slice.injEq, Option.some.injEq] at he; obtain ⟨rfl, _, rfl⟩ := he
   obtain ⟨v1_3, hc1_1, h1_6⟩ := rk_Ins_ h0_5 hx1_6
   refine tP rfl (fun w => yI st_63 h1_5 (idx_lt hx1_6) rfl) (tO (tY rfl (yn (hc1_1.mono hm.lez) isAgg68 sizeOf68 rfl) (tAs hS (tO (gb fun r1_3 hx1_7 => tf rfl rfl (fun a hf => e_call hf rfl call52 rfl (spec_l7Ins_ok _ u (sV b0_2 o0_1 u.codes.length c0_1) (hm.now h1) k_ x1_2 v1_3 (hm.now h1_6) _ hx1_7)) ?_)))))
   rintro v1_4 w ⟨rfl, hB⟩
   replace hm := hm.below' hB; clear hB
   refine tAn rfl (tP rfl (fun w => yN rfl) (tE (gsn 87 rfl (fun h1_7 => ?_) fun h1_7 => ?_)))
   ·
    exact gct rfl (gS (gR (gA rfl (gE (gRt (gLr ho0_2 hq0_4 (gr1 results32 rfl ⟨rfl, hm.below⟩)))))))
   exact gcf rfl (gSk (gR (gM rfl (gP (by omega) (by omega) rfl (gA rfl (gE (gze hm [0, 1, 2] rfl)))))))
  repeat clear hm
  intro i0_2 xs0_2 w hm hi0_7 hi0_8
  refine gS (gS (gR (gM rfl (gF fo_65_1 rfl (gL hm 2 isAgg63 rfl ?_)))))
  obtain ⟨p0_2, c0_5, rfl, hl0_2⟩ := ro_slice h0_5
  refine gY (yV st_63 rfl) (gB rfl (gE (go _ 76 rfl (decide_eq_false (by omega)) (gcf rfl (gXt (gHh (gS (gR (gY (yn (hm.blk_at 1 rfl) isAgg45 sizeOf45 rfl) (gM rfl (gCg rfl call51 (spec_l7Preds_ok _ x0_1 (sV b0_4 o0_2 x0_1.blocks.length c0_2) (hm.now h0_2) b_) ?_)))))))))))
  rintro r0_3 hx0_5 v0_5 w ⟨_, rfl, hB⟩
  replace hm := hm.give hB; clear hB
  refine gA rfl (gE (gS (gS (gR (gA rfl (gE ?_))))))
  obtain ⟨p0_3, c0_6, rfl, hl0_3⟩ := ro_slice (hm.ow_rep 0 rfl)
  refine gBk (gNf hm (fun i1_3 xs1_3 => [(2, (nV b_)), (7, (pV b0_3)), (8, (pV b0_5)), (12, (.slice p0_3 r0_3.length c0_6)), (13, (nV i1_3))]) (fun i1_3 xs1_3 => [blk b0_3 [(nV x0_1.params), (nV x0_1.regs), (sV b0_4 o0_2 x0_1.blocks.length c0_2)] 45, blk b0_5 [v0_2, (.slice p0_2 x0_2.ins.length c0_5), (nV x0_2.jump), (nV x0_2.on), (.slice p0_1 x0_2.next_.length c0_4)] 65, ow [(.slice p0_3 r0_3.length c0_6)] r0_3]) [2, 3, 0] rfl ?_ ?_)
  ·
   repeat clear hm
   intro r0_4 hq0_5 i1_3 xs1_3 w hm hi0_9 hi0_10 q0_3 ho0_4
   refine gS (gS (gR (gM rfl (gF fo_65_0 rfl (gL hm 1 isAgg62 rfl ?_)))))
   obtain ⟨p1_4, c1_7, rfl, hl1_5⟩ := ro_slice h0_4
   refine gY (yV st_62 rfl) (gB rfl (gE (go _ 95 rfl (decide_eq_true (by omega)) (gct rfl (gSk (gS (gBk (gS (gJ hm (fun s1_2 => [(2, (nV b_)), (7, (pV b0_3)), (8, (pV b0_5)), (12, (.slice p0_3 r0_3.length c0_6)), (13, (nV i1_3)), (135, (.bool (s1_2)))]) (fun s1_2 => [blk b0_3 [(nV x0_1.params), (nV x0_1.regs), (sV b0_4 o0_2 x0_1.blocks.length c0_2)] 45, blk b0_5 [(.slice p1_4 x0_2.phis.length c1_7), (.slice p0_2 x0_2.ins.length c0_5), (nV x0_2.jump), (nV x0_2.on), (.slice p0_1 x0_2.next_.length c0_4)] 65, ow [(.slice p0_3 r0_3.length c0_6)] r0_3]) (fun s1_2 => ?_) ?_)))))))))
   ·
    refine gW (.p 0 (.p 1 (.p 2 (.p 3 (.p 5 (.p 10 (.p 11 (.e 4 (.p 6 (.p 7 (.e 8 (.p 9 (.p 12 (.p 13 (.p 14 (.p 16 (.p 18 (.q 15 (.e 17 (.p 19 (.p 20 (.e 21 (.e 22 (.p 23 (.p 24 (.p 25 (.p 26 (.p 28 (.p 32 (.q 27 (.p 29 (.p 30 (.q 31 (.e 33 (.p 34 (.e 35 (.p 36 (.p 37 .fin)) .nil)) .nil))))))))))) .nil) .nil))) .nil)))))))) .nil))) .nil)))))))) [17, 21, 33] [0, 1, 2, 3, 5, 6, 7, 9, 10, 11, 12, 13, 14, 16, 18, 19, 20, 23, 24, 25, 26, 28, 29, 30, 32, 34, 36, 37] hm [0, 1, 2] [blk b0_3 [(nV x0_1.params), (nV x0_1.regs), (sV b0_4 o0_2 x0_1.blocks.length c0_2)] 45, blk b0_5 [(.slice p1_4 x0_2.phis.length c1_7), (.slice p0_2 x0_2.ins.length c0_5), (nV x0_2.jump), (nV x0_2.on), (.slice p0_1 x0_2.next_.length c0_4)] 65, ow [(.slice p0_3 r0_3.length c0_6)] r0_3] rfl mxo (by kernel_rfl) (fun _ _ _ h => h.2) fun w hm hS => tP rfl (fun w => yM rfl) (tP rfl (fun w => yB rfl) (tP rfl (fun w => yM rfl) (gsd 100 rfl (fun h2_3 => ?_) fun h2_3 => ?_)))
    ·
     refine tPo rfl rfl (tPo rfl rfl (tPo rfl rfl (tPo rfl rfl (tO (tEo rfl rfl (tAn rfl (tPo rfl rfl (tPo rfl rfl (tO (tEo rfl rfl (tAn rfl (tPo rfl rfl (tPo rfl rfl (tP rfl (fun w => yKt rfl) (tP rfl (fun w => yM rfl) (tPo rfl rfl (tPo rfl rfl (tQo rfl hS rfl (tO (tEo rfl rfl (tAs hS (tPo rfl rfl (tPo rfl rfl (tO (tEo rfl rfl (tAs hS (tO (tEo rfl rfl (tAn rfl (tPo rfl rfl ?_))))))))))))))))))))))))))))))
     exact tP rfl (fun w => yKt rfl) (tP rfl (fun w => yM rfl) (tPo rfl rfl (tPo rfl rfl (tPo rfl rfl (tQo rfl hS rfl (tPo rfl rfl (tPo rfl rfl (tQo rfl hS rfl (tO (tEo rfl rfl (tAs hS (tPo rfl rfl (tO (tEo rfl rfl (tAn rfl (tPo rfl rfl (tP rfl (fun w => yKt rfl) (tE (gz hm [0, 1, 2] rfl)))))))))))))))))))
    refine tP rfl (fun w => yF fo_65_0 rfl) (tP rfl (fun w => yM rfl) (tP rfl (fun w => yM rfl) (tP rfl (fun w => yV st_29 rfl) (tO (tY rfl (yL hm 1 isAgg62 rfl) (tAn rfl (gg fun x2_1 h2_4 hx2_2 => ?_)))))))
    obtain ⟨b2_1, o2_1, c2_2, he⟩ := idx_form' h0_4 hx2_2
    simp only [Value.slice.injEq, Option.some.injEq] at he; obtain ⟨rfl, _, rfl⟩ := he
    obtain ⟨v2_1, hc2_1, h2_5⟩ := rk_Phi_ h0_4 hx2_2
    refine tP rfl (fun w => yI st_62 h2_4 (idx_lt hx2_2) rfl) (tP rfl (fun w => yF fo_70_1 rfl) (tO (tY rfl (yl isAgg29 ((hc2_1.mono hm.lez).cell (j := 1) rfl) rfl) (tAn rfl ?_))))
    obtain ⟨p2_1, c2_3, rfl, hl2_1⟩ := ro_slice h2_5
    refine tP rfl (fun w => yV st_29 rfl) (tP rfl (fun w => yB rfl) (tP rfl (fun w => yKf rfl) (tP rfl (fun w => yM rfl) (gsd 112 rfl (fun h2_6 => ?_) fun h2_6 => ?_))))
    ·
     refine tPo rfl rfl (tPo rfl rfl (tQo rfl hS rfl (tO (tEo rfl rfl (tAs hS (tPo rfl rfl (tPo rfl rfl (tO (tEo rfl rfl (tAs hS (tO (tEo rfl rfl (tAn rfl (tPo rfl rfl (tP rfl (fun w => yKt rfl) (tP rfl (fun w => yM rfl) (tPo rfl rfl (tPo rfl rfl (tPo rfl rfl (tQo rfl hS rfl (tPo rfl rfl (tPo rfl rfl (tQo rfl hS rfl (tO (tEo rfl rfl (tAs hS (tPo rfl rfl (tO (tEo rfl rfl (tAn rfl ?_))))))))))))))))))))))))))))))
     exact tPo rfl rfl (tP rfl (fun w => yKt rfl) (tE (gz hm [0, 1, 2] rfl)))
    refine tP rfl (fun w => yF fo_65_0 rfl) (tP rfl (fun w => yM rfl) (tQ rfl hS (fun w hm => yn (hm.blk_at 0 rfl) isAgg45 sizeOf45 rfl) (tO (tY rfl (yL hm 1 isAgg62 rfl) (tAs hS (tP rfl (fun w => yI st_62 h2_4 (idx_lt hx2_2) rfl) (tP rfl (fun w => yF fo_70_1 rfl) (tO (tY rfl (yl isAgg29 ((hc2_1.mono hm.lez).cell (j := 1) rfl) rfl) (tAs hS (tO (gb fun r2_1 hx2_3 => tf rfl rfl (fun a hf => e_call hf rfl call53 rfl (spec_l7Regs_ok _ x0_1 (sV b0_4 o0_2 x0_1.blocks.length c0_2) (hm.now h0_2) x2_1.args (.slice p2_1 x2_1.args.length c2_3) (hm.now h2_5) _ hx2_3)) ?_))))))))))))
    rintro v2_2 w ⟨rfl, hB⟩
    replace hm := hm.below' hB; clear hB
    refine tAk hm [0, 1, 2] rfl fun hS => tP rfl (fun w => yN rfl) (tP rfl (fun w => yKf rfl) (tP rfl (fun w => yM rfl) (gsn 123 rfl (fun h2_7 => ?_) fun h2_7 => ?_)))
    ·
     exact tPo rfl rfl (tPo rfl rfl (tPo rfl rfl (tQo rfl hS rfl (tPo rfl rfl (tPo rfl rfl (tQo rfl hS rfl (tO (tEo rfl rfl (tAs hS (tPo rfl rfl (tO (tEo rfl rfl (tAn rfl (tPo rfl rfl (tP rfl (fun w => yKt rfl) (tE (gz hm [0, 1, 2] rfl)))))))))))))))))
    refine tP rfl (fun w => yF fo_65_0 rfl) (tP rfl (fun w => yM rfl) (tP rfl (fun w => yF fo_45_1 rfl) (tQ rfl hS (fun w hm => yL hm 1 isAgg62 rfl) (tP rfl (fun w => yI st_62 h2_4 (idx_lt hx2_2) rfl) (tP rfl (fun w => yF fo_70_0 rfl) (tQ rfl hS (fun w hm => yl isAgg3 ((hc2_1.mono hm.lez).cell (j := 0) rfl) rfl) (tO (tY rfl (yL hm 0 isAgg3 rfl) (tAs hS (tP rfl (fun w => yB rfl) (tO (gb fun r2_2 hx2_4 => tf rfl rfl (fun a hf => e_call hf rfl call21 rfl (spec_l1In_ok _ x2_1.to 0 (w64 (x0_1.regs - 1)) _ hx2_4)) ?_))))))))))))
    rintro v2_3 w ⟨rfl, hB⟩
    replace hm := hm.below' hB; clear hB
    exact tAn rfl (tP rfl (fun w => yN rfl) (tP rfl (fun w => yKf rfl) (tE (gz hm [0, 1, 2] rfl))))
   repeat clear hm
   intro s1_2 w hm
   refine gs 135 rfl (fun h1_8 => ?_) fun h1_8 => ?_
   ·
    exact gct rfl (gS (gR (gA rfl (gE (gRt (gLr ho0_4 hq0_5 (gr1 results32 rfl ⟨rfl, hm.below⟩)))))))
   exact gcf rfl (gSk (gR (gM rfl (gP (by omega) (by omega) rfl (gA rfl (gE (gze hm [0, 1, 2] rfl)))))))
  repeat clear hm
  intro i0_3 xs0_3 w hm hi0_11 hi0_12
  refine gS (gS (gR (gM rfl (gF fo_65_0 rfl (gL hm 1 isAgg62 rfl ?_)))))
  obtain ⟨p0_4, c0_7, rfl, hl0_4⟩ := ro_slice h0_4
  exact gY (yV st_62 rfl) (gB rfl (gE (go _ 95 rfl (decide_eq_false (by omega)) (gcf rfl (gXt (gHh (gS (gR (gA rfl (gE (gRt (gr1 results32 rfl ⟨rfl, hm.below⟩))))))))))))

theorem spec_UnitValid_ok (w0 : World) (u : Unit_) (v1 : Value) (h1 : GT.rep (hp w0) [v1] u.codes) :
    ConM Tryd.prog 16 [(.agg #[v1])] w0 (spec_UnitValid u) fun r v w' => v = (.bool (r)) ∧ Below w0.heap.size w0 w' := by
  unfold spec_UnitValid
  refine gcon func16 rfl fun r => ?_
  have hm := Mem.start w0
  refine gS (gR (gBx hm rfl fun b0_1 w hm => gA rfl (gE (gS (gS (gR (gF fo_25_0 rfl (gL hm 0 isAgg23 rfl ?_))))))))
  obtain ⟨p0_1, c0_1, rfl, hl0_1⟩ := ro_slice h1
  refine gY (yV st_23 rfl) (gC hm rfl call21 (spec_l1In_ok _ (u.codes.length : Int) 1 4) fun r0_1 hx0_1 w hm => gN rfl (gE (gsn 11 rfl (fun h0_1 => ?_) fun h0_1 => ?_)))
  ·
   exact gct rfl (gS (gR (gA rfl (gE (gRt (gr1 results16 rfl ⟨rfl, hm.below⟩))))))
  refine gcf rfl (gSk (gS (gR (gA rfl (gE (gS (gS (gR (gA rfl (gE (gBk (gNf hm (fun i1_1 xs1_1 => [(1, (pV b0_1)), (3, (nV xs1_1)), (4, (nV i1_1))]) (fun i1_1 xs1_1 => [blk b0_1 [(.slice p0_1 u.codes.length c0_1)] 25]) [0] rfl ?_ ?_))))))))))))
  ·
   repeat clear hm
   intro r0_2 hq0_1 i1_1 xs1_1 w hm hi0_1 hi0_2 q0_1 ho0_2
   refine gS (gS (gR (gM rfl (gF fo_25_0 rfl (gL hm 0 isAgg23 rfl (gY (yV st_23 rfl) (gB rfl (gE (go _ 16 rfl (decide_eq_true (by omega)) (gct rfl (gSk (gS (gBk (gS (gR (gF fo_25_0 rfl (gL hm 0 isAgg23 rfl (gM rfl (gg fun x1_1 h1_1 hx1_2 => ?_)))))))))))))))))))
   obtain ⟨b1_1, o1_1, c1_1, he⟩ := idx_form' h1 hx1_2
   simp only [Value.slice.injEq, Option.some.injEq] at he; obtain ⟨rfl, _, rfl⟩ := he
   obtain ⟨v1_1, hc1_1, h1_2⟩ := rk_Code_ h1 hx1_2
   refine gI st_23 h1_1 (idx_lt hx1_2) rfl (gY (yn (hc1_1.mono hm.lez) isAgg45 sizeOf45 rfl) (gAl hm zeroValue45 rfl fun b1_2 w hm => gSN hm 0 sizeOf45 (one_cons rfl (one_cons rfl (one_cons (rep_one h1_2) one_nil))) rfl fun w hm => gE (gS (gS (gJ hm (fun s1_1 => [(1, (pV b0_1)), (3, (nV xs1_1)), (4, (nV i1_1)), (5, (pV b1_2)), (42, (.bool (s1_1)))]) (fun s1_1 => [blk b0_1 [(sV b1_1 o1_1 u.codes.length c0_1)] 25, blk b1_2 [(nV x1_1.params), (nV x1_1.regs), v1_1] 45]) (fun s1_1 => ?_) ?_)))))
   ·
    refine gR (gF fo_45_0 rfl (gL hm 0 isAgg3 rfl (gC hm rfl call21 (spec_l1In_ok _ x1_1.params 0 3) fun r2_1 hx2_1 w hm => gN rfl (gM rfl (gsn 28 rfl (fun h2_1 => ?_) fun h2_1 => ?_)))))
    ·
     exact gO rfl (gO rfl (gO rfl (gO rfl (gO rfl (gO rfl (gKt rfl (gM rfl (gO rfl (gO rfl (gO rfl (gO rfl (gO rfl (gKt rfl (gE (gz hm [1, 0] rfl)))))))))))))))
    refine gF fo_45_1 rfl (gL hm 0 isAgg3 rfl (gF fo_45_0 rfl (gL hm 0 isAgg3 rfl (gC hm rfl call21 (spec_l1In_ok _ x1_1.regs x1_1.params 300) fun r2_2 hx2_2 w hm => gN rfl (gKf rfl (gM rfl (gsn 36 rfl (fun h2_2 => ?_) fun h2_2 => ?_)))))))
    ·
     exact gO rfl (gO rfl (gO rfl (gO rfl (gO rfl (gKt rfl (gE (gz hm [1, 0] rfl)))))))
    refine gF fo_45_2 rfl (gL hm 0 isAgg43 rfl ?_)
    obtain ⟨p2_1, c2_1, rfl, hl2_1⟩ := ro_slice h1_2
    exact gY (yV st_43 rfl) (gC hm rfl call21 (spec_l1In_ok _ (x1_1.blocks.length : Int) 1 160) fun r2_3 hx2_3 w hm => gN rfl (gKf rfl (gE (gz hm [1, 0] rfl))))
   repeat clear hm
   intro s1_1 w hm
   refine gs 42 rfl (fun h1_3 => ?_) fun h1_3 => ?_
   ·
    exact gct rfl (gS (gR (gA rfl (gE (gRt (gLr ho0_2 hq0_1 (gr1 results16 rfl ⟨rfl, hm.below⟩)))))))
   refine gcf rfl (gSk (gS (gR (gA rfl (gE (gBk (gNf hm (fun i2_1 xs2_1 => [(1, (pV b0_1)), (3, (nV xs2_1)), (4, (nV i1_1)), (5, (pV b1_2)), (6, (nV i2_1))]) (fun i2_1 xs2_1 => [blk b0_1 [(sV b1_1 o1_1 u.codes.length c0_1)] 25, blk b1_2 [(nV x1_1.params), (nV x1_1.regs), v1_1] 45]) [0, 1] rfl ?_ ?_)))))))
   ·
    repeat clear hm
    intro r1_1 hq1_2 i2_1 xs2_1 w hm hi1_1 hi1_2 q1_1 ho1_1
    refine gS (gS (gR (gM rfl (gF fo_45_2 rfl (gL hm 1 isAgg43 rfl ?_)))))
    obtain ⟨p2_2, c2_2, rfl, hl2_2⟩ := ro_slice h1_2
    refine gY (yV st_43 rfl) (gB rfl (gE (go _ 47 rfl (decide_eq_true (by omega)) (gct rfl (gSk (gS (gBk (gS (gW (.p 0 (.p 1 (.p 3 (.p 9 (.p 11 (.q 2 (.p 4 (.p 5 (.q 6 (.p 7 (.p 8 (.e 10 (.p 12 (.p 13 (.e 14 (.p 15 (.p 16 (.p 17 .fin))) .nil))) .nil)))))))))))) [10, 14] [0, 1, 3, 4, 5, 7, 8, 9, 11, 12, 13, 15, 16, 17] hm [0, 1] [blk b0_1 [(sV b1_1 o1_1 u.codes.length c0_1)] 25, blk b1_2 [(nV x1_1.params), (nV x1_1.regs), (.slice p2_2 x1_1.blocks.length c2_2)] 45] rfl mxo (by kernel_rfl) (fun _ _ _ h => h.2) fun w hm hS => tP rfl (fun w => yM rfl) (tP rfl (fun w => yF fo_45_2 rfl) (tP rfl (fun w => yM rfl) (tP rfl (fun w => yF fo_45_2 rfl) (tP rfl (fun w => yM rfl) (tQ rfl hS (fun w hm => yL hm 1 isAgg43 rfl) (gg fun x2_1 h2_3 hx2_5 => ?_)))))))))))))))
    obtain ⟨b2_1, o2_1, c2_3, he⟩ := idx_form' h1_2 hx2_5
    simp only [Value.slice.injEq, Option.some.injEq] at he; obtain ⟨rfl, _, rfl⟩ := he
    obtain ⟨v2_4, v2_5, v2_6, hc2_1, h2_4, h2_5, h2_6⟩ := rk_Block_ h1_2 hx2_5
    refine tP rfl (fun w => yI st_43 h2_3 (idx_lt hx2_5) rfl) (tP rfl (fun w => yF fo_65_1 rfl) (tQ rfl hS (fun w hm => yl isAgg63 ((hc2_1.mono hm.lez).cell (j := 1) rfl) rfl) ?_))
    obtain ⟨p2_3, c2_4, rfl, hl2_3⟩ := ro_slice h2_5
    refine tP rfl (fun w => yV st_63 rfl) (tP rfl (fun w => yB rfl) (tO (tY rfl (yL hm 1 isAgg43 rfl) (tAs hS (tP rfl (fun w => yI st_43 h2_3 (idx_lt hx2_5) rfl) (tP rfl (fun w => yF fo_65_0 rfl) (tO (tY rfl (yl isAgg62 ((hc2_1.mono hm.lez).cell (j := 0) rfl) rfl) (tAs hS ?_)))))))))
    obtain ⟨p2_4, c2_5, rfl, hl2_4⟩ := ro_slice h2_4
    refine tP rfl (fun w => yV st_62 rfl) (tP rfl (fun w => yB rfl) (tP rfl (fun w => yA rfl) (tE (gS (gJ hm (fun s2_1 => [(1, (pV b0_1)), (3, (nV (w64 ((w64 (xs2_1 + ((x2_1.ins.length : Int)))) + ((x2_1.phis.length : Int)))))), (4, (nV i1_1)), (5, (pV b1_2)), (6, (nV i2_1)), (75, (.bool (s2_1)))]) (fun s2_1 => [blk b0_1 [(sV b1_1 o1_1 u.codes.length c0_1)] 25, blk b1_2 [(nV x1_1.params), (nV x1_1.regs), (sV b2_1 o2_1 x1_1.blocks.length c2_2)] 45]) (fun s2_1 => ?_) ?_)))))
    ·
     refine gR (gM rfl (gB rfl (gM rfl (gsd 69 rfl (fun h3_1 => ?_) fun h3_1 => ?_))))
     ·
      exact gO rfl (gO rfl (gO rfl (gO rfl (gO rfl (gKt rfl (gE (gz hm [0, 1] rfl)))))))
     exact gY (yn (hm.blk_at 0 rfl) isAgg25 sizeOf25 rfl) (gM rfl (gM rfl (gC hm rfl call32 (spec_l7Block_ok _ u (sV b1_1 o1_1 u.codes.length c0_1) (hm.now h1) i1_1 i2_1) fun r3_1 hx3_1 w hm => gN rfl (gKf rfl (gE (gz hm [0, 1] rfl))))))
    repeat clear hm
    intro s2_1 w hm
    refine gs 75 rfl (fun h2_7 => ?_) fun h2_7 => ?_
    ·
     exact gct rfl (gS (gR (gA rfl (gE (gRt (gLr ho1_1 hq1_2 (gLr ho0_2 hq0_1 (gr1 results16 rfl ⟨rfl, hm.below⟩))))))))
    exact gcf rfl (gSk (gR (gM rfl (gP (by omega) (by omega) rfl (gA rfl (gE (gze hm [0, 1] rfl)))))))
   repeat clear hm
   intro i1_2 xs1_2 w hm hi1_3 hi1_4
   refine gS (gS (gR (gM rfl (gF fo_45_2 rfl (gL hm 1 isAgg43 rfl ?_)))))
   obtain ⟨p1_1, c1_2, rfl, hl1_1⟩ := ro_slice h1_2
   exact gY (yV st_43 rfl) (gB rfl (gE (go _ 47 rfl (decide_eq_false (by omega)) (gcf rfl (gXt (gHh (gR (gM rfl (gP (by omega) (by omega) rfl (gA rfl (gE (gze hm [0] rfl))))))))))))
  repeat clear hm
  intro i0_1 xs0_1 w hm hi0_3 hi0_4
  exact gS (gS (gR (gM rfl (gF fo_25_0 rfl (gL hm 0 isAgg23 rfl (gY (yV st_23 rfl) (gB rfl (gE (go _ 16 rfl (decide_eq_false (by omega)) (gcf rfl (gXt (gHh (gS (gR (gA rfl (gE (gRt (gr1 results16 rfl ⟨rfl, hm.below⟩))))))))))))))))))

theorem spec_l5Inputs_ok (w0 : World) (n_ : Int) :
    ConM Tryd.prog 17 [(nV n_)] w0 (spec_l5Inputs n_) fun r v w' => ∃ (x1 : Value), v = x1 ∧ Mem w0 (hp w0) w' [ow [x1] r] := by
  unfold spec_l5Inputs
  refine gcon func17 rfl fun r => ?_
  have hm := Mem.start w0
  refine gS (gR (gA rfl (gE (gS (gR (gf rfl (fun a hf => e_build (vs := #[(0, (nV 0)), (1, (nV 0)), (2, (nV 0))]) (cs := [(nV 0), (nV 0), (nV 0)]) et_29 hf hm rfl rfl (by kernel_rfl) rfl rfl) ?_))))))
  rintro _ w ⟨b0_1, rfl, hm⟩
  replace hm := hm.lit (xs := ([0, 0, 0] : List Int)) 0 rfl rfl rfl rfl
  refine gf rfl (fun a hf => e_build (vs := #[(0, (nV 1)), (1, (nV 2)), (2, (nV 3))]) (cs := [(nV 1), (nV 2), (nV 3)]) et_29 hf hm rfl rfl (by kernel_rfl) rfl rfl) ?_
  rintro _ w ⟨b0_2, rfl, hm⟩
  replace hm := hm.lit (xs := ([1, 2, 3] : List Int)) 0 rfl rfl rfl rfl
  refine gf rfl (fun a hf => e_build (vs := #[(0, (nV 255)), (1, (nV 16)), (2, (nV 7))]) (cs := [(nV 255), (nV 16), (nV 7)]) et_29 hf hm rfl rfl (by kernel_rfl) rfl rfl) ?_
  rintro _ w ⟨b0_3, rfl, hm⟩
  replace hm := hm.lit (xs := ([255, 16, 7] : List Int)) 0 rfl rfl rfl rfl
  refine gf rfl (fun a hf => e_build (vs := #[(0, (sV b0_1 0 3 3)), (1, (sV b0_2 0 3 3)), (2, (sV b0_3 0 3 3))]) (cs := [(sV b0_1 0 3 3), (sV b0_2 0 3 3), (sV b0_3 0 3 3)]) et_27 hf hm rfl rfl (by kernel_rfl) rfl rfl) ?_
  rintro _ w ⟨b0_4, rfl, hm⟩
  replace hm := hm.els_nil (α := List Int)
  replace hm := hm.imp (c' := ow [(sV b0_3 0 3 3)] (([255, 16, 7] : List Int) : List Int)) 2 rfl (fun F h0 => h0)
  replace hm := (hm.els_cons 0 2 (by decide) rfl rfl).pk (L' := [els [(sV b0_3 0 3 3)] ([([255, 16, 7] : List Int)] : List (List Int)), blk b0_4 [(sV b0_1 0 3 3), (sV b0_2 0 3 3), (sV b0_3 0 3 3)] 29, ow [(sV b0_2 0 3 3)] ([1, 2, 3] : List Int), ow [(sV b0_1 0 3 3)] ([0, 0, 0] : List Int)]) [0, 1, 3, 4] rfl rfl
  replace hm := hm.imp (c' := ow [(sV b0_2 0 3 3)] (([1, 2, 3] : List Int) : List Int)) 2 rfl (fun F h0 => h0)
  replace hm := (hm.els_cons 0 2 (by decide) rfl rfl).pk (L' := [els [(sV b0_2 0 3 3), (sV b0_3 0 3 3)] ([([1, 2, 3] : List Int), ([255, 16, 7] : List Int)] : List (List Int)), blk b0_4 [(sV b0_1 0 3 3), (sV b0_2 0 3 3), (sV b0_3 0 3 3)] 29, ow [(sV b0_1 0 3 3)] ([0, 0, 0] : List Int)]) [0, 1, 3] rfl rfl
  replace hm := hm.imp (c' := ow [(sV b0_1 0 3 3)] (([0, 0, 0] : List Int) : List Int)) 2 rfl (fun F h0 => h0)
  replace hm := (hm.els_cons 0 2 (by decide) rfl rfl).pk (L' := [els [(sV b0_1 0 3 3), (sV b0_2 0 3 3), (sV b0_3 0 3 3)] ([([0, 0, 0] : List Int), ([1, 2, 3] : List Int), ([255, 16, 7] : List Int)] : List (List Int)), blk b0_4 [(sV b0_1 0 3 3), (sV b0_2 0 3 3), (sV b0_3 0 3 3)] 29]) [0, 1] rfl rfl
  replace hm := (hm.lit_els 1 0 (by decide) rfl rfl rfl rfl).pk (L' := [ow [(sV b0_4 0 3 3)] ([([0, 0, 0] : List Int), ([1, 2, 3] : List Int), ([255, 16, 7] : List Int)] : List (List Int))]) [1] rfl rfl
  refine gA rfl (gE (gS (gR (gf rfl (fun a hf => e_build0 (α := List Int) et_27 hm rfl) ?_))))
  rintro v0_1 w hm
  refine gA rfl (gE (gS (gS (gR (gA rfl (gE ?_))))))
  obtain ⟨p0_1, c0_1, rfl, hl0_1⟩ := ro_slice (hm.ow_rep 0 rfl)
  refine gBk (gNg (fun i1_1 xs1_1 a w => ∃ (v1_1 : Value), St 29 [(0, (nV n_)), (3, (sV b0_4 0 3 3)), (4, v1_1), (5, (nV i1_1))] w0 (hp w0) [ow [(sV b0_4 0 3 3)] ([([0, 0, 0] : List Int), ([1, 2, 3] : List Int), ([255, 16, 7] : List Int)] : List (List Int)), ow [v1_1] xs1_1] a w) (fun a hf => ⟨(.slice p0_1 ([] : List (List Int)).length c0_1), hf.sb rfl, hm.pk [1, 0] rfl rfl⟩) ?_ ?_)
  ·
   repeat clear hm
   rintro _ _ i1_1 xs1_1 a w ⟨v1_1, hf, hm⟩ hi0_1 hi0_2 q0_1 _
   refine gv hf (gS (gS (gR (gM rfl (gM rfl ?_)))))
   have hl1_1 := rep_len (hm.ow_rep 0 rfl)
   refine gY (yV st_27 rfl) (gB rfl (gE (go _ 14 rfl (decide_eq_true (by omega)) (gct rfl (gSk (gS (gBk (gR (gM rfl (gf rfl (fun a hf => e_build0 (α := Int) et_29 hm rfl) ?_))))))))))
   rintro v1_2 w hm
   refine gM rfl (gM rfl (gg fun x1_1 h1_1 hx1_2 => ?_))
   obtain ⟨_, _, hc1_1, hr1_1⟩ := ro_get' (hm.ow_rep 1 rfl) hx1_2
   have h1_2 := hr1_1
   obtain ⟨v1_3, rfl, -⟩ := id h1_2
   replace h1_2 : GT.rep (hp _) [v1_3] x1_1 := h1_2
   replace hc1_1 : CellsAt (hp _) b0_4 (0 + (i1_1).toNat * 1) [v1_3] := hc1_1
   have hL1_1 := rep_slice_len (hm.ow_rep 1 rfl)
   refine gI st_27 h1_1 (idx_lt2 hx1_2 hL1_1) rfl (gY (yl isAgg29 (hc1_1.cell (j := 0) rfl) rfl) (gM rfl (gb fun x1_2 hx1_3 => ?_)))
   obtain ⟨h1_3, h1_3e⟩ := subM_some.1 hx1_3
   have hr1_2 := h1_2
   obtain ⟨v1_4, hy1_1⟩ : ∃ nv, nv = subV (GT.sz (Int)) v1_3 (0 : Int).toNat (n_ : Int).toNat := ⟨_, rfl⟩
   refine gY (yG rfl (yl_eq hy1_1 (y_slcH (α := Int) st_29 hr1_2 rfl rfl rfl h1_3 _))) (gb fun ys1_1 hx1_4 => ?_)
   obtain ⟨h1_5, h1_5e⟩ := appM_some.1 hx1_4
   refine gf rfl (fun a hf => e_append 0 et_29 hf hm rfl (view_rep hy1_1 h1_3e h1_3 h1_2) rfl rfl rfl h1_5) ?_
   rintro v1_5 w hm
   rw [h1_5e] at hm
   obtain ⟨p1_1, c1_1, rfl, hl1_2⟩ := ro_slice (hm.ow_rep 0 rfl)
   refine gf rfl (fun a hf => e_build (vs := #[(0, (.slice p1_1 ys1_1.length c1_1))]) (cs := [(.slice p1_1 ys1_1.length c1_1)]) et_27 hf hm rfl rfl (by kernel_rfl) rfl rfl) ?_
   rintro _ w ⟨b1_1, rfl, hm⟩
   replace hm := hm.els_nil (α := List Int)
   replace hm := hm.imp (c' := ow [(.slice p1_1 ys1_1.length c1_1)] (ys1_1 : List Int)) 2 rfl (fun F h0 => h0)
   replace hm := (hm.els_cons 0 2 (by decide) rfl rfl).pk (L' := [els [(.slice p1_1 ys1_1.length c1_1)] ([ys1_1] : List (List Int)), blk b1_1 [(.slice p1_1 ys1_1.length c1_1)] 29, ow [(sV b0_4 0 3 3)] ([([0, 0, 0] : List Int), ([1, 2, 3] : List Int), ([255, 16, 7] : List Int)] : List (List Int)), ow [v1_1] xs1_1]) [0, 1, 3, 4] rfl rfl
   replace hm := (hm.lit_els 1 0 (by decide) rfl rfl rfl rfl).pk (L' := [ow [(sV b1_1 0 1 1)] ([ys1_1] : List (List Int)), ow [(sV b0_4 0 3 3)] ([([0, 0, 0] : List Int), ([1, 2, 3] : List Int), ([255, 16, 7] : List Int)] : List (List Int)), ow [v1_1] xs1_1]) [1, 2, 3] rfl rfl
   refine gb fun ys1_2 hx1_5 => ?_
   obtain ⟨h1_6, h1_6e⟩ := appM_some.1 hx1_5
   replace hm := (hm.both 2 0 (by decide) rfl rfl).pk (L' := [ow [(sV b0_4 0 3 3)] ([([0, 0, 0] : List Int), ([1, 2, 3] : List Int), ([255, 16, 7] : List Int)] : List (List Int)), both (ow [v1_1] xs1_1) (ow [(sV b1_1 0 1 1)] ([ys1_1] : List (List Int)))]) [1, 2] rfl rfl
   refine gf rfl (fun a hf => e_appendD (xs := xs1_1) (ys := ([ys1_1] : List (List Int))) 1 et_27 hf hm rfl rfl rfl rfl h1_6) ?_
   rintro v1_6 w hm
   rw [h1_6e] at hm
   exact gA rfl (gE (gR (gM rfl (gP (by omega) (by omega) rfl (gA rfl (gE (gZe fun a hf => ⟨v1_6, hf.sb rfl, hm.pk [0, 1] rfl rfl⟩)))))))
  repeat clear hm
  rintro i0_1 xs0_1 a w ⟨v0_2, hf, hm⟩ hi0_3 hi0_4
  refine gv hf (gS (gS (gR (gM rfl (gM rfl ?_)))))
  have hl0_2 := rep_len (hm.ow_rep 0 rfl)
  exact gY (yV st_27 rfl) (gB rfl (gE (go _ 14 rfl (decide_eq_false (by omega)) (gcf rfl (gXt (gHh (gS (gR (gM rfl (gA rfl (gE (gRt (gr1 results17 rfl ⟨v0_2, rfl, hm.pk [1] rfl rfl⟩)))))))))))))

theorem spec_NumbersFor_ok (w0 : World) (u : Unit_) (v1 : Value) (h1 : GT.rep (hp w0) [v1] u.codes) :
    ConM Tryd.prog 6 [(.agg #[v1])] w0 (spec_NumbersFor u) fun r v w' => ∃ (x1 : Value), v = x1 ∧ Mem w0 (hp w0) w' [ow [x1] r] := by
  unfold spec_NumbersFor
  refine gcon func6 rfl fun r => ?_
  have hm := Mem.start w0
  refine gS (gR (gBx hm rfl fun b0_1 w hm => gA rfl (gE (gS (gS (gR (gY (yn (hm.blk_at 0 rfl) isAgg25 sizeOf25 rfl) (gC hm rfl call16 (spec_UnitValid_ok _ u v1 (hm.now h1)) fun r0_1 hx0_1 w hm => gN rfl (gE (gsn 6 rfl (fun h0_1 => ?_) fun h0_1 => ?_))))))))))
  ·
   refine gct rfl (gS (gR (gf rfl (fun a hf => e_build0 (α := List Int) et_27 hm rfl) ?_)))
   rintro v0_2 w hm
   exact gA rfl (gE (gRt (gr1 results6 rfl ⟨v0_2, rfl, hm.pk [0] rfl rfl⟩)))
  refine gcf rfl (gSk (gS (gR (gF fo_25_0 rfl (gL hm 0 isAgg23 rfl (gF fo_25_0 rfl (gL hm 0 isAgg23 rfl ?_)))))))
  obtain ⟨p0_1, c0_1, rfl, hl0_1⟩ := ro_slice h1
  refine gY (yV st_23 rfl) (gY (yS (by omega) (by omega) rfl) (gg fun x0_1 h0_2 hx0_3 => ?_))
  obtain ⟨b0_2, o0_1, c0_2, he⟩ := idx_form' h1 hx0_3
  simp only [Value.slice.injEq, Option.some.injEq] at he; obtain ⟨rfl, _, rfl⟩ := he
  obtain ⟨v0_3, hc0_1, h0_3⟩ := rk_Code_ h1 hx0_3
  refine gI st_23 h0_2 (idx_lt hx0_3) rfl (gF fo_45_0 rfl (gY (yl isAgg3 ((hc0_1.mono hm.lez).cell (j := 0) rfl) rfl) (gA rfl (gE (gS (gR (gM rfl (gCg rfl call17 (spec_l5Inputs_ok _ x0_1.params) ?_))))))))
  rintro r0_2 hx0_4 v0_4 w ⟨_, rfl, hB⟩
  replace hm := hm.give hB; clear hB
  exact gA rfl (gE (gRt (gr1 results6 rfl ⟨v0_4, rfl, hm.pk [0] rfl rfl⟩)))

theorem impl_bytesOk_1_ok (w0 : World) (v_ : Int) :
    ConM Tryd.prog 54 [(nV v_)] w0 (impl_bytesOk_1 v_) fun r v w' => v = (.bool (r)) ∧ Below w0.heap.size w0 w' := by
  unfold impl_bytesOk_1
  refine gcon func54 rfl fun r => ?_
  have hm := Mem.start w0
  exact gS (gR (gA rfl (gE (gS (gR (gM rfl (gC hm rfl call55 (impl_isByte_ok _ v_) fun r0_1 hx0_1 w hm => gN rfl (gA rfl (gE (gRt (gr1 results54 rfl ⟨rfl, hm.below⟩)))))))))))

theorem impl_bytesOk_ok (w0 : World) (in_ : List Int) (v1 : Value) (h1 : GT.rep (hp w0) [v1] in_) (n_ : Int) :
    ConM Tryd.prog 33 [v1, (nV n_)] w0 (impl_bytesOk in_ n_) fun r v w' => v = (.bool (r)) ∧ Below w0.heap.size w0 w' := by
  unfold impl_bytesOk
  refine gcon func33 rfl fun r => ?_
  have hm := Mem.start w0
  refine gS (gR (gA rfl (gE (gS (gJ hm (fun s0_1 => [(4, (.bool (s0_1)))]) (fun s0_1 => []) (fun s0_1 => ?_) ?_)))))
  ·
   refine gR (gM rfl ?_)
   obtain ⟨p1_1, c1_1, rfl, hl1_1⟩ := ro_slice h1
   refine gY (yV st_29 rfl) (gM rfl (gB rfl (gM rfl (gsd 9 rfl (fun h1_1 => ?_) fun h1_1 => ?_))))
   ·
    exact gM rfl (gC hm rfl call42 (slices_ContainsFunc_S_int_int_ok _ in_ (.slice p1_1 in_.length c1_1) (hm.now h1) (fun y0 => impl_bytesOk_1 y0) (.func (.func 54) #[] #[]) (fun w y0 r hB hq => ⟨54, [], rfl, call54, impl_bytesOk_1_ok w y0  r hq⟩)) fun r1_1 hx1_1 w hm => gN rfl (gKt rfl (gA rfl (gE (gz hm [] rfl)))))
   exact gO rfl (gO rfl (gO rfl (gKf rfl (gA rfl (gE (gz hm [] rfl))))))
  repeat clear hm
  intro s0_1 w hm
  exact gRt (gr1 results33 rfl ⟨rfl, hm.below⟩)

theorem impl_unitRuns_ok (w0 : World) (u : Unit_) (v1 : Value) (h1 : GT.rep (hp w0) [v1] u.codes) (in_ : List Int) (v2 : Value) (h2 : GT.rep (hp w0) [v2] in_) (steps : Int) :
    ConM Tryd.prog 18 [(.agg #[v1]), v2, (nV steps)] w0 (impl_unitRuns u in_ steps) fun r v w' => v = (.bool (r)) ∧ Below w0.heap.size w0 w' := by
  unfold impl_unitRuns
  refine gcon func18 rfl fun r => ?_
  have hm := Mem.start w0
  refine gS (gR (gBx hm rfl fun b0_1 w hm => gA rfl (gE (gS (gJ hm (fun s0_1 => [(6, (.bool (s0_1)))]) (fun s0_1 => []) (fun s0_1 => ?_) ?_)))))
  ·
   refine gR (gY (yn (hm.blk_at 0 rfl) isAgg25 sizeOf25 rfl) (gC hm rfl call11 (impl_UnitValid_ok _ u v1 (hm.now h1)) fun r1_1 hx1_1 w hm => gM rfl (gs 9 rfl (fun h1_1 => ?_) fun h1_1 => ?_)))
   ·
    refine gM rfl (gY (yn (hm.blk_at 0 rfl) isAgg25 sizeOf25 rfl) (gC hm rfl call15 (impl_mainParams_ok _ u v1 (hm.now h1)) fun r1_2 hx1_2 w hm => gC hm rfl call33 (impl_bytesOk_ok _ in_ v2 (hm.now h2) r1_2) fun r1_3 hx1_3 w hm => gKt rfl (gM rfl (gs 15 rfl (fun h1_2 => ?_) fun h1_2 => ?_))))
    ·
     exact gM rfl (gC hm rfl call24 (impl_within_ok _ steps 0 60000) fun r1_4 hx1_4 w hm => gKt rfl (gA rfl (gE (gz hm [] rfl))))
    exact gO rfl (gO rfl (gKf rfl (gA rfl (gE (gz hm [] rfl)))))
   exact gO rfl (gO rfl (gO rfl (gO rfl (gKf rfl (gM rfl (gO rfl (gO rfl (gKf rfl (gA rfl (gE (gz hm [] rfl)))))))))))
  repeat clear hm
  intro s0_1 w hm
  exact gRt (gr1 results18 rfl ⟨rfl, hm.below⟩)

theorem pimpl_running__code_1_ok (w0 : World) (f : Phi_) (v1 : Value) (h1 : GT.rep (hp w0) [v1] f.args) (c0_ : List Int) (v2 : Value) (h2 : GT.rep (hp w0) [v2] c0_) (bf0 : Nat) (hbf0 : w0.heap[bf0]? = some (.cells ([v2] : List Value).toArray 29 (0, 0))) (c1_ : Int) (bf1 : Nat) (hbf1 : w0.heap[bf1]? = some (.cells ([(nV c1_)] : List Value).toArray 3 (0, 0))) :
    ConM Tryd.prog 59 [(.agg #[(nV f.to), v1]), (pV bf0), (pV bf1)] w0 (pimpl_running__code_1 f c0_ c1_) fun r v w' => v = (nV r) ∧ Below w0.heap.size w0 w' := by
  unfold pimpl_running__code_1
  refine gcon func59 rfl fun r => ?_
  have hm := Mem.start w0
  refine gS (gR (gBx hm rfl fun b0_1 w hm => gA rfl (gE (gS (gW (.p 1 (.q 0 (.q 2 (.e 3 (.p 4 (.e 5 (.p 6 (.e 7 (.p 8 .fin) .nil)) .nil)) .nil)))) [0, 2, 3, 5] [1, 4, 6, 8] hm [0] [blk b0_1 [(nV f.to), v1] 70] rfl mxo (by kernel_rfl) (fun _ _ _ h => h.2) fun w hm hS => tP rfl (fun w => yF fo_70_1 rfl) (tQ rfl hS (fun w hm => yl isAgg29 (hm.old_cell hbf0 rfl) rfl) (tQ rfl hS (fun w hm => yL hm 0 isAgg29 rfl) (tO (tY rfl (yl isAgg3 (hm.old_cell hbf1 rfl) rfl) (tAs hS (gg fun x0_1 h0_1 hx0_2 => ?_)))))))))))
  obtain ⟨b0_2, o0_1, c0_1, he⟩ := idx_form h1 hx0_2
  subst he
  refine tP rfl (fun w => yI st_29 h0_1 (idx_lt hx0_2) rfl) (tO (tY rfl (yl isAgg3 ((flat_cells (cs := [(nV x0_1)]) (hm.now h1) hx0_2 rfl).cell (j := 0) rfl) rfl) (tAs hS (gg fun x0_2 h0_2 hx0_4 => ?_))))
  obtain ⟨b0_3, o0_2, c0_2, he⟩ := idx_form h2 hx0_4
  subst he
  exact tP rfl (fun w => yI st_29 h0_2 (idx_lt hx0_4) rfl) (tO (tY rfl (yl isAgg3 ((flat_cells (cs := [(nV x0_2)]) (hm.now h2) hx0_4 rfl).cell (j := 0) rfl) rfl) (tAn rfl (tP rfl (fun w => yA rfl) (tE (gRt (gr1 results59 rfl ⟨rfl, hm.below⟩)))))))

theorem impl_mapped_impl_Phi_int_ok (w0 : World) (list : List Phi_) (v1 : Value) (h1 : GT.rep (hp w0) [v1] list) (f : Phi_ → Option Int) (fv1 : Value) (hfn1 : ∀ (w : World) (y0 : Phi_) (z1 : Value) (_ : GT.rep (hp w) [z1] y0.args) (r : Int), Below w0.heap.size w0 w → f y0 = some r → FnOk Tryd.prog fv1 [(.agg #[(nV y0.to), z1])] w (fun v w' => v = (nV r) ∧ Below w.heap.size w w')) :
    ConM Tryd.prog 58 [v1, fv1] w0 (impl_mapped_impl_Phi_int list f) fun r v w' => ∃ (x1 : Value), v = x1 ∧ Mem w0 (hp w0) w' [ow [x1] r] := by
  unfold impl_mapped_impl_Phi_int
  refine gcon func58 rfl fun r => ?_
  have hm := Mem.start w0
  refine gS (gR (gA rfl (gE (gS (gR (gA rfl (gE (gS (gS (gR (gM rfl ?_)))))))))))
  obtain ⟨p0_1, c0_1, rfl, hl0_1⟩ := ro_slice h1
  refine gY (yV st_62 rfl) (gM rfl (gE (gBk ?_)))
  replace hm := hm.nilow (α := Int)
  refine gNg (fun i1_1 xs1_1 a w => ∃ (v1_1 : Value), St 22 [(1, fv1), (5, v1_1), (8, (.slice p0_1 list.length c0_1)), (9, (nV ((list.length : Int)))), (10, (nV i1_1))] w0 (hp w0) [ow [v1_1] xs1_1] a w) (fun a hf => ⟨(.slice none 0 0), hf.sb rfl, hm.pk [0] rfl rfl⟩) ?_ ?_
  ·
   repeat clear hm
   rintro _ _ i1_1 xs1_1 a w ⟨v1_1, hf, hm⟩ hi0_1 hi0_2 q0_1 _
   refine gv hf (gS (gR (gB rfl (gE (gS (go _ 11 rfl (decide_eq_true (by omega)) (gct rfl (gSk (gS (gBk (gS (gR (gg fun x1_1 h1_1 hx1_2 => ?_)))))))))))))
   obtain ⟨b1_1, o1_1, c1_1, he⟩ := idx_form' h1 hx1_2
   simp only [Value.slice.injEq, Option.some.injEq] at he; obtain ⟨rfl, _, rfl⟩ := he
   obtain ⟨v1_2, hc1_1, h1_2⟩ := rk_Phi_ h1 hx1_2
   refine gI st_62 h1_1 (idx_lt hx1_2) rfl (gY (yn (hc1_1.mono hm.lez) isAgg70 sizeOf70 rfl) (gAl hm zeroValue70 rfl fun b1_2 w hm => gSN hm 0 sizeOf70 (one_cons rfl (one_cons (rep_one h1_2) one_nil)) rfl fun w hm => gE (gR (gM rfl (gM rfl (gY (yn (hm.blk_at 0 rfl) isAgg70 sizeOf70 rfl) (gb fun r1_1 hx1_3 => gf rfl (fun a hf => e_callv hf rfl rfl rfl (hfn1 _ x1_1 v1_2 (hm.now h1_2) _ hm.below hx1_3)) ?_)))))))
   rintro v1_3 w ⟨rfl, hB⟩
   replace hm := hm.below' hB; clear hB
   refine gf rfl (fun a hf => e_build (vs := #[(0, (nV r1_1))]) (cs := [(nV r1_1)]) et_29 hf hm rfl rfl (by kernel_rfl) rfl rfl) ?_
   rintro _ w ⟨b1_3, rfl, hm⟩
   replace hm := hm.lit (xs := ([r1_1] : List Int)) 0 rfl rfl rfl rfl
   refine gb fun ys1_1 hx1_4 => ?_
   obtain ⟨h1_3, h1_3e⟩ := appM_some.1 hx1_4
   refine gf rfl (fun a hf => e_append 2 et_29 hf hm rfl (hm.ow_rep 0 rfl) rfl rfl rfl h1_3) ?_
   rintro v1_4 w hm
   rw [h1_3e] at hm
   exact gA rfl (gE (gR (gP (by omega) (by omega) rfl (gM rfl (gE (gZe fun a hf => ⟨v1_4, hf.sb rfl, hm.pk [2] rfl rfl⟩))))))
  repeat clear hm
  rintro i0_1 xs0_1 a w ⟨v0_1, hf, hm⟩ hi0_3 hi0_4
  exact gv hf (gS (gR (gB rfl (gE (gS (go _ 11 rfl (decide_eq_false (by omega)) (gcf rfl (gXt (gHh (gS (gR (gM rfl (gA rfl (gE (gRt (gr1 results58 rfl ⟨v0_1, rfl, hm.pk [0] rfl rfl⟩))))))))))))))))

theorem impl_stop_ok (w0 : World) (end_ : Int) :
    ConXM Tryd.prog 81 [(nV end_)] w0 (impl_stop end_) (fun r v w' => ∃ q, r = .inl q ∧ (v = (.tuple #[]) ∧ Below w0.heap.size w0 w')) fun r c w' => ∃ q, r = .inr q ∧ (c = pch 94 q ∧ Below w0.heap.size w0 w') := by
  unfold impl_stop
  refine gconx func81 rfl fun r => ?_
  have hm := Mem.start w0
  refine gR (gM rfl (gY (yG rfl (y_makeIface underlying94 rfl rfl)) (gfx0 rfl (fun a hf => e_panic hf rfl rfl) ?_ (fun _ _ h => h.elim))))
  rintro c w ⟨rfl, rfl⟩
  exact gth ⟨_, rfl, rfl, hm.below⟩

theorem pimpl_running__tick_ok (w0 : World) (hz : Heap) (m : running) (bp0 : Nat) (v1p : Value) (h1p : GT.rep hz [v1p] m.u.codes) (v2p : Value) (v3p : Value) (hm0 : Mem w0 hz w0 [blk bp0 (v1p :: (nV m.steps) :: (nV m.used) :: v2p :: q16 m.cells [v3p]) 80, ow [v2p] m.said, ow [v3p] m.trace]) :
    ConXM Tryd.prog 61 [(pV bp0)] w0 (pimpl_running__tick m) (fun r v w' => ∃ q, r = .inl q ∧ (∃ (x2 : Value) (x3 : Value), v = (.tuple #[]) ∧ Mem w0 hz w' [blk bp0 (v1p :: (nV q.steps) :: (nV q.used) :: x2 :: q16 q.cells [x3]) 80, ow [x2] q.said, ow [x3] q.trace])) fun r c w' => ∃ q, r = .inr q ∧ (∃ (x2 : Value) (x3 : Value), c = pch 94 q.1 ∧ Mem w0 hz w' [blk bp0 (v1p :: (nV q.2.steps) :: (nV q.2.used) :: x2 :: q16 q.2.cells [x3]) 80, ow [x2] q.2.said, ow [x3] q.2.trace]) := by
  unfold pimpl_running__tick
  refine gconx func61 rfl fun r => ?_
  have hm := hm0
  refine gS (gS (gWx (.p 0 (.p 1 (.p 2 (.p 4 (.p 5 (.p 6 (.q 3 (.e 7 (.p 8 .fin) .nil)))))))) [7] [0, 1, 2, 4, 5, 6, 8] hm [0, 1, 2] [blk bp0 (v1p :: (nV m.steps) :: (nV m.used) :: v2p :: q16 m.cells [v3p]) 80, ow [v2p] m.said, ow [v3p] m.trace] rfl mxo (by kernel_rfl) (fun _ _ _ _ e h => ⟨e.symm.trans h.1, h.2⟩) fun w hm hS => tP rfl (fun w => yM rfl) (tP rfl (fun w => yG rfl (y_nilptr rfl rfl)) (tP rfl (fun w => yF fo_80_2 rfl) (tP rfl (fun w => yM rfl) (tP rfl (fun w => yG rfl (y_nilptr rfl rfl)) (tP rfl (fun w => yF fo_80_1 rfl) (tQ rfl hS (fun w hm => yL hm 0 isAgg3 rfl) (tO (tY rfl (yL hm 0 isAgg3 rfl) (tAs hS (tP rfl (fun w => yB rfl) (tE (gJe hm (fun s0_1 => [(0, (pV bp0))]) (fun s0_1 => [blk bp0 (v1p :: (nV m.steps) :: (nV m.used) :: v2p :: q16 m.cells [v3p]) 80, ow [v2p] m.said, ow [v3p] m.trace]) (fun c0_1 hq0_1 => ?_) ?_))))))))))))))
  ·
   refine gsd 10 rfl (fun h1_1 => ?_) fun h1_1 => ?_
   ·
    refine gct rfl (gR (gb fun r1_1 hx1_1 => gfx rfl (fun a hf => e_callx hf rfl call81 rfl (impl_stop_ok _ 3 _ hx1_1)) ?_ ?_))
    ·
     rintro c w ⟨q1_2, rfl, ho1_1⟩
     obtain ⟨rfl, hB⟩ := ho1_1
     replace hm := hm.below' hB; clear hB
     exact gr (gEr hq0_1 (gth ⟨_, rfl, v2p, v3p, rfl, hm.pk [0, 1, 2] rfl rfl⟩))
    rintro v1_1 w ⟨q1_1, rfl, ho1_1⟩
    obtain ⟨rfl, hB⟩ := ho1_1
    replace hm := hm.below' hB; clear hB
    exact gl (gE (gze hm [0, 1, 2] rfl))
   exact gcf rfl (gSk (gze hm [0, 1, 2] rfl))
  repeat clear hm
  intro s0_1 w hm
  exact gR (gM rfl (gY (yG rfl (y_nilptr rfl rfl)) (gF fo_80_2 rfl (gL hm 0 isAgg3 rfl (gB rfl (gY (yG rfl (y_nilptr rfl rfl)) (gF fo_80_2 rfl (gS1 hm 0 sizeOf3 rfl rfl fun w hm => gE (gxn (gre results61 ⟨_, rfl, ⟨v2p, v3p, rfl, hm.pk [0, 1, 2] rfl rfl⟩⟩))))))))))

theorem pimpl_running__doIns_1_ok (w0 : World) (i_ : Int) (c0_ : List Int) (v1 : Value) (h1 : GT.rep (hp w0) [v1] c0_) (bf0 : Nat) (hbf0 : w0.heap[bf0]? = some (.cells ([v1] : List Value).toArray 29 (0, 0))) (c1_ : Ins_) (v2 : Value) (h2 : GT.rep (hp w0) [v2] c1_.args) (bf1 : Nat) (hbf1 : w0.heap[bf1]? = some (.cells ([(nV c1_.op), (nV c1_.to), v2, (nV c1_.n_)] : List Value).toArray 68 (0, 0))) :
    ConM Tryd.prog 78 [(nV i_), (pV bf0), (pV bf1)] w0 (pimpl_running__doIns_1 i_ c0_ c1_) fun r v w' => v = (nV r) ∧ Below w0.heap.size w0 w' := by
  unfold pimpl_running__doIns_1
  refine gcon func78 rfl fun r => ?_
  have hm := Mem.start w0
  refine gS (gR (gA rfl (gE (gS (gW (.p 1 (.p 3 (.q 0 (.e 2 (.p 4 (.e 5 (.p 6 (.e 7 (.p 8 .fin) .nil)) .nil)) .nil)))) [2, 5] [1, 3, 4, 6, 8] hm [] [] rfl mxo (by kernel_rfl) (fun _ _ _ h => h.2) fun w hm hS => tP rfl (fun w => yF fo_68_2 rfl) (tP rfl (fun w => yM rfl) (tQ rfl hS (fun w hm => yl isAgg29 (hm.old_cell hbf0 rfl) rfl) (tO (tY rfl (yl isAgg29 (hm.old_cell hbf1 rfl) rfl) (tAs hS (gg fun x0_1 h0_1 hx0_2 => ?_)))))))))))
  obtain ⟨b0_1, o0_1, c0_1, he⟩ := idx_form h2 hx0_2
  subst he
  refine tP rfl (fun w => yI st_29 h0_1 (idx_lt hx0_2) rfl) (tO (tY rfl (yl isAgg3 ((flat_cells (cs := [(nV x0_1)]) (hm.now h2) hx0_2 rfl).cell (j := 0) rfl) rfl) (tAs hS (gg fun x0_2 h0_2 hx0_4 => ?_))))
  obtain ⟨b0_2, o0_2, c0_2, he⟩ := idx_form h1 hx0_4
  subst he
  exact tP rfl (fun w => yI st_29 h0_2 (idx_lt hx0_4) rfl) (tO (tY rfl (yl isAgg3 ((flat_cells (cs := [(nV x0_2)]) (hm.now h1) hx0_4 rfl).cell (j := 0) rfl) rfl) (tAn rfl (tP rfl (fun w => yA rfl) (tE (gRt (gr1 results78 rfl ⟨rfl, hm.below⟩)))))))

theorem pimpl_running__cell_ok (w0 : World) (m : running) (bp0 : Nat) (v1p : Value) (h1p : GT.rep (hp w0) [v1p] m.u.codes) (v2p : Value) (h2p : GT.rep (hp w0) [v2p] m.said) (v3p : Value) (h3p : GT.rep (hp w0) [v3p] m.trace) (hbbp0 : (hp w0) bp0 = some (.cells ((v1p :: (nV m.steps) :: (nV m.used) :: v2p :: q16 m.cells [v3p]) : List Value).toArray 80 (0, 0))) (n_ : Int) :
    ConXM Tryd.prog 79 [(pV bp0), (nV n_)] w0 (pimpl_running__cell m n_) (fun r v w' => ∃ q, r = .inl q ∧ (v = (.pointer (some ⟨bp0, 4 + (q).toNat, none⟩)) ∧ (0 ≤ q ∧ (q).toNat < 16) ∧ Below w0.heap.size w0 w')) fun r c w' => ∃ q, r = .inr q ∧ (c = pch 94 q ∧ Below w0.heap.size w0 w') := by
  unfold pimpl_running__cell
  refine gconx func79 rfl fun r => ?_
  have hm := Mem.start w0
  refine gS (gR (gA rfl (gE (gS (gS (gR (gM rfl (gB rfl (gE (gJe hm (fun s0_1 => [(0, (pV bp0)), (1, (nV n_))]) (fun s0_1 => []) (fun c0_1 hq0_1 => ?_) ?_))))))))))
  ·
   refine gsd 6 rfl (fun h1_1 => ?_) fun h1_1 => ?_
   ·
    refine gct rfl (gR (gb fun r1_1 hx1_1 => gfx rfl (fun a hf => e_callx hf rfl call81 rfl (impl_stop_ok _ 2 _ hx1_1)) ?_ ?_))
    ·
     rintro c w ⟨q1_2, rfl, ho1_1⟩
     obtain ⟨rfl, hB⟩ := ho1_1
     replace hm := hm.below' hB; clear hB
     exact gr (gEr hq0_1 (gth ⟨_, rfl, rfl, hm.below⟩))
    rintro v1_1 w ⟨q1_1, rfl, ho1_1⟩
    obtain ⟨rfl, hB⟩ := ho1_1
    replace hm := hm.below' hB; clear hB
    exact gl (gE (gze hm [] rfl))
   exact gcf rfl (gSk (gze hm [] rfl))
  repeat clear hm
  intro s0_1 w hm
  refine gS (gR (gM rfl (gM rfl (gY (yG rfl (y_nilptr rfl rfl)) (gF fo_80_4 rfl (gb fun x0_1 hx0_1 => ?_))))))
  obtain ⟨h0_1, h0_2, rfl⟩ := idxA_some.1 hx0_1
  exact gY (yG rfl (y_indexArr1 underlying78 sizeOf3 rfl rfl rfl h0_1 h0_2)) (gA rfl (gE (gRt (gx (gr1 results79 rfl ⟨_, rfl, ⟨rfl, ⟨h0_1, h0_2⟩, hm.below⟩⟩)))))

theorem impl_arith_1_ok (w0 : World) (yes : Bool) :
    ConM Tryd.prog 85 [(.bool (yes))] w0 (impl_arith_1 yes) fun r v w' => v = (nV r) ∧ Below w0.heap.size w0 w' := by
  unfold impl_arith_1
  refine gcon func85 rfl fun r => ?_
  have hm := Mem.start w0
  refine gS (gR (gA rfl (gE (gS (gS (gR (gM rfl (gE (gs 3 rfl (fun h0_1 => ?_) fun h0_1 => ?_)))))))))
  ·
   exact gct rfl (gS (gR (gA rfl (gE (gRt (gr1 results85 rfl ⟨rfl, hm.below⟩))))))
  exact gcf rfl (gSk (gS (gR (gA rfl (gE (gRt (gr1 results85 rfl ⟨rfl, hm.below⟩)))))))

theorem impl_arith_ok (w0 : World) (op : Int) (a_ : Int) (b_ : Int) :
    ConM Tryd.prog 80 [(nV op), (nV a_), (nV b_)] w0 (impl_arith op a_ b_) fun r v w' => v = (.tuple #[(nV r.1), (.bool (r.2))]) ∧ Below w0.heap.size w0 w' := by
  unfold impl_arith
  refine gcon func80 rfl fun r => ?_
  have hm := Mem.start w0
  refine gS (gR (gA rfl (gA rfl (gE (gS (gR (gA rfl (gE (gS (gS (gR (gM rfl (gE (gBk (gS (gR (gB rfl (gA rfl (gE (gsd 10 rfl (fun h0_1 => ?_) fun h0_1 => ?_))))))))))))))))))))
  ·
   exact gct rfl (gS (gR (gM rfl (gM rfl (gB rfl (gY (yG rfl (y_rem rfl rfl rfl (by decide))) (gA rfl (gA rfl (gE (gRt (gr2 results80 rfl ⟨rfl, hm.below⟩)))))))))))
  refine gcf rfl (gS (gR (gB rfl (gA rfl (gE (gsd 16 rfl (fun h0_2 => ?_) fun h0_2 => ?_))))))
  ·
   exact gct rfl (gS (gR (gM rfl (gM rfl (gB rfl (gB rfl (gY (yG rfl (y_rem rfl rfl rfl (by decide))) (gA rfl (gA rfl (gE (gRt (gr2 results80 rfl ⟨rfl, hm.below⟩))))))))))))
  refine gcf rfl (gS (gR (gB rfl (gA rfl (gE (gsd 23 rfl (fun h0_3 => ?_) fun h0_3 => ?_))))))
  ·
   exact gct rfl (gS (gR (gM rfl (gM rfl (gB rfl (gY (yG rfl (y_rem rfl rfl rfl (by decide))) (gA rfl (gA rfl (gE (gRt (gr2 results80 rfl ⟨rfl, hm.below⟩)))))))))))
  refine gcf rfl (gS (gS (gR (gB rfl (gA rfl (gE (gJ hm (fun s0_1 => [(0, (nV op)), (1, (nV a_)), (2, (nV b_)), (8, (.func (.func 85) #[] #[])), (9, (nV op)), (29, (.bool (s0_1)))]) (fun s0_1 => []) (fun s0_1 => ?_) ?_)))))))
  ·
   refine gsd 29 rfl (fun h1_1 => ?_) fun h1_1 => ?_
   ·
    exact gct rfl (gSk (gz hm [] rfl))
   exact gcf rfl (gR (gB rfl (gA rfl (gE (gz hm [] rfl)))))
  repeat clear hm
  intro s0_1 w hm
  refine gs 29 rfl (fun h0_4 => ?_) fun h0_4 => ?_
  ·
   refine gct rfl (gS (gS (gR (gM rfl (gB rfl (gE (gsd 33 rfl (fun h0_5 => ?_) fun h0_5 => ?_)))))))
   ·
    exact gct rfl (gS (gR (gA rfl (gA rfl (gE (gRt (gr2 results80 rfl ⟨rfl, hm.below⟩)))))))
   refine gcf rfl (gSk (gS (gS (gR (gM rfl (gB rfl (gE (gsd 35 rfl (fun h0_6 => ?_) fun h0_6 => ?_))))))))
   ·
    refine gct rfl (gS (gR (gM rfl (gM rfl (gb fun q0_1 hx0_1 => ?_)))))
    obtain ⟨h0_7, rfl⟩ := quoM_some.1 hx0_1
    exact gY (yG rfl (y_quo rfl rfl rfl h0_7)) (gA rfl (gA rfl (gE (gRt (gr2 results80 rfl ⟨rfl, hm.below⟩)))))
   refine gcf rfl (gSk (gS (gR (gM rfl (gM rfl (gb fun q0_2 hx0_2 => ?_))))))
   obtain ⟨h0_8, rfl⟩ := remM_some.1 hx0_2
   exact gY (yG rfl (y_rem rfl rfl rfl h0_8)) (gA rfl (gA rfl (gE (gRt (gr2 results80 rfl ⟨rfl, hm.below⟩)))))
  refine gcf rfl (gS (gR (gB rfl (gA rfl (gE (gsd 42 rfl (fun h0_9 => ?_) fun h0_9 => ?_))))))
  ·
   refine gct rfl (gS (gR (gM rfl (gM rfl (gM rfl (gB rfl (gb fun r0_1 hx0_3 => gf rfl (fun a hf => e_callv hf rfl rfl rfl ⟨85, [], rfl, call85, impl_arith_1_ok _ (decide (a_ < b_)) _ hx0_3⟩) ?_)))))))
   rintro v0_1 w ⟨rfl, hB⟩
   replace hm := hm.below' hB; clear hB
   exact gA rfl (gA rfl (gE (gRt (gr2 results80 rfl ⟨rfl, hm.below⟩))))
  refine gcf rfl (gS (gR (gB rfl (gA rfl (gE (gsd 49 rfl (fun h0_10 => ?_) fun h0_10 => ?_))))))
  ·
   refine gct rfl (gS (gR (gM rfl (gM rfl (gM rfl (gB rfl (gb fun r0_2 hx0_4 => gf rfl (fun a hf => e_callv hf rfl rfl rfl ⟨85, [], rfl, call85, impl_arith_1_ok _ (decide (a_ = b_)) _ hx0_4⟩) ?_)))))))
   rintro v0_2 w ⟨rfl, hB⟩
   replace hm := hm.below' hB; clear hB
   exact gA rfl (gA rfl (gE (gRt (gr2 results80 rfl ⟨rfl, hm.below⟩))))
  refine gcf rfl (gS (gR (gB rfl (gA rfl (gE (gsd 56 rfl (fun h0_11 => ?_) fun h0_11 => ?_))))))
  ·
   refine gct rfl (gS (gJ hm (fun s0_2 => [(6, (nV s0_2)), (7, (.bool (true)))]) (fun s0_2 => []) (fun s0_2 => ?_) ?_))
   ·
    refine gR (gM rfl (gM rfl (gB rfl (gM rfl (gsd 61 rfl (fun h1_2 => ?_) fun h1_2 => ?_)))))
    ·
     refine gM rfl (gB rfl (gKt rfl (gb fun r1_1 hx1_1 => gf rfl (fun a hf => e_callv hf rfl rfl rfl ⟨85, [], rfl, call85, impl_arith_1_ok _ (decide (b_ ≠ 0)) _ hx1_1⟩) ?_)))
     rintro v1_1 w ⟨rfl, hB⟩
     replace hm := hm.below' hB; clear hB
     exact gA rfl (gA rfl (gE (gz hm [] rfl)))
    refine gO rfl (gO rfl (gKf rfl (gb fun r1_2 hx1_2 => gf rfl (fun a hf => e_callv hf rfl rfl rfl ⟨85, [], rfl, call85, impl_arith_1_ok _ false _ hx1_2⟩) ?_)))
    rintro v1_2 w ⟨rfl, hB⟩
    replace hm := hm.below' hB; clear hB
    exact gA rfl (gA rfl (gE (gz hm [] rfl)))
   repeat clear hm
   intro s0_2 w hm
   exact gRt (gr2 results80 rfl ⟨rfl, hm.below⟩)
  refine gcf rfl (gSk (gS (gR (gM rfl (gM rfl (gB rfl (gb fun r0_3 hx0_5 => gf rfl (fun a hf => e_callv hf rfl rfl rfl ⟨85, [], rfl, call85, impl_arith_1_ok _ (decide (a_ = 0)) _ hx0_5⟩) ?_)))))))
  rintro v0_3 w ⟨rfl, hB⟩
  replace hm := hm.below' hB; clear hB
  exact gA rfl (gA rfl (gE (gRt (gr2 results80 rfl ⟨rfl, hm.below⟩))))

end Go.Proofs.YtjbcoilagfdidaaDoor
