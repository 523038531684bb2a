/- A part of the proof of FnExactPlainUnitSaid. -/
import Derived.Test.YtcfdnpmajkhokaaGreatPlWalksA
namespace Go.Proofs.YtcfdnpmajkhokaaGreat
open Go Go.Wk Go.RowKit
set_option maxRecDepth 4000
set_option maxHeartbeats 4000000
open Tryz
theorem spec_l14Plain_ok (w0 : World) (c_ : Code_) (v1 : Value) (h1 : GT.rep (hp w0) [v1] c_.blocks) :
    ConM Tryz.prog 28 [(.agg #[(nV c_.params), (nV c_.regs), v1])] w0 (spec_l14Plain c_) fun r v w' => ∃ (x1 : Value), v = (.tuple #[(.agg #[(nV r.1.params), (nV r.1.regs), x1]), (.bool (r.2))]) ∧ Mem w0 (hp w0) w' [ow [x1] r.1.blocks] := by
  unfold spec_l14Plain
  refine gcon func28 rfl fun r => ?_
  have hm := Mem.start w0
  refine gS (gR (gBx hm rfl fun d7 w hm => gAl hm zeroValue44 rfl fun aO w hm => gA rfl (gE (gS (gR (gY (yn (hm.blk_at 1 rfl) isAgg44 sizeOf44 rfl) (gCg rfl call64 (spec_l10Split_ok _ c_ v1 (hm.now h1)) ?_)))))))
  rintro aB d8 d9 w ⟨co, rfl, hB⟩
  replace hm := hm.give hB; clear hB
  refine gAl hm zeroValue44 rfl fun aQ w hm => gSN hm 0 sizeOf44 (one_cons rfl (one_cons rfl (one_cons (rep_one (hm.ow_rep 1 rfl)) one_nil))) rfl fun w hm => gE (gS (gR (gY (yn (hm.blk_at 0 rfl) isAgg44 sizeOf44 rfl) (gCg rfl call65 (spec_l7Copy_ok _ aB co (hm.ow_rep 1 rfl)) ?_))))
  rintro aC da db w ⟨dc, rfl, hB⟩
  replace hm := hm.give hB; clear hB
  refine gAl hm zeroValue44 rfl fun aP w hm => gSN hm 0 sizeOf44 (one_cons rfl (one_cons rfl (one_cons (rep_one (hm.ow_rep 1 rfl)) one_nil))) rfl fun w hm => gE (gS (gR (gF fo_44_1 rfl (gL hm 2 isAgg3 rfl (gA rfl (gE (gS (gR (gA rfl (gE (gS (gS (gR (gA rfl (gE ?_)))))))))))))))
  obtain ⟨cW, aE, rfl, dd⟩ := ro_slice (hm.ow_rep 3 rfl)
  obtain ⟨aL, aD, rfl, de⟩ := ro_slice (hm.ow_rep 1 rfl)
  refine gBk (gNf hm (fun aN bB => [(2, (pV aO)), (4, (pV aQ)), (5, (pV aP)), (6, (nV aB.regs)), (7, (.bool (bB.2))), (8, (nV aN))]) (fun aN bB => [blk aO [(nV 0), (nV 0), (.slice none 0 0)] 44, blk aQ [(nV aB.params), (nV aB.regs), (.slice cW aB.blocks.length aE)] 44, ow [(.slice cW aB.blocks.length aE)] aB.blocks, blk aP [(nV aC.params), (nV aC.regs), (.slice aL aC.blocks.length aD)] 44, ow [(.slice aL aC.blocks.length aD)] bB.1]) [4, 2, 3, 0, 1] rfl ?_ ?_)
  ·
   repeat clear hm
   intro df cX aN bB w hm dg dh di cY
   refine gS (gS (gR (gM rfl (gF fo_44_2 rfl (gL hm 1 isAgg42 rfl (gY (yV st_42 rfl) (gB rfl (gE (go _ 27 rfl (decide_eq_true (by omega)) (gct rfl (gSk (gS (gBk (gS (gR (gF fo_44_2 rfl (gL hm 1 isAgg42 rfl (gM rfl (gg fun aA cq bG => ?_)))))))))))))))))))
   obtain ⟨aF, aG, dk, he⟩ := idx_form' (hm.ow_rep 2 rfl) bG
   obtain ⟨rfl, _, rfl⟩ := sl3 he
   obtain ⟨dl, dm, dp, dq, dr, dt, du⟩ := rk_Block_ (hm.ow_rep 2 rfl) bG
   refine gI st_42 cq (idx_lt bG) rfl (gF fo_59_0 rfl ?_)
   obtain ⟨bH, aJ, aK, hm⟩ := pin_Block_ hm 2 rfl bG
   refine gY (yl isAgg55 ((hm.holeE_at 5 rfl).cell (j := 0) rfl) rfl) (gA rfl (gE (gS (gR (gY (yn (hm.blk_at 4 rfl) isAgg44 sizeOf44 rfl) (gM rfl ?_))))))
   have hmS := hm
   replace hm := (mk_Block_ aA.jump aA.on hm 2 1 0 rfl).pk (L' := [ow [bH, aJ, (nV aA.jump), (nV aA.on), aK] (aA : Block_), blk aO [(nV 0), (nV 0), (.slice none 0 0)] 44, blk aQ [(nV aB.params), (nV aB.regs), (sV aF aG aB.blocks.length aE)] 44, holeE aF aG aB.blocks.length aE (aB.blocks : List Block_) (aN).toNat [bH, aJ, (nV aA.jump), (nV aA.on), aK], blk aP [(nV aC.params), (nV aC.regs), (.slice aL aC.blocks.length aD)] 44, ow [(.slice aL aC.blocks.length aD)] bB.1]) [2, 3, 4, 5, 6, 7] rfl rfl
   replace hm := (hm.shutE (y := (aA : Block_)) 3 0 (by decide) rfl rfl).pk (L' := [blk aO [(nV 0), (nV 0), (.slice none 0 0)] 44, blk aQ [(nV aB.params), (nV aB.regs), (sV aF aG aB.blocks.length aE)] 44, ow [(sV aF aG aB.blocks.length aE)] (aB.blocks.set (aN).toNat aA), blk aP [(nV aC.params), (nV aC.regs), (.slice aL aC.blocks.length aD)] 44, ow [(.slice aL aC.blocks.length aD)] bB.1]) [1, 2, 3, 4, 5] rfl rfl
   rw [set_same bG] at hm
   have cr := hm.ow_rep 2 rfl
   replace hm := hmS
   refine gCg rfl call66 (spec_l7Preds_ok _ aB (sV aF aG aB.blocks.length aE) cr aN) ?_
   rintro aH dv bl w ⟨_, rfl, hB⟩
   replace hm := hm.give hB; clear hB
   refine gA rfl (gE (gS (gJ hm (fun au => [(2, (pV aO)), (4, (pV aQ)), (5, (pV aP)), (6, (nV aB.regs)), (7, (.bool (au))), (8, (nV aN)), (9, bH), (10, bl)]) (fun au => [blk aO [(nV 0), (nV 0), (.slice none 0 0)] 44, blk aQ [(nV aB.params), (nV aB.regs), (sV aF aG aB.blocks.length aE)] 44, holeE aF aG aB.blocks.length aE (aB.blocks : List Block_) (aN).toNat [bH, aJ, (nV aA.jump), (nV aA.on), aK], ow [bH] aA.phis, ow [aJ] aA.ins, ow [aK] aA.next_, blk aP [(nV aC.params), (nV aC.regs), (.slice aL aC.blocks.length aD)] 44, ow [(.slice aL aC.blocks.length aD)] bB.1, ow [bl] aH]) (fun au => ?_) ?_)))
   ·
    refine gR (gM rfl (gM rfl (gs 40 rfl (fun ct => ?_) fun ct => ?_)))
    ·
     exact gO rfl (gO rfl (gO rfl (gKt rfl (gA rfl (gE (gz hm [4, 5, 6, 3, 2, 1, 7, 8, 0] rfl))))))
    refine gM rfl ?_
    obtain ⟨dw, dx, rfl, dy⟩ := ro_slice (hm.ow_rep 3 rfl)
    exact gY (yV st_55 rfl) (gB rfl (gKf rfl (gA rfl (gE (gz hm [4, 5, 6, 3, 2, 1, 7, 8, 0] rfl)))))
   repeat clear hm
   intro au w hm
   refine gS (gS (gR (gM rfl (gC hm rfl call67 (spec_l14Apart_ok _ aA.phis bH (hm.ow_rep 3 rfl)) fun dz eA w hm => gN rfl (gE (gsn 47 rfl (fun cu => ?_) fun cu => ?_))))))
   ·
    refine gct rfl (gS ?_)
    replace hm := (mk_Block_ aA.jump aA.on hm 3 4 5 rfl).pk (L' := [blk aO [(nV 0), (nV 0), (.slice none 0 0)] 44, blk aQ [(nV aB.params), (nV aB.regs), (sV aF aG aB.blocks.length aE)] 44, holeE aF aG aB.blocks.length aE (aB.blocks : List Block_) (aN).toNat [bH, aJ, (nV aA.jump), (nV aA.on), aK], ow [bH, aJ, (nV aA.jump), (nV aA.on), aK] (aA : Block_), blk aP [(nV aC.params), (nV aC.regs), (.slice aL aC.blocks.length aD)] 44, ow [(.slice aL aC.blocks.length aD)] bB.1, ow [bl] aH]) [0, 1, 2, 3, 6, 7, 8] rfl rfl
    replace hm := (hm.shutE (y := (aA : Block_)) 2 3 (by decide) rfl rfl).pk (L' := [blk aO [(nV 0), (nV 0), (.slice none 0 0)] 44, blk aQ [(nV aB.params), (nV aB.regs), (sV aF aG aB.blocks.length aE)] 44, ow [(sV aF aG aB.blocks.length aE)] (aB.blocks.set (aN).toNat aA), blk aP [(nV aC.params), (nV aC.regs), (.slice aL aC.blocks.length aD)] 44, ow [(.slice aL aC.blocks.length aD)] bB.1, ow [bl] aH]) [0, 1, 2, 4, 5, 6] rfl rfl
    rw [set_same bG] at hm
    refine gR (gY (yG rfl (y_build (vs := []) (cs := #[(nV 0), (nV 0), (.slice none 0 0)]) rfl rfl (by kernel_rfl))) (gSN hm 0 sizeOf44 (one_cons rfl (one_cons rfl (one_cons rfl one_nil))) rfl fun w hm => gA rfl (gE (gRt (gLr cY cX ?_)))))
    replace hm := hm.nilow (α := Block_)
    exact grct 1 results28 hm rfl isAgg44 sizeOf44 ⟨(.slice none 0 0), rfl, hm.pk [0] rfl rfl⟩
   refine gcf rfl (gSk (gS (gS (gR (gA rfl (gE ?_))))))
   obtain ⟨aM, aI, rfl, eB⟩ := ro_slice (hm.ow_rep 3 rfl)
   obtain ⟨aV, aS, rfl, eC⟩ := ro_slice (hm.ow_rep 8 rfl)
   refine gBk (gNf hm (fun bC aX => [(2, (pV aO)), (4, (pV aQ)), (5, (pV aP)), (6, (nV aB.regs)), (7, (.bool (au))), (8, (nV aN)), (9, (.slice aM aA.phis.length aI)), (10, (.slice aV aH.length aS)), (11, (nV bC))]) (fun bC aX => [blk aO [(nV 0), (nV 0), (.slice none 0 0)] 44, blk aQ [(nV aB.params), (nV aB.regs), (sV aF aG aB.blocks.length aE)] 44, holeE aF aG aB.blocks.length aE (aB.blocks : List Block_) (aN).toNat [(.slice aM aA.phis.length aI), aJ, (nV aA.jump), (nV aA.on), aK], ow [(.slice aM aA.phis.length aI)] aA.phis, ow [aJ] aA.ins, ow [aK] aA.next_, blk aP [(nV aC.params), (nV aC.regs), (.slice aL aC.blocks.length aD)] 44, ow [(.slice aL aC.blocks.length aD)] aX, ow [(.slice aV aH.length aS)] aH]) [0, 1, 2, 3, 4, 5, 6, 7, 8] rfl ?_ ?_)
   ·
    repeat clear hm
    intro eD cv bC aX w hm eE eF eG cw
    refine gS (gS (gR (gM rfl (gM rfl (gY (yV st_57 rfl) (gB rfl (gE (go _ 52 rfl (decide_eq_true (by omega)) (gct rfl (gSk (gS (gJe hm (fun cF => [(2, (pV aO)), (4, (pV aQ)), (5, (pV aP)), (6, (nV aB.regs)), (7, (.bool (au))), (8, (nV aN)), (9, (.slice aM aA.phis.length aI)), (10, (.slice aV aH.length aS)), (11, (nV bC))]) (fun cF => [blk aO [(nV 0), (nV 0), (.slice none 0 0)] 44, blk aQ [(nV aB.params), (nV aB.regs), (sV aF aG aB.blocks.length aE)] 44, holeE aF aG aB.blocks.length aE (aB.blocks : List Block_) (aN).toNat [(.slice aM aA.phis.length aI), aJ, (nV aA.jump), (nV aA.on), aK], ow [(.slice aM aA.phis.length aI)] aA.phis, ow [aJ] aA.ins, ow [aK] aA.next_, blk aP [(nV aC.params), (nV aC.regs), (.slice aL aC.blocks.length aD)] 44, ow [(.slice aL aC.blocks.length aD)] cF, ow [(.slice aV aH.length aS)] aH]) (fun eH cx => ?_) ?_))))))))))))
    ·
     refine gBk (gS (gR (gf rfl (fun a hf => e_build0 (α := List Int) et_64 hm rfl) ?_)))
     rintro eI w hm
     refine gA rfl (gE (gS (gS (gR (gA rfl (gE ?_))))))
     obtain ⟨cy, cz, rfl, eJ⟩ := ro_slice (hm.ow_rep 0 rfl)
     refine gBk (gNg (fun aq av a w => ∃ (aw : Value), St 157 [(2, (pV aO)), (4, (pV aQ)), (5, (pV aP)), (6, (nV aB.regs)), (7, (.bool (au))), (8, (nV aN)), (9, (.slice aM aA.phis.length aI)), (10, (.slice aV aH.length aS)), (11, (nV bC)), (12, aw), (13, (nV aq))] w0 (hp w0) [blk aO [(nV 0), (nV 0), (.slice none 0 0)] 44, blk aQ [(nV aB.params), (nV aB.regs), (sV aF aG aB.blocks.length aE)] 44, holeE aF aG aB.blocks.length aE (aB.blocks : List Block_) (aN).toNat [(.slice aM aA.phis.length aI), aJ, (nV aA.jump), (nV aA.on), aK], ow [(.slice aM aA.phis.length aI)] aA.phis, ow [aJ] aA.ins, ow [aK] aA.next_, blk aP [(nV aC.params), (nV aC.regs), (.slice aL aC.blocks.length aD)] 44, ow [(.slice aL aC.blocks.length aD)] aX, ow [(.slice aV aH.length aS)] aH, ow [aw] av] a w) (fun a hf => ⟨(.slice cy ([] : List (List Int)).length cz), hf.sb rfl, hm.pk [1, 2, 3, 4, 5, 6, 7, 8, 9, 0] rfl rfl⟩) ?_ ?_)
     ·
      repeat clear hm
      rintro _ _ aq av a w ⟨aw, hf, hm⟩ eK eL eM _
      refine gv hf (gS (gS (gR (gM rfl (gM rfl (gY (yV st_55 rfl) (gB rfl (gE (go _ 59 rfl (decide_eq_true (by omega)) (gct rfl (gSk (gS (gBk (gg fun aT cZ bZ => ?_))))))))))))))
      obtain ⟨af, ag, eN, he⟩ := idx_form' (hm.ow_rep 3 rfl) bZ
      obtain ⟨rfl, _, rfl⟩ := sl3 he
      obtain ⟨c4, hm⟩ := pin_Phi_ hm 3 rfl bZ
      refine gJg (fun cG a w => ∃ (bm : Value), St 157 [(2, (pV aO)), (4, (pV aQ)), (5, (pV aP)), (6, (nV aB.regs)), (7, (.bool (au))), (8, (nV aN)), (9, (sV af ag aA.phis.length aI)), (10, (.slice aV aH.length aS)), (11, (nV bC)), (12, bm), (13, (nV aq))] w0 (hp w0) [blk aO [(nV 0), (nV 0), (.slice none 0 0)] 44, blk aQ [(nV aB.params), (nV aB.regs), (sV aF aG aB.blocks.length aE)] 44, holeE aF aG aB.blocks.length aE (aB.blocks : List Block_) (aN).toNat [(sV af ag aA.phis.length aI), aJ, (nV aA.jump), (nV aA.on), aK], ow [(sV af ag aA.phis.length aI)] aA.phis, ow [aJ] aA.ins, ow [aK] aA.next_, blk aP [(nV aC.params), (nV aC.regs), (.slice aL aC.blocks.length aD)] 44, ow [(.slice aL aC.blocks.length aD)] aX, ow [(.slice aV aH.length aS)] aH, ow [bm] cG] a w) (fun cG => ?_) ?_
      ·
       refine gW (.p 0 (.p 1 (.p 2 (.p 3 (.p 4 (.p 6 (.p 7 (.p 8 (.p 9 (.p 11 (.e 5 (.e 10 (.p 12 (.e 13 (.e 14 (.e 15 (.e 16 (.p 17 .fin) .nil) .nil) .nil) .nil)) .nil) (.e 10 (.p 12 (.q 13 (.e 5 (.e 14 (.e 15 (.e 16 (.p 17 .fin) .nil) .nil) .nil) .nil))) .nil)))))))))))) [5] [0, 1, 2, 3, 4, 6, 7, 8, 9, 11, 12, 17] hm [0, 1, 2, 3, 4, 5, 6, 7, 8, 9, 10] [ow [c4] aT.args, blk aO [(nV 0), (nV 0), (.slice none 0 0)] 44, blk aQ [(nV aB.params), (nV aB.regs), (sV aF aG aB.blocks.length aE)] 44, holeE aF aG aB.blocks.length aE (aB.blocks : List Block_) (aN).toNat [(sV af ag aA.phis.length aI), aJ, (nV aA.jump), (nV aA.on), aK], holeE af ag aA.phis.length aI (aA.phis : List Phi_) (aq).toNat [(nV aT.to), c4], ow [aJ] aA.ins, ow [aK] aA.next_, blk aP [(nV aC.params), (nV aC.regs), (.slice aL aC.blocks.length aD)] 44, ow [(.slice aL aC.blocks.length aD)] aX, ow [(.slice aV aH.length aS)] aH, ow [aw] av] rfl mxo (by kernel_rfl) (fun _ _ _ h => h.2) fun w hm hS => tP rfl (fun w => yM rfl) (tP rfl (fun w => yM rfl) (tP rfl (fun w => yM rfl) ?_))
       have hL5_1 := hm.holeE_len 4 rfl
       refine tP rfl (fun w => yI st_55 cZ (idx_lt2 bZ hL5_1) rfl) (tP rfl (fun w => yF fo_87_0 rfl) (tP rfl (fun w => yM rfl) (tP rfl (fun w => yM rfl) ?_)))
       have hL5_2 := hm.holeE_len 4 rfl
       refine tP rfl (fun w => yI st_55 cZ (idx_lt2 bZ hL5_2) rfl) (tP rfl (fun w => yF fo_87_1 rfl) (tP rfl (fun w => yM rfl) (gb fun al c5 => gb fun bo c6 => tMo ?_ ?_)))
       ·
        refine tY rfl (yl isAgg3 ((hm.holeE_at 4 rfl).cell (j := 0) rfl) rfl) (tAs hS (tO (tY rfl (yl isAgg57 ((hm.holeE_at 4 rfl).cell (j := 1) rfl) rfl) (tAn rfl ?_))))
        obtain ⟨dA, cH⟩ := getI_some.1 c5
        obtain ⟨bJ, bK, bL, he⟩ := idx_form (hm.ow_rep 0 rfl) cH
        subst he
        refine tP rfl (fun w => yI st_57 dA (idx_lt cH) rfl) (tO (tY rfl (yl isAgg3 ((flat_cells (cs := [(nV al)]) (hm.ow_rep 0 rfl) cH rfl).cell (j := 0) rfl) rfl) (tAn rfl (tO (tf rfl rfl (fun a hf => e_build (vs := #[(0, (nV aT.to)), (1, (nV al))]) (cs := [(nV aT.to), (nV al)]) et_57 hf hm rfl rfl (by kernel_rfl) rfl rfl) ?_)))))
        rintro _ w ⟨bb, rfl, hm⟩
        replace hm := hm.lit (xs := ([aT.to, al] : List Int)) 0 rfl rfl rfl rfl
        refine tAn rfl (tO (tf rfl rfl (fun a hf => e_build (vs := #[(0, (sV bb 0 2 2))]) (cs := [(sV bb 0 2 2)]) et_64 hf hm rfl rfl (by kernel_rfl) rfl rfl) ?_))
        rintro _ w ⟨cI, rfl, hm⟩
        replace hm := hm.els_nil (α := List Int)
        replace hm := hm.imp (c' := ow [(sV bb 0 2 2)] (([aT.to, al] : List Int) : List Int)) 2 rfl (fun F h0 => h0)
        replace hm := (hm.els_cons 0 2 (by decide) rfl rfl).pk (L' := [els [(sV bb 0 2 2)] ([([aT.to, al] : List Int)] : List (List Int)), blk cI [(sV bb 0 2 2)] 57, ow [(sV bJ bK aT.args.length bL)] aT.args, blk aO [(nV 0), (nV 0), (.slice none 0 0)] 44, blk aQ [(nV aB.params), (nV aB.regs), (sV aF aG aB.blocks.length aE)] 44, holeE aF aG aB.blocks.length aE (aB.blocks : List Block_) (aN).toNat [(sV af ag aA.phis.length aI), aJ, (nV aA.jump), (nV aA.on), aK], holeE af ag aA.phis.length aI (aA.phis : List Phi_) (aq).toNat [(nV aT.to), (sV bJ bK aT.args.length bL)], ow [aJ] aA.ins, ow [aK] aA.next_, blk aP [(nV aC.params), (nV aC.regs), (.slice aL aC.blocks.length aD)] 44, ow [(.slice aL aC.blocks.length aD)] aX, ow [(.slice aV aH.length aS)] aH, ow [aw] av]) [0, 1, 3, 4, 5, 6, 7, 8, 9, 10, 11, 12, 13] rfl rfl
        replace hm := (hm.lit_els 1 0 (by decide) rfl rfl rfl rfl).pk (L' := [ow [(sV cI 0 1 1)] ([([aT.to, al] : List Int)] : List (List Int)), ow [(sV bJ bK aT.args.length bL)] aT.args, blk aO [(nV 0), (nV 0), (.slice none 0 0)] 44, blk aQ [(nV aB.params), (nV aB.regs), (sV aF aG aB.blocks.length aE)] 44, holeE aF aG aB.blocks.length aE (aB.blocks : List Block_) (aN).toNat [(sV af ag aA.phis.length aI), aJ, (nV aA.jump), (nV aA.on), aK], holeE af ag aA.phis.length aI (aA.phis : List Phi_) (aq).toNat [(nV aT.to), (sV bJ bK aT.args.length bL)], ow [aJ] aA.ins, ow [aK] aA.next_, blk aP [(nV aC.params), (nV aC.regs), (.slice aL aC.blocks.length aD)] 44, ow [(.slice aL aC.blocks.length aD)] aX, ow [(.slice aV aH.length aS)] aH, ow [aw] av]) [1, 2, 3, 4, 5, 6, 7, 8, 9, 10, 11, 12] rfl rfl
        refine tAn rfl (tO ?_)
        obtain ⟨dB, dC⟩ := appM_some.1 c6
        replace hm := (hm.both 11 0 (by decide) rfl rfl).pk (L' := [ow [(sV bJ bK aT.args.length bL)] aT.args, blk aO [(nV 0), (nV 0), (.slice none 0 0)] 44, blk aQ [(nV aB.params), (nV aB.regs), (sV aF aG aB.blocks.length aE)] 44, holeE aF aG aB.blocks.length aE (aB.blocks : List Block_) (aN).toNat [(sV af ag aA.phis.length aI), aJ, (nV aA.jump), (nV aA.on), aK], holeE af ag aA.phis.length aI (aA.phis : List Phi_) (aq).toNat [(nV aT.to), (sV bJ bK aT.args.length bL)], ow [aJ] aA.ins, ow [aK] aA.next_, blk aP [(nV aC.params), (nV aC.regs), (.slice aL aC.blocks.length aD)] 44, ow [(.slice aL aC.blocks.length aD)] aX, ow [(.slice aV aH.length aS)] aH, both (ow [aw] av) (ow [(sV cI 0 1 1)] ([([aT.to, al] : List Int)] : List (List Int)))]) [1, 2, 3, 4, 5, 6, 7, 8, 9, 10, 11] rfl rfl
        refine tf rfl rfl (fun a hf => e_appendD (xs := av) (ys := ([([aT.to, al] : List Int)] : List (List Int))) 10 et_64 hf hm rfl rfl rfl rfl dB) ?_
        rintro cJ w hm
        rw [dC] at hm
        refine tAn rfl (tP rfl (fun w => yA rfl) (tE ?_))
        replace hm : Mem w0 (hp w0) _ [ow [(nV aT.to), (sV bJ bK aT.args.length bL)] (aT : Phi_), blk aO [(nV 0), (nV 0), (.slice none 0 0)] 44, blk aQ [(nV aB.params), (nV aB.regs), (sV aF aG aB.blocks.length aE)] 44, holeE aF aG aB.blocks.length aE (aB.blocks : List Block_) (aN).toNat [(sV af ag aA.phis.length aI), aJ, (nV aA.jump), (nV aA.on), aK], holeE af ag aA.phis.length aI (aA.phis : List Phi_) (aq).toNat [(nV aT.to), (sV bJ bK aT.args.length bL)], ow [aJ] aA.ins, ow [aK] aA.next_, blk aP [(nV aC.params), (nV aC.regs), (.slice aL aC.blocks.length aD)] 44, ow [(.slice aL aC.blocks.length aD)] aX, ow [(.slice aV aH.length aS)] aH, ow [cJ] bo] := mk_Phi_ aT.to hm 0 rfl
        replace hm := (hm.shutE (y := (aT : Phi_)) 4 0 (by decide) rfl rfl).pk (L' := [blk aO [(nV 0), (nV 0), (.slice none 0 0)] 44, blk aQ [(nV aB.params), (nV aB.regs), (sV aF aG aB.blocks.length aE)] 44, holeE aF aG aB.blocks.length aE (aB.blocks : List Block_) (aN).toNat [(sV af ag aA.phis.length aI), aJ, (nV aA.jump), (nV aA.on), aK], ow [(sV af ag aA.phis.length aI)] (aA.phis.set (aq).toNat aT), ow [aJ] aA.ins, ow [aK] aA.next_, blk aP [(nV aC.params), (nV aC.regs), (.slice aL aC.blocks.length aD)] 44, ow [(.slice aL aC.blocks.length aD)] aX, ow [(.slice aV aH.length aS)] aH, ow [cJ] bo]) [1, 2, 3, 4, 5, 6, 7, 8, 9, 10] rfl rfl
        rw [set_same bZ] at hm
        exact gZ fun a hf => ⟨cJ, hf.sb rfl, hm.pk [0, 1, 2, 3, 4, 5, 6, 7, 8, 9] rfl rfl⟩
       refine tO (tY rfl (yl isAgg57 ((hm.holeE_at 4 rfl).cell (j := 1) rfl) rfl) (tAn rfl ?_))
       obtain ⟨dD, cK⟩ := getI_some.1 c5
       obtain ⟨bM, bN, bO, he⟩ := idx_form (hm.ow_rep 0 rfl) cK
       subst he
       refine tP rfl (fun w => yI st_57 dD (idx_lt cK) rfl) (tQ rfl hS (fun w hm => yl isAgg3 ((flat_cells (cs := [(nV al)]) (hm.ow_rep 0 rfl) cK rfl).cell (j := 0) rfl) rfl) (tO (tY rfl (yl isAgg3 ((hm.holeE_at 4 rfl).cell (j := 0) rfl) rfl) (tAs hS (tO (tf rfl rfl (fun a hf => e_build (vs := #[(0, (nV aT.to)), (1, (nV al))]) (cs := [(nV aT.to), (nV al)]) et_57 hf hm rfl rfl (by kernel_rfl) rfl rfl) ?_))))))
       rintro _ w ⟨bc, rfl, hm⟩
       replace hm := hm.lit (xs := ([aT.to, al] : List Int)) 0 rfl rfl rfl rfl
       refine tAn rfl (tO (tf rfl rfl (fun a hf => e_build (vs := #[(0, (sV bc 0 2 2))]) (cs := [(sV bc 0 2 2)]) et_64 hf hm rfl rfl (by kernel_rfl) rfl rfl) ?_))
       rintro _ w ⟨cL, rfl, hm⟩
       replace hm := hm.els_nil (α := List Int)
       replace hm := hm.imp (c' := ow [(sV bc 0 2 2)] (([aT.to, al] : List Int) : List Int)) 2 rfl (fun F h0 => h0)
       replace hm := (hm.els_cons 0 2 (by decide) rfl rfl).pk (L' := [els [(sV bc 0 2 2)] ([([aT.to, al] : List Int)] : List (List Int)), blk cL [(sV bc 0 2 2)] 57, ow [(sV bM bN aT.args.length bO)] aT.args, blk aO [(nV 0), (nV 0), (.slice none 0 0)] 44, blk aQ [(nV aB.params), (nV aB.regs), (sV aF aG aB.blocks.length aE)] 44, holeE aF aG aB.blocks.length aE (aB.blocks : List Block_) (aN).toNat [(sV af ag aA.phis.length aI), aJ, (nV aA.jump), (nV aA.on), aK], holeE af ag aA.phis.length aI (aA.phis : List Phi_) (aq).toNat [(nV aT.to), (sV bM bN aT.args.length bO)], ow [aJ] aA.ins, ow [aK] aA.next_, blk aP [(nV aC.params), (nV aC.regs), (.slice aL aC.blocks.length aD)] 44, ow [(.slice aL aC.blocks.length aD)] aX, ow [(.slice aV aH.length aS)] aH, ow [aw] av]) [0, 1, 3, 4, 5, 6, 7, 8, 9, 10, 11, 12, 13] rfl rfl
       replace hm := (hm.lit_els 1 0 (by decide) rfl rfl rfl rfl).pk (L' := [ow [(sV cL 0 1 1)] ([([aT.to, al] : List Int)] : List (List Int)), ow [(sV bM bN aT.args.length bO)] aT.args, blk aO [(nV 0), (nV 0), (.slice none 0 0)] 44, blk aQ [(nV aB.params), (nV aB.regs), (sV aF aG aB.blocks.length aE)] 44, holeE aF aG aB.blocks.length aE (aB.blocks : List Block_) (aN).toNat [(sV af ag aA.phis.length aI), aJ, (nV aA.jump), (nV aA.on), aK], holeE af ag aA.phis.length aI (aA.phis : List Phi_) (aq).toNat [(nV aT.to), (sV bM bN aT.args.length bO)], ow [aJ] aA.ins, ow [aK] aA.next_, blk aP [(nV aC.params), (nV aC.regs), (.slice aL aC.blocks.length aD)] 44, ow [(.slice aL aC.blocks.length aD)] aX, ow [(.slice aV aH.length aS)] aH, ow [aw] av]) [1, 2, 3, 4, 5, 6, 7, 8, 9, 10, 11, 12] rfl rfl
       refine tAn rfl (tO ?_)
       obtain ⟨dE, dF⟩ := appM_some.1 c6
       replace hm := (hm.both 11 0 (by decide) rfl rfl).pk (L' := [ow [(sV bM bN aT.args.length bO)] aT.args, blk aO [(nV 0), (nV 0), (.slice none 0 0)] 44, blk aQ [(nV aB.params), (nV aB.regs), (sV aF aG aB.blocks.length aE)] 44, holeE aF aG aB.blocks.length aE (aB.blocks : List Block_) (aN).toNat [(sV af ag aA.phis.length aI), aJ, (nV aA.jump), (nV aA.on), aK], holeE af ag aA.phis.length aI (aA.phis : List Phi_) (aq).toNat [(nV aT.to), (sV bM bN aT.args.length bO)], ow [aJ] aA.ins, ow [aK] aA.next_, blk aP [(nV aC.params), (nV aC.regs), (.slice aL aC.blocks.length aD)] 44, ow [(.slice aL aC.blocks.length aD)] aX, ow [(.slice aV aH.length aS)] aH, both (ow [aw] av) (ow [(sV cL 0 1 1)] ([([aT.to, al] : List Int)] : List (List Int)))]) [1, 2, 3, 4, 5, 6, 7, 8, 9, 10, 11] rfl rfl
       refine tf rfl rfl (fun a hf => e_appendD (xs := av) (ys := ([([aT.to, al] : List Int)] : List (List Int))) 10 et_64 hf hm rfl rfl rfl rfl dE) ?_
       rintro cM w hm
       rw [dF] at hm
       refine tAn rfl (tP rfl (fun w => yA rfl) (tE ?_))
       replace hm : Mem w0 (hp w0) _ [ow [(nV aT.to), (sV bM bN aT.args.length bO)] (aT : Phi_), blk aO [(nV 0), (nV 0), (.slice none 0 0)] 44, blk aQ [(nV aB.params), (nV aB.regs), (sV aF aG aB.blocks.length aE)] 44, holeE aF aG aB.blocks.length aE (aB.blocks : List Block_) (aN).toNat [(sV af ag aA.phis.length aI), aJ, (nV aA.jump), (nV aA.on), aK], holeE af ag aA.phis.length aI (aA.phis : List Phi_) (aq).toNat [(nV aT.to), (sV bM bN aT.args.length bO)], ow [aJ] aA.ins, ow [aK] aA.next_, blk aP [(nV aC.params), (nV aC.regs), (.slice aL aC.blocks.length aD)] 44, ow [(.slice aL aC.blocks.length aD)] aX, ow [(.slice aV aH.length aS)] aH, ow [cM] bo] := mk_Phi_ aT.to hm 0 rfl
       replace hm := (hm.shutE (y := (aT : Phi_)) 4 0 (by decide) rfl rfl).pk (L' := [blk aO [(nV 0), (nV 0), (.slice none 0 0)] 44, blk aQ [(nV aB.params), (nV aB.regs), (sV aF aG aB.blocks.length aE)] 44, holeE aF aG aB.blocks.length aE (aB.blocks : List Block_) (aN).toNat [(sV af ag aA.phis.length aI), aJ, (nV aA.jump), (nV aA.on), aK], ow [(sV af ag aA.phis.length aI)] (aA.phis.set (aq).toNat aT), ow [aJ] aA.ins, ow [aK] aA.next_, blk aP [(nV aC.params), (nV aC.regs), (.slice aL aC.blocks.length aD)] 44, ow [(.slice aL aC.blocks.length aD)] aX, ow [(.slice aV aH.length aS)] aH, ow [cM] bo]) [1, 2, 3, 4, 5, 6, 7, 8, 9, 10] rfl rfl
       rw [set_same bZ] at hm
       exact gZ fun a hf => ⟨cM, hf.sb rfl, hm.pk [0, 1, 2, 3, 4, 5, 6, 7, 8, 9] rfl rfl⟩
      repeat clear hm
      rintro cG a w ⟨bm, hf, hm⟩
      exact gv hf (gR (gM rfl (gP (by omega) (by omega) rfl (gA rfl (gE (gZe fun a hf => ⟨bm, hf.sb rfl, hm.pk [0, 1, 2, 3, 4, 5, 6, 7, 8, 9] rfl rfl⟩))))))
     repeat clear hm
     rintro eO bp a w ⟨bq, hf, hm⟩ eP eQ
     refine gv hf (gS (gS (gR (gM rfl (gM rfl (gY (yV st_55 rfl) (gB rfl (gE (go _ 59 rfl (decide_eq_false (by omega)) (gcf rfl (gXt (gHh (gS (gS (gR (gM rfl (gC hm rfl call68 (spec_l14Once_ok _ bp bq (hm.ow_rep 9 rfl)) fun eR eS w hm => gN rfl (gE (gsn 81 rfl (fun dG => ?_) fun dG => ?_)))))))))))))))))))
     ·
      refine gct rfl (gS ?_)
      replace hm := (mk_Block_ aA.jump aA.on hm 3 4 5 rfl).pk (L' := [blk aO [(nV 0), (nV 0), (.slice none 0 0)] 44, blk aQ [(nV aB.params), (nV aB.regs), (sV aF aG aB.blocks.length aE)] 44, holeE aF aG aB.blocks.length aE (aB.blocks : List Block_) (aN).toNat [(.slice aM aA.phis.length aI), aJ, (nV aA.jump), (nV aA.on), aK], ow [(.slice aM aA.phis.length aI), aJ, (nV aA.jump), (nV aA.on), aK] (aA : Block_), blk aP [(nV aC.params), (nV aC.regs), (.slice aL aC.blocks.length aD)] 44, ow [(.slice aL aC.blocks.length aD)] aX, ow [(.slice aV aH.length aS)] aH, ow [bq] bp]) [0, 1, 2, 3, 6, 7, 8, 9] rfl rfl
      replace hm := (hm.shutE (y := (aA : Block_)) 2 3 (by decide) rfl rfl).pk (L' := [blk aO [(nV 0), (nV 0), (.slice none 0 0)] 44, blk aQ [(nV aB.params), (nV aB.regs), (sV aF aG aB.blocks.length aE)] 44, ow [(sV aF aG aB.blocks.length aE)] (aB.blocks.set (aN).toNat aA), blk aP [(nV aC.params), (nV aC.regs), (.slice aL aC.blocks.length aD)] 44, ow [(.slice aL aC.blocks.length aD)] aX, ow [(.slice aV aH.length aS)] aH, ow [bq] bp]) [0, 1, 2, 4, 5, 6, 7] rfl rfl
      rw [set_same bG] at hm
      refine gR (gY (yG rfl (y_build (vs := []) (cs := #[(nV 0), (nV 0), (.slice none 0 0)]) rfl rfl (by kernel_rfl))) (gSN hm 0 sizeOf44 (one_cons rfl (one_cons rfl (one_cons rfl one_nil))) rfl fun w hm => gA rfl (gE (gRt (gEr cx (gLr cw cv (gLr cY cX ?_)))))))
      replace hm := hm.nilow (α := Block_)
      exact grct 1 results28 hm rfl isAgg44 sizeOf44 ⟨(.slice none 0 0), rfl, hm.pk [0] rfl rfl⟩
     refine gcf rfl (gSk (gS (gR (gf rfl (fun a hf => e_build0 (α := Ins_) et_56 hm rfl) ?_))))
     rintro eT w hm
     refine gA rfl (gE (gS (gR (gM rfl (gM rfl (gCg rfl call69 (spec_l14Order_ok _ bp bq (hm.ow_rep 10 rfl) aB.regs) ?_))))))
     rintro aR eU eV w ⟨_, rfl, hB⟩
     replace hm := hm.give hB; clear hB
     refine gA rfl (gE (gS (gS (gR (gA rfl (gE ?_))))))
     obtain ⟨dH, dI, rfl, eW⟩ := ro_slice (hm.ow_rep 1 rfl)
     obtain ⟨ar, ab, rfl, eX⟩ := ro_slice (hm.ow_rep 0 rfl)
     refine gBk (gNg (fun ah ai a w => ∃ (am : Value), St 157 [(2, (pV aO)), (4, (pV aQ)), (5, (pV aP)), (6, (nV aB.regs)), (7, (.bool (au))), (8, (nV aN)), (9, (.slice aM aA.phis.length aI)), (10, (.slice aV aH.length aS)), (11, (nV bC)), (14, am), (15, (.slice ar aR.length ab)), (16, (nV ah))] w0 (hp w0) [blk aO [(nV 0), (nV 0), (.slice none 0 0)] 44, blk aQ [(nV aB.params), (nV aB.regs), (sV aF aG aB.blocks.length aE)] 44, holeE aF aG aB.blocks.length aE (aB.blocks : List Block_) (aN).toNat [(.slice aM aA.phis.length aI), aJ, (nV aA.jump), (nV aA.on), aK], ow [(.slice aM aA.phis.length aI)] aA.phis, ow [aJ] aA.ins, ow [aK] aA.next_, blk aP [(nV aC.params), (nV aC.regs), (.slice aL aC.blocks.length aD)] 44, ow [(.slice aL aC.blocks.length aD)] aX, ow [(.slice aV aH.length aS)] aH, ow [am] ai, ow [(.slice ar aR.length ab)] aR] a w) (fun a hf => ⟨(.slice dH ([] : List Ins_).length dI), hf.sb rfl, hm.pk [2, 3, 4, 5, 6, 7, 8, 9, 10, 1, 0] rfl rfl⟩) ?_ ?_)
     ·
      repeat clear hm
      rintro _ _ ah ai a w ⟨am, hf, hm⟩ eY eZ ea _
      refine gv hf (gS (gS (gR (gM rfl (gM rfl (gY (yV st_64 rfl) (gB rfl (gE (go _ 90 rfl (decide_eq_true (by omega)) (gct rfl (gSk (gS (gBk (gg fun aW c7 bW => ?_))))))))))))))
      obtain ⟨aj, ak, eb, he⟩ := idx_form' (hm.ow_rep 10 rfl) bW
      obtain ⟨rfl, _, rfl⟩ := sl3 he
      obtain ⟨_, dJ, hm⟩ := hm.openE 10 rfl bW
      have dK := hm.ow_rep 0 rfl
      have br := dK
      obtain ⟨bX, rfl, -⟩ := id br
      replace br : GT.rep (hp _) [bX] aW := br
      clear dJ br
      replace hm : Mem w0 (hp w0) _ [ow [bX] (aW : List Int), blk aO [(nV 0), (nV 0), (.slice none 0 0)] 44, blk aQ [(nV aB.params), (nV aB.regs), (sV aF aG aB.blocks.length aE)] 44, holeE aF aG aB.blocks.length aE (aB.blocks : List Block_) (aN).toNat [(.slice aM aA.phis.length aI), aJ, (nV aA.jump), (nV aA.on), aK], ow [(.slice aM aA.phis.length aI)] aA.phis, ow [aJ] aA.ins, ow [aK] aA.next_, blk aP [(nV aC.params), (nV aC.regs), (.slice aL aC.blocks.length aD)] 44, ow [(.slice aL aC.blocks.length aD)] aX, ow [(.slice aV aH.length aS)] aH, ow [am] ai, holeE aj ak aR.length ab (aR : List (List Int)) (ah).toNat [bX]] := hm
      replace hm := hm.pk (L' := [ow [bX] aW, blk aO [(nV 0), (nV 0), (.slice none 0 0)] 44, blk aQ [(nV aB.params), (nV aB.regs), (sV aF aG aB.blocks.length aE)] 44, holeE aF aG aB.blocks.length aE (aB.blocks : List Block_) (aN).toNat [(.slice aM aA.phis.length aI), aJ, (nV aA.jump), (nV aA.on), aK], ow [(.slice aM aA.phis.length aI)] aA.phis, ow [aJ] aA.ins, ow [aK] aA.next_, blk aP [(nV aC.params), (nV aC.regs), (.slice aL aC.blocks.length aD)] 44, ow [(.slice aL aC.blocks.length aD)] aX, ow [(.slice aV aH.length aS)] aH, ow [am] ai, holeE aj ak aR.length ab (aR : List (List Int)) (ah).toNat [bX]]) [0, 1, 2, 3, 4, 5, 6, 7, 8, 9, 10, 11] rfl rfl
      refine gJg (fun cN a w => ∃ (bt : Value), St 157 [(2, (pV aO)), (4, (pV aQ)), (5, (pV aP)), (6, (nV aB.regs)), (7, (.bool (au))), (8, (nV aN)), (9, (.slice aM aA.phis.length aI)), (10, (.slice aV aH.length aS)), (11, (nV bC)), (14, bt), (15, (sV aj ak aR.length ab)), (16, (nV ah))] w0 (hp w0) [blk aO [(nV 0), (nV 0), (.slice none 0 0)] 44, blk aQ [(nV aB.params), (nV aB.regs), (sV aF aG aB.blocks.length aE)] 44, holeE aF aG aB.blocks.length aE (aB.blocks : List Block_) (aN).toNat [(.slice aM aA.phis.length aI), aJ, (nV aA.jump), (nV aA.on), aK], ow [(.slice aM aA.phis.length aI)] aA.phis, ow [aJ] aA.ins, ow [aK] aA.next_, blk aP [(nV aC.params), (nV aC.regs), (.slice aL aC.blocks.length aD)] 44, ow [(.slice aL aC.blocks.length aD)] aX, ow [(.slice aV aH.length aS)] aH, ow [bt] cN, ow [(sV aj ak aR.length ab)] aR] a w) (fun cN => ?_) ?_
      ·
       refine gW (.p 0 (.p 1 (.p 2 (.p 3 (.p 7 (.p 8 (.p 9 (.e 4 (.p 5 (.q 6 (.e 10 (.p 11 (.e 12 (.e 13 (.p 14 (.e 15 (.e 16 (.p 17 .fin) .nil) .nil)) .nil) .nil)) .nil))) (.e 10 (.p 11 (.q 12 (.e 4 (.p 5 (.q 6 (.e 13 (.p 14 (.e 15 (.e 16 (.p 17 .fin) .nil) .nil)) .nil))) (.e 13 (.e 4 (.p 5 (.e 6 (.p 14 (.e 15 (.e 16 (.p 17 .fin) .nil) .nil)) .nil)) .nil) .nil)))) .nil))))))))) [4, 6, 10, 12, 13] [0, 1, 2, 3, 5, 7, 8, 9, 11, 14, 17] hm [0, 1, 2, 3, 4, 5, 6, 7, 8, 9, 10, 11] [ow [bX] aW, blk aO [(nV 0), (nV 0), (.slice none 0 0)] 44, blk aQ [(nV aB.params), (nV aB.regs), (sV aF aG aB.blocks.length aE)] 44, holeE aF aG aB.blocks.length aE (aB.blocks : List Block_) (aN).toNat [(.slice aM aA.phis.length aI), aJ, (nV aA.jump), (nV aA.on), aK], ow [(.slice aM aA.phis.length aI)] aA.phis, ow [aJ] aA.ins, ow [aK] aA.next_, blk aP [(nV aC.params), (nV aC.regs), (.slice aL aC.blocks.length aD)] 44, ow [(.slice aL aC.blocks.length aD)] aX, ow [(.slice aV aH.length aS)] aH, ow [am] ai, holeE aj ak aR.length ab (aR : List (List Int)) (ah).toNat [bX]] rfl mxo (by kernel_rfl) (fun _ _ _ h => h.2) fun w hm hS => tP rfl (fun w => yM rfl) (tP rfl (fun w => yM rfl) (tP rfl (fun w => yM rfl) ?_))
       have hL5_3 := hm.holeE_len 11 rfl
       refine tP rfl (fun w => yI st_64 c7 (idx_lt2 bW hL5_3) rfl) (tP rfl (fun w => yM rfl) (tP rfl (fun w => yM rfl) ?_))
       have hL5_4 := hm.holeE_len 11 rfl
       refine tP rfl (fun w => yI st_64 c7 (idx_lt2 bW hL5_4) rfl) (gb fun aY cO => gb fun ae c8 => gb fun cP cQ => tMo ?_ ?_)
       ·
        refine tY rfl (yl isAgg57 ((hm.holeE_at 11 rfl).cell (j := 0) rfl) rfl) (tAs hS ?_)
        obtain ⟨dL, cR⟩ := getI_some.1 cO
        obtain ⟨bD, bE, bF, he⟩ := idx_form (hm.ow_rep 0 rfl) cR
        subst he
        refine tP rfl (fun w => yI st_57 dL (idx_lt cR) rfl) (tQ rfl hS (fun w hm => yl isAgg3 ((flat_cells (cs := [(nV aY)]) (hm.ow_rep 0 rfl) cR rfl).cell (j := 0) rfl) rfl) (tO (tY rfl (yl isAgg57 ((hm.holeE_at 11 rfl).cell (j := 0) rfl) rfl) (tAs hS ?_))))
        obtain ⟨dM, c9⟩ := getI_some.1 c8
        refine tP rfl (fun w => yI st_57 dM (idx_lt c9) rfl) (tO (tY rfl (yl isAgg3 ((flat_cells (cs := [(nV ae)]) (hm.ow_rep 0 rfl) c9 rfl).cell (j := 0) rfl) rfl) (tAs hS (tO (tf rfl rfl (fun a hf => e_build (vs := #[(0, (nV ae))]) (cs := [(nV ae)]) et_57 hf hm rfl rfl (by kernel_rfl) rfl rfl) ?_)))))
        rintro _ w ⟨bP, rfl, hm⟩
        replace hm := hm.lit (xs := ([ae] : List Int)) 0 rfl rfl rfl rfl
        refine tAk hm [1, 2, 3, 4, 5, 6, 7, 8, 9, 10, 11, 12] rfl fun hS => tP rfl (fun w => yG rfl (y_build (vs := [(0, (nV 2)), (1, (nV aY)), (2, (sV bP 0 1 1))]) (cs := #[(nV 2), (nV aY), (sV bP 0 1 1), (nV 0)]) rfl rfl (by kernel_rfl))) (tO (tf rfl rfl (fun a hf => e_build (vs := #[(0, (.agg #[(nV 2), (nV aY), (sV bP 0 1 1), (nV 0)]))]) (cs := [(nV 2), (nV aY), (sV bP 0 1 1), (nV 0)]) et_56 hf hm rfl rfl (by kernel_rfl) rfl rfl) ?_))
        rintro _ w ⟨bu, rfl, hm⟩
        replace hm := hm.els_nil (α := Ins_)
        replace hm : Mem w0 (hp w0) _ [els [] ([] : List Ins_), blk bu [(nV 2), (nV aY), (sV bP 0 1 1), (nV 0)] 61, ow [(nV 2), (nV aY), (sV bP 0 1 1), (nV 0)] ((⟨2, aY, ([ae] : List Int), 0⟩ : Ins_) : Ins_), ow [(sV bD bE aW.length bF)] aW, blk aO [(nV 0), (nV 0), (.slice none 0 0)] 44, blk aQ [(nV aB.params), (nV aB.regs), (sV aF aG aB.blocks.length aE)] 44, holeE aF aG aB.blocks.length aE (aB.blocks : List Block_) (aN).toNat [(.slice aM aA.phis.length aI), aJ, (nV aA.jump), (nV aA.on), aK], ow [(.slice aM aA.phis.length aI)] aA.phis, ow [aJ] aA.ins, ow [aK] aA.next_, blk aP [(nV aC.params), (nV aC.regs), (.slice aL aC.blocks.length aD)] 44, ow [(.slice aL aC.blocks.length aD)] aX, ow [(.slice aV aH.length aS)] aH, ow [am] ai, holeE aj ak aR.length ab (aR : List (List Int)) (ah).toNat [(sV bD bE aW.length bF)]] := mk_Ins_ 2 aY 0 hm 2 rfl
        replace hm := (hm.els_cons 0 2 (by decide) rfl rfl).pk (L' := [els [(nV 2), (nV aY), (sV bP 0 1 1), (nV 0)] ([(⟨2, aY, ([ae] : List Int), 0⟩ : Ins_)] : List Ins_), blk bu [(nV 2), (nV aY), (sV bP 0 1 1), (nV 0)] 61, ow [(sV bD bE aW.length bF)] aW, blk aO [(nV 0), (nV 0), (.slice none 0 0)] 44, blk aQ [(nV aB.params), (nV aB.regs), (sV aF aG aB.blocks.length aE)] 44, holeE aF aG aB.blocks.length aE (aB.blocks : List Block_) (aN).toNat [(.slice aM aA.phis.length aI), aJ, (nV aA.jump), (nV aA.on), aK], ow [(.slice aM aA.phis.length aI)] aA.phis, ow [aJ] aA.ins, ow [aK] aA.next_, blk aP [(nV aC.params), (nV aC.regs), (.slice aL aC.blocks.length aD)] 44, ow [(.slice aL aC.blocks.length aD)] aX, ow [(.slice aV aH.length aS)] aH, ow [am] ai, holeE aj ak aR.length ab (aR : List (List Int)) (ah).toNat [(sV bD bE aW.length bF)]]) [0, 1, 3, 4, 5, 6, 7, 8, 9, 10, 11, 12, 13, 14] rfl rfl
        replace hm := (hm.lit_els 1 0 (by decide) rfl rfl rfl rfl).pk (L' := [ow [(sV bu 0 1 1)] ([(⟨2, aY, ([ae] : List Int), 0⟩ : Ins_)] : List Ins_), ow [(sV bD bE aW.length bF)] aW, blk aO [(nV 0), (nV 0), (.slice none 0 0)] 44, blk aQ [(nV aB.params), (nV aB.regs), (sV aF aG aB.blocks.length aE)] 44, holeE aF aG aB.blocks.length aE (aB.blocks : List Block_) (aN).toNat [(.slice aM aA.phis.length aI), aJ, (nV aA.jump), (nV aA.on), aK], ow [(.slice aM aA.phis.length aI)] aA.phis, ow [aJ] aA.ins, ow [aK] aA.next_, blk aP [(nV aC.params), (nV aC.regs), (.slice aL aC.blocks.length aD)] 44, ow [(.slice aL aC.blocks.length aD)] aX, ow [(.slice aV aH.length aS)] aH, ow [am] ai, holeE aj ak aR.length ab (aR : List (List Int)) (ah).toNat [(sV bD bE aW.length bF)]]) [1, 2, 3, 4, 5, 6, 7, 8, 9, 10, 11, 12, 13] rfl rfl
        refine tAn rfl (tO ?_)
        obtain ⟨dN, dO⟩ := appM_some.1 cQ
        replace hm := (hm.both 11 0 (by decide) rfl rfl).pk (L' := [ow [(sV bD bE aW.length bF)] aW, blk aO [(nV 0), (nV 0), (.slice none 0 0)] 44, blk aQ [(nV aB.params), (nV aB.regs), (sV aF aG aB.blocks.length aE)] 44, holeE aF aG aB.blocks.length aE (aB.blocks : List Block_) (aN).toNat [(.slice aM aA.phis.length aI), aJ, (nV aA.jump), (nV aA.on), aK], ow [(.slice aM aA.phis.length aI)] aA.phis, ow [aJ] aA.ins, ow [aK] aA.next_, blk aP [(nV aC.params), (nV aC.regs), (.slice aL aC.blocks.length aD)] 44, ow [(.slice aL aC.blocks.length aD)] aX, ow [(.slice aV aH.length aS)] aH, both (ow [am] ai) (ow [(sV bu 0 1 1)] ([(⟨2, aY, ([ae] : List Int), 0⟩ : Ins_)] : List Ins_)), holeE aj ak aR.length ab (aR : List (List Int)) (ah).toNat [(sV bD bE aW.length bF)]]) [1, 2, 3, 4, 5, 6, 7, 8, 9, 10, 11, 12] rfl rfl
        refine tf rfl rfl (fun a hf => e_appendD (xs := ai) (ys := ([(⟨2, aY, ([ae] : List Int), 0⟩ : Ins_)] : List Ins_)) 10 et_56 hf hm rfl rfl rfl rfl dN) ?_
        rintro ca w hm
        rw [dO] at hm
        refine tAn rfl (tP rfl (fun w => yA rfl) (tE ?_))
        replace hm := hm.imp (c' := ow [(sV bD bE aW.length bF)] (aW : List Int)) 0 rfl (fun F h0 => h0)
        replace hm := (hm.shutE (y := (aW : List Int)) 11 0 (by decide) rfl rfl).pk (L' := [blk aO [(nV 0), (nV 0), (.slice none 0 0)] 44, blk aQ [(nV aB.params), (nV aB.regs), (sV aF aG aB.blocks.length aE)] 44, holeE aF aG aB.blocks.length aE (aB.blocks : List Block_) (aN).toNat [(.slice aM aA.phis.length aI), aJ, (nV aA.jump), (nV aA.on), aK], ow [(.slice aM aA.phis.length aI)] aA.phis, ow [aJ] aA.ins, ow [aK] aA.next_, blk aP [(nV aC.params), (nV aC.regs), (.slice aL aC.blocks.length aD)] 44, ow [(.slice aL aC.blocks.length aD)] aX, ow [(.slice aV aH.length aS)] aH, ow [ca] cP, ow [(sV aj ak aR.length ab)] (aR.set (ah).toNat aW)]) [1, 2, 3, 4, 5, 6, 7, 8, 9, 10, 11] rfl rfl
        rw [set_same bW] at hm
        exact gZ fun a hf => ⟨ca, hf.sb rfl, hm.pk [0, 1, 2, 3, 4, 5, 6, 7, 8, 9, 10] rfl rfl⟩
       refine tO (tY rfl (yl isAgg57 ((hm.holeE_at 11 rfl).cell (j := 0) rfl) rfl) (tAs hS ?_))
       obtain ⟨dP, cS⟩ := getI_some.1 c8
       obtain ⟨an, ao, ap, he⟩ := idx_form (hm.ow_rep 0 rfl) cS
       subst he
       refine tP rfl (fun w => yI st_57 dP (idx_lt cS) rfl) (tQ rfl hS (fun w hm => yl isAgg3 ((flat_cells (cs := [(nV ae)]) (hm.ow_rep 0 rfl) cS rfl).cell (j := 0) rfl) rfl) (tMo ?_ ?_))
       ·
        refine tY rfl (yl isAgg57 ((hm.holeE_at 11 rfl).cell (j := 0) rfl) rfl) (tAs hS ?_)
        obtain ⟨dQ, cb⟩ := getI_some.1 cO
        refine tP rfl (fun w => yI st_57 dQ (idx_lt cb) rfl) (tQ rfl hS (fun w hm => yl isAgg3 ((flat_cells (cs := [(nV aY)]) (hm.ow_rep 0 rfl) cb rfl).cell (j := 0) rfl) rfl) (tO (tf rfl rfl (fun a hf => e_build (vs := #[(0, (nV ae))]) (cs := [(nV ae)]) et_57 hf hm rfl rfl (by kernel_rfl) rfl rfl) ?_)))
        rintro _ w ⟨bQ, rfl, hm⟩
        replace hm := hm.lit (xs := ([ae] : List Int)) 0 rfl rfl rfl rfl
        refine tAk hm [1, 2, 3, 4, 5, 6, 7, 8, 9, 10, 11, 12] rfl fun hS => tP rfl (fun w => yG rfl (y_build (vs := [(0, (nV 2)), (1, (nV aY)), (2, (sV bQ 0 1 1))]) (cs := #[(nV 2), (nV aY), (sV bQ 0 1 1), (nV 0)]) rfl rfl (by kernel_rfl))) (tO (tf rfl rfl (fun a hf => e_build (vs := #[(0, (.agg #[(nV 2), (nV aY), (sV bQ 0 1 1), (nV 0)]))]) (cs := [(nV 2), (nV aY), (sV bQ 0 1 1), (nV 0)]) et_56 hf hm rfl rfl (by kernel_rfl) rfl rfl) ?_))
        rintro _ w ⟨bv, rfl, hm⟩
        replace hm := hm.els_nil (α := Ins_)
        replace hm : Mem w0 (hp w0) _ [els [] ([] : List Ins_), blk bv [(nV 2), (nV aY), (sV bQ 0 1 1), (nV 0)] 61, ow [(nV 2), (nV aY), (sV bQ 0 1 1), (nV 0)] ((⟨2, aY, ([ae] : List Int), 0⟩ : Ins_) : Ins_), ow [(sV an ao aW.length ap)] aW, blk aO [(nV 0), (nV 0), (.slice none 0 0)] 44, blk aQ [(nV aB.params), (nV aB.regs), (sV aF aG aB.blocks.length aE)] 44, holeE aF aG aB.blocks.length aE (aB.blocks : List Block_) (aN).toNat [(.slice aM aA.phis.length aI), aJ, (nV aA.jump), (nV aA.on), aK], ow [(.slice aM aA.phis.length aI)] aA.phis, ow [aJ] aA.ins, ow [aK] aA.next_, blk aP [(nV aC.params), (nV aC.regs), (.slice aL aC.blocks.length aD)] 44, ow [(.slice aL aC.blocks.length aD)] aX, ow [(.slice aV aH.length aS)] aH, ow [am] ai, holeE aj ak aR.length ab (aR : List (List Int)) (ah).toNat [(sV an ao aW.length ap)]] := mk_Ins_ 2 aY 0 hm 2 rfl
        replace hm := (hm.els_cons 0 2 (by decide) rfl rfl).pk (L' := [els [(nV 2), (nV aY), (sV bQ 0 1 1), (nV 0)] ([(⟨2, aY, ([ae] : List Int), 0⟩ : Ins_)] : List Ins_), blk bv [(nV 2), (nV aY), (sV bQ 0 1 1), (nV 0)] 61, ow [(sV an ao aW.length ap)] aW, blk aO [(nV 0), (nV 0), (.slice none 0 0)] 44, blk aQ [(nV aB.params), (nV aB.regs), (sV aF aG aB.blocks.length aE)] 44, holeE aF aG aB.blocks.length aE (aB.blocks : List Block_) (aN).toNat [(.slice aM aA.phis.length aI), aJ, (nV aA.jump), (nV aA.on), aK], ow [(.slice aM aA.phis.length aI)] aA.phis, ow [aJ] aA.ins, ow [aK] aA.next_, blk aP [(nV aC.params), (nV aC.regs), (.slice aL aC.blocks.length aD)] 44, ow [(.slice aL aC.blocks.length aD)] aX, ow [(.slice aV aH.length aS)] aH, ow [am] ai, holeE aj ak aR.length ab (aR : List (List Int)) (ah).toNat [(sV an ao aW.length ap)]]) [0, 1, 3, 4, 5, 6, 7, 8, 9, 10, 11, 12, 13, 14] rfl rfl
        replace hm := (hm.lit_els 1 0 (by decide) rfl rfl rfl rfl).pk (L' := [ow [(sV bv 0 1 1)] ([(⟨2, aY, ([ae] : List Int), 0⟩ : Ins_)] : List Ins_), ow [(sV an ao aW.length ap)] aW, blk aO [(nV 0), (nV 0), (.slice none 0 0)] 44, blk aQ [(nV aB.params), (nV aB.regs), (sV aF aG aB.blocks.length aE)] 44, holeE aF aG aB.blocks.length aE (aB.blocks : List Block_) (aN).toNat [(.slice aM aA.phis.length aI), aJ, (nV aA.jump), (nV aA.on), aK], ow [(.slice aM aA.phis.length aI)] aA.phis, ow [aJ] aA.ins, ow [aK] aA.next_, blk aP [(nV aC.params), (nV aC.regs), (.slice aL aC.blocks.length aD)] 44, ow [(.slice aL aC.blocks.length aD)] aX, ow [(.slice aV aH.length aS)] aH, ow [am] ai, holeE aj ak aR.length ab (aR : List (List Int)) (ah).toNat [(sV an ao aW.length ap)]]) [1, 2, 3, 4, 5, 6, 7, 8, 9, 10, 11, 12, 13] rfl rfl
        refine tAn rfl (tO ?_)
        obtain ⟨dR, dS⟩ := appM_some.1 cQ
        replace hm := (hm.both 11 0 (by decide) rfl rfl).pk (L' := [ow [(sV an ao aW.length ap)] aW, blk aO [(nV 0), (nV 0), (.slice none 0 0)] 44, blk aQ [(nV aB.params), (nV aB.regs), (sV aF aG aB.blocks.length aE)] 44, holeE aF aG aB.blocks.length aE (aB.blocks : List Block_) (aN).toNat [(.slice aM aA.phis.length aI), aJ, (nV aA.jump), (nV aA.on), aK], ow [(.slice aM aA.phis.length aI)] aA.phis, ow [aJ] aA.ins, ow [aK] aA.next_, blk aP [(nV aC.params), (nV aC.regs), (.slice aL aC.blocks.length aD)] 44, ow [(.slice aL aC.blocks.length aD)] aX, ow [(.slice aV aH.length aS)] aH, both (ow [am] ai) (ow [(sV bv 0 1 1)] ([(⟨2, aY, ([ae] : List Int), 0⟩ : Ins_)] : List Ins_)), holeE aj ak aR.length ab (aR : List (List Int)) (ah).toNat [(sV an ao aW.length ap)]]) [1, 2, 3, 4, 5, 6, 7, 8, 9, 10, 11, 12] rfl rfl
        refine tf rfl rfl (fun a hf => e_appendD (xs := ai) (ys := ([(⟨2, aY, ([ae] : List Int), 0⟩ : Ins_)] : List Ins_)) 10 et_56 hf hm rfl rfl rfl rfl dR) ?_
        rintro cc w hm
        rw [dS] at hm
        refine tAn rfl (tP rfl (fun w => yA rfl) (tE ?_))
        replace hm := hm.imp (c' := ow [(sV an ao aW.length ap)] (aW : List Int)) 0 rfl (fun F h0 => h0)
        replace hm := (hm.shutE (y := (aW : List Int)) 11 0 (by decide) rfl rfl).pk (L' := [blk aO [(nV 0), (nV 0), (.slice none 0 0)] 44, blk aQ [(nV aB.params), (nV aB.regs), (sV aF aG aB.blocks.length aE)] 44, holeE aF aG aB.blocks.length aE (aB.blocks : List Block_) (aN).toNat [(.slice aM aA.phis.length aI), aJ, (nV aA.jump), (nV aA.on), aK], ow [(.slice aM aA.phis.length aI)] aA.phis, ow [aJ] aA.ins, ow [aK] aA.next_, blk aP [(nV aC.params), (nV aC.regs), (.slice aL aC.blocks.length aD)] 44, ow [(.slice aL aC.blocks.length aD)] aX, ow [(.slice aV aH.length aS)] aH, ow [cc] cP, ow [(sV aj ak aR.length ab)] (aR.set (ah).toNat aW)]) [1, 2, 3, 4, 5, 6, 7, 8, 9, 10, 11] rfl rfl
        rw [set_same bW] at hm
        exact gZ fun a hf => ⟨cc, hf.sb rfl, hm.pk [0, 1, 2, 3, 4, 5, 6, 7, 8, 9, 10] rfl rfl⟩
       refine tO (tf rfl rfl (fun a hf => e_build (vs := #[(0, (nV ae))]) (cs := [(nV ae)]) et_57 hf hm rfl rfl (by kernel_rfl) rfl rfl) ?_)
       rintro _ w ⟨bR, rfl, hm⟩
       replace hm := hm.lit (xs := ([ae] : List Int)) 0 rfl rfl rfl rfl
       refine tAk hm [1, 2, 3, 4, 5, 6, 7, 8, 9, 10, 11, 12] rfl fun hS => tO (tY rfl (yl isAgg57 ((hm.holeE_at 12 rfl).cell (j := 0) rfl) rfl) (tAs hS ?_))
       obtain ⟨dT, cd⟩ := getI_some.1 cO
       refine tP rfl (fun w => yI st_57 dT (idx_lt cd) rfl) (tO (tY rfl (yl isAgg3 ((flat_cells (cs := [(nV aY)]) (hm.ow_rep 1 rfl) cd rfl).cell (j := 0) rfl) rfl) (tAs hS (tP rfl (fun w => yG rfl (y_build (vs := [(0, (nV 2)), (1, (nV aY)), (2, (sV bR 0 1 1))]) (cs := #[(nV 2), (nV aY), (sV bR 0 1 1), (nV 0)]) rfl rfl (by kernel_rfl))) (tO (tf rfl rfl (fun a hf => e_build (vs := #[(0, (.agg #[(nV 2), (nV aY), (sV bR 0 1 1), (nV 0)]))]) (cs := [(nV 2), (nV aY), (sV bR 0 1 1), (nV 0)]) et_56 hf hm rfl rfl (by kernel_rfl) rfl rfl) ?_))))))
       rintro _ w ⟨bw, rfl, hm⟩
       replace hm := hm.els_nil (α := Ins_)
       replace hm : Mem w0 (hp w0) _ [els [] ([] : List Ins_), blk bw [(nV 2), (nV aY), (sV bR 0 1 1), (nV 0)] 61, ow [(nV 2), (nV aY), (sV bR 0 1 1), (nV 0)] ((⟨2, aY, ([ae] : List Int), 0⟩ : Ins_) : Ins_), ow [(sV an ao aW.length ap)] aW, blk aO [(nV 0), (nV 0), (.slice none 0 0)] 44, blk aQ [(nV aB.params), (nV aB.regs), (sV aF aG aB.blocks.length aE)] 44, holeE aF aG aB.blocks.length aE (aB.blocks : List Block_) (aN).toNat [(.slice aM aA.phis.length aI), aJ, (nV aA.jump), (nV aA.on), aK], ow [(.slice aM aA.phis.length aI)] aA.phis, ow [aJ] aA.ins, ow [aK] aA.next_, blk aP [(nV aC.params), (nV aC.regs), (.slice aL aC.blocks.length aD)] 44, ow [(.slice aL aC.blocks.length aD)] aX, ow [(.slice aV aH.length aS)] aH, ow [am] ai, holeE aj ak aR.length ab (aR : List (List Int)) (ah).toNat [(sV an ao aW.length ap)]] := mk_Ins_ 2 aY 0 hm 2 rfl
       replace hm := (hm.els_cons 0 2 (by decide) rfl rfl).pk (L' := [els [(nV 2), (nV aY), (sV bR 0 1 1), (nV 0)] ([(⟨2, aY, ([ae] : List Int), 0⟩ : Ins_)] : List Ins_), blk bw [(nV 2), (nV aY), (sV bR 0 1 1), (nV 0)] 61, ow [(sV an ao aW.length ap)] aW, blk aO [(nV 0), (nV 0), (.slice none 0 0)] 44, blk aQ [(nV aB.params), (nV aB.regs), (sV aF aG aB.blocks.length aE)] 44, holeE aF aG aB.blocks.length aE (aB.blocks : List Block_) (aN).toNat [(.slice aM aA.phis.length aI), aJ, (nV aA.jump), (nV aA.on), aK], ow [(.slice aM aA.phis.length aI)] aA.phis, ow [aJ] aA.ins, ow [aK] aA.next_, blk aP [(nV aC.params), (nV aC.regs), (.slice aL aC.blocks.length aD)] 44, ow [(.slice aL aC.blocks.length aD)] aX, ow [(.slice aV aH.length aS)] aH, ow [am] ai, holeE aj ak aR.length ab (aR : List (List Int)) (ah).toNat [(sV an ao aW.length ap)]]) [0, 1, 3, 4, 5, 6, 7, 8, 9, 10, 11, 12, 13, 14] rfl rfl
       replace hm := (hm.lit_els 1 0 (by decide) rfl rfl rfl rfl).pk (L' := [ow [(sV bw 0 1 1)] ([(⟨2, aY, ([ae] : List Int), 0⟩ : Ins_)] : List Ins_), ow [(sV an ao aW.length ap)] aW, blk aO [(nV 0), (nV 0), (.slice none 0 0)] 44, blk aQ [(nV aB.params), (nV aB.regs), (sV aF aG aB.blocks.length aE)] 44, holeE aF aG aB.blocks.length aE (aB.blocks : List Block_) (aN).toNat [(.slice aM aA.phis.length aI), aJ, (nV aA.jump), (nV aA.on), aK], ow [(.slice aM aA.phis.length aI)] aA.phis, ow [aJ] aA.ins, ow [aK] aA.next_, blk aP [(nV aC.params), (nV aC.regs), (.slice aL aC.blocks.length aD)] 44, ow [(.slice aL aC.blocks.length aD)] aX, ow [(.slice aV aH.length aS)] aH, ow [am] ai, holeE aj ak aR.length ab (aR : List (List Int)) (ah).toNat [(sV an ao aW.length ap)]]) [1, 2, 3, 4, 5, 6, 7, 8, 9, 10, 11, 12, 13] rfl rfl
       refine tAn rfl (tO ?_)
       obtain ⟨dU, dV⟩ := appM_some.1 cQ
       replace hm := (hm.both 11 0 (by decide) rfl rfl).pk (L' := [ow [(sV an ao aW.length ap)] aW, blk aO [(nV 0), (nV 0), (.slice none 0 0)] 44, blk aQ [(nV aB.params), (nV aB.regs), (sV aF aG aB.blocks.length aE)] 44, holeE aF aG aB.blocks.length aE (aB.blocks : List Block_) (aN).toNat [(.slice aM aA.phis.length aI), aJ, (nV aA.jump), (nV aA.on), aK], ow [(.slice aM aA.phis.length aI)] aA.phis, ow [aJ] aA.ins, ow [aK] aA.next_, blk aP [(nV aC.params), (nV aC.regs), (.slice aL aC.blocks.length aD)] 44, ow [(.slice aL aC.blocks.length aD)] aX, ow [(.slice aV aH.length aS)] aH, both (ow [am] ai) (ow [(sV bw 0 1 1)] ([(⟨2, aY, ([ae] : List Int), 0⟩ : Ins_)] : List Ins_)), holeE aj ak aR.length ab (aR : List (List Int)) (ah).toNat [(sV an ao aW.length ap)]]) [1, 2, 3, 4, 5, 6, 7, 8, 9, 10, 11, 12] rfl rfl
       refine tf rfl rfl (fun a hf => e_appendD (xs := ai) (ys := ([(⟨2, aY, ([ae] : List Int), 0⟩ : Ins_)] : List Ins_)) 10 et_56 hf hm rfl rfl rfl rfl dU) ?_
       rintro ce w hm
       rw [dV] at hm
       refine tAn rfl (tP rfl (fun w => yA rfl) (tE ?_))
       replace hm := hm.imp (c' := ow [(sV an ao aW.length ap)] (aW : List Int)) 0 rfl (fun F h0 => h0)
       replace hm := (hm.shutE (y := (aW : List Int)) 11 0 (by decide) rfl rfl).pk (L' := [blk aO [(nV 0), (nV 0), (.slice none 0 0)] 44, blk aQ [(nV aB.params), (nV aB.regs), (sV aF aG aB.blocks.length aE)] 44, holeE aF aG aB.blocks.length aE (aB.blocks : List Block_) (aN).toNat [(.slice aM aA.phis.length aI), aJ, (nV aA.jump), (nV aA.on), aK], ow [(.slice aM aA.phis.length aI)] aA.phis, ow [aJ] aA.ins, ow [aK] aA.next_, blk aP [(nV aC.params), (nV aC.regs), (.slice aL aC.blocks.length aD)] 44, ow [(.slice aL aC.blocks.length aD)] aX, ow [(.slice aV aH.length aS)] aH, ow [ce] cP, ow [(sV aj ak aR.length ab)] (aR.set (ah).toNat aW)]) [1, 2, 3, 4, 5, 6, 7, 8, 9, 10, 11] rfl rfl
       rw [set_same bW] at hm
       exact gZ fun a hf => ⟨ce, hf.sb rfl, hm.pk [0, 1, 2, 3, 4, 5, 6, 7, 8, 9, 10] rfl rfl⟩
      repeat clear hm
      rintro cN a w ⟨bt, hf, hm⟩
      exact gv hf (gR (gM rfl (gP (by omega) (by omega) rfl (gA rfl (gE (gZe fun a hf => ⟨bt, hf.sb rfl, hm.pk [0, 1, 2, 3, 4, 5, 6, 7, 8, 9, 10] rfl rfl⟩))))))
     repeat clear hm
     rintro ec bx a w ⟨cf, hf, hm⟩ ed ee
     refine gv hf (gS (gS (gR (gM rfl (gM rfl (gY (yV st_64 rfl) (gB rfl (gE (go _ 90 rfl (decide_eq_false (by omega)) (gcf rfl (gXt (gHh (gS (gR (gM rfl (gY (yV st_57 rfl) (gB rfl (gE (gJ hm (fun bz => [(2, (pV aO)), (4, (pV aQ)), (5, (pV aP)), (6, (nV aB.regs)), (7, (.bool (au))), (8, (nV aN)), (9, (.slice aM aA.phis.length aI)), (10, (.slice aV aH.length aS)), (11, (nV bC))]) (fun bz => [blk aO [(nV 0), (nV 0), (.slice none 0 0)] 44, blk aQ [(nV aB.params), (nV aB.regs), (sV aF aG aB.blocks.length aE)] 44, holeE aF aG aB.blocks.length aE (aB.blocks : List Block_) (aN).toNat [(.slice aM aA.phis.length aI), aJ, (nV aA.jump), (nV aA.on), aK], ow [(.slice aM aA.phis.length aI)] aA.phis, ow [aJ] aA.ins, ow [aK] aA.next_, blk aP [(nV aC.params), (nV aC.regs), (.slice aL aC.blocks.length aD)] 44, ow [(.slice aL aC.blocks.length aD)] bz, ow [(.slice aV aH.length aS)] aH]) (fun bz => ?_) ?_)))))))))))))))))))
     ·
      refine gsd 112 rfl (fun dW => ?_) fun dW => ?_
      ·
       refine gct rfl (gg fun aZ cg bd => ?_)
       obtain ⟨ax, ay, ef, he⟩ := idx_form' (hm.ow_rep 7 rfl) bd
       obtain ⟨rfl, _, rfl⟩ := sl3 he
       obtain ⟨bS, cT, bT, hm⟩ := pin_Block_ hm 7 rfl bd
       refine gW (.p 0 (.p 2 (.p 3 (.p 4 (.p 6 (.q 1 (.e 5 (.p 7 (.p 8 (.e 9 (.e 10 (.p 11 (.p 12 (.e 13 .fin .nil))) .nil) .nil))) .nil))))))) [5, 9, 10] [0, 2, 3, 4, 6, 7, 8, 11, 12] hm [0, 2, 3, 4, 5, 6, 7, 8, 9, 10, 11, 13] [ow [bT] aZ.next_, ow [bS] aZ.phis, blk aO [(nV 0), (nV 0), (.slice none 0 0)] 44, blk aQ [(nV aB.params), (nV aB.regs), (sV aF aG aB.blocks.length aE)] 44, holeE aF aG aB.blocks.length aE (aB.blocks : List Block_) (aN).toNat [(.slice aM aA.phis.length aI), aJ, (nV aA.jump), (nV aA.on), aK], ow [(.slice aM aA.phis.length aI)] aA.phis, ow [aJ] aA.ins, ow [aK] aA.next_, blk aP [(nV aC.params), (nV aC.regs), (sV ax ay aC.blocks.length aD)] 44, holeE ax ay aC.blocks.length aD (aX : List Block_) (aN).toNat [bS, cT, (nV aZ.jump), (nV aZ.on), bT], ow [(.slice aV aH.length aS)] aH, ow [(.slice ar aR.length ab)] aR] rfl mxo (by kernel_rfl) (fun _ _ _ h => h.2) fun w hm hS => tP rfl (fun w => yF fo_44_2 rfl) (tP rfl (fun w => yM rfl) (tP rfl (fun w => yM rfl) (tP rfl (fun w => yF fo_44_2 rfl) (tP rfl (fun w => yM rfl) (tQ rfl hS (fun w hm => yL hm 8 isAgg42 rfl) (tO (tY rfl (yL hm 9 isAgg42 rfl) (tAs hS ?_))))))))
       have hL4_1 := hm.holeE_len 10 rfl
       refine tP rfl (fun w => yI st_42 cg (idx_lt2 bd hL4_1) rfl) (tP rfl (fun w => yF fo_59_1 rfl) (tO (tY rfl (yl isAgg56 ((hm.holeE_at 10 rfl).cell (j := 1) rfl) rfl) (tAs hS (tO (gb fun be dX => ?_))))))
       obtain ⟨dY, dZ⟩ := appM_some.1 dX
       replace hm := (hm.both 12 1 (by decide) rfl rfl).pk (L' := [ow [bT] aZ.next_, ow [bS] aZ.phis, blk aO [(nV 0), (nV 0), (.slice none 0 0)] 44, blk aQ [(nV aB.params), (nV aB.regs), (sV aF aG aB.blocks.length aE)] 44, holeE aF aG aB.blocks.length aE (aB.blocks : List Block_) (aN).toNat [(.slice aM aA.phis.length aI), aJ, (nV aA.jump), (nV aA.on), aK], ow [(.slice aM aA.phis.length aI)] aA.phis, ow [aJ] aA.ins, ow [aK] aA.next_, blk aP [(nV aC.params), (nV aC.regs), (sV ax ay aC.blocks.length aD)] 44, holeE ax ay aC.blocks.length aD (aX : List Block_) (aN).toNat [bS, cT, (nV aZ.jump), (nV aZ.on), bT], ow [(.slice aV aH.length aS)] aH, both (ow [cf] bx) (ow [cT] aZ.ins), ow [(.slice ar aR.length ab)] aR]) [0, 2, 3, 4, 5, 6, 7, 8, 9, 10, 11, 12, 13] rfl rfl
       refine tf rfl rfl (fun a hf => e_appendD (xs := bx) (ys := aZ.ins) 11 et_56 hf hm rfl rfl rfl rfl dY) ?_
       rintro b6 w hm
       rw [dZ] at hm
       refine tAk hm [0, 1, 2, 3, 4, 5, 6, 7, 8, 9, 10, 12] rfl fun hS => ?_
       have hL4_2 := hm.holeE_len 9 rfl
       refine tP rfl (fun w => yI st_42 cg (idx_lt2 bd hL4_2) rfl) (tP rfl (fun w => yF fo_59_1 rfl) (tO ?_))
       have cj : ∀ u ∈ ([b6] : List Value), u.oneCell' = true := (one_cons (rep_one (hm.ow_rep 11 rfl)) one_nil)
       refine tf0 rfl rfl (fun a hf => e_storeH (j := 1) (vs := [b6]) 9 hf hm rfl rfl rfl sizeOf56 rfl rfl (cells_one (cj _ (List.mem_singleton.2 rfl))) cj rfl) ?_
       rintro _ w hm
       replace hm : Mem w0 (hp w0) _ [ow [bT] aZ.next_, ow [bS] aZ.phis, blk aO [(nV 0), (nV 0), (.slice none 0 0)] 44, blk aQ [(nV aB.params), (nV aB.regs), (sV aF aG aB.blocks.length aE)] 44, holeE aF aG aB.blocks.length aE (aB.blocks : List Block_) (aN).toNat [(.slice aM aA.phis.length aI), aJ, (nV aA.jump), (nV aA.on), aK], ow [(.slice aM aA.phis.length aI)] aA.phis, ow [aJ] aA.ins, ow [aK] aA.next_, blk aP [(nV aC.params), (nV aC.regs), (sV ax ay aC.blocks.length aD)] 44, holeE ax ay aC.blocks.length aD (aX : List Block_) (aN).toNat [bS, b6, (nV aZ.jump), (nV aZ.on), bT], ow [(.slice aV aH.length aS)] aH, ow [b6] be, ow [(.slice ar aR.length ab)] aR] := hm
       refine tAn rfl (tE ?_)
       replace hm := (mk_Block_ aZ.jump aZ.on hm 1 11 0 rfl).pk (L' := [ow [bS, b6, (nV aZ.jump), (nV aZ.on), bT] ((⟨aZ.phis, be, aZ.jump, aZ.on, aZ.next_⟩ : Block_) : Block_), blk aO [(nV 0), (nV 0), (.slice none 0 0)] 44, blk aQ [(nV aB.params), (nV aB.regs), (sV aF aG aB.blocks.length aE)] 44, holeE aF aG aB.blocks.length aE (aB.blocks : List Block_) (aN).toNat [(.slice aM aA.phis.length aI), aJ, (nV aA.jump), (nV aA.on), aK], ow [(.slice aM aA.phis.length aI)] aA.phis, ow [aJ] aA.ins, ow [aK] aA.next_, blk aP [(nV aC.params), (nV aC.regs), (sV ax ay aC.blocks.length aD)] 44, holeE ax ay aC.blocks.length aD (aX : List Block_) (aN).toNat [bS, b6, (nV aZ.jump), (nV aZ.on), bT], ow [(.slice aV aH.length aS)] aH, ow [(.slice ar aR.length ab)] aR]) [1, 2, 3, 4, 5, 6, 7, 8, 9, 10, 12] rfl rfl
       replace hm := (hm.shutE (y := ((⟨aZ.phis, be, aZ.jump, aZ.on, aZ.next_⟩ : Block_) : Block_)) 8 0 (by decide) rfl rfl).pk (L' := [blk aO [(nV 0), (nV 0), (.slice none 0 0)] 44, blk aQ [(nV aB.params), (nV aB.regs), (sV aF aG aB.blocks.length aE)] 44, holeE aF aG aB.blocks.length aE (aB.blocks : List Block_) (aN).toNat [(.slice aM aA.phis.length aI), aJ, (nV aA.jump), (nV aA.on), aK], ow [(.slice aM aA.phis.length aI)] aA.phis, ow [aJ] aA.ins, ow [aK] aA.next_, blk aP [(nV aC.params), (nV aC.regs), (sV ax ay aC.blocks.length aD)] 44, ow [(sV ax ay aC.blocks.length aD)] (aX.set (aN).toNat (⟨aZ.phis, be, aZ.jump, aZ.on, aZ.next_⟩ : Block_)), ow [(.slice aV aH.length aS)] aH, ow [(.slice ar aR.length ab)] aR]) [1, 2, 3, 4, 5, 6, 7, 8, 9, 10] rfl rfl
       have eg := List.getElem?_set_self (a := ((⟨aZ.phis, be, aZ.jump, aZ.on, aZ.next_⟩ : Block_) : Block_)) (idx_lt bd)
       exact gz hm [0, 1, 2, 3, 4, 5, 6, 7, 8] rfl
      refine gcf rfl (gg fun bY ck bf => gg fun aa cl bg => ?_)
      obtain ⟨az, bA, eh, he⟩ := idx_form' (hm.ow_rep 7 rfl) bg
      obtain ⟨rfl, _, rfl⟩ := sl3 he
      obtain ⟨bU, cU, bV, hm⟩ := pin_Block_ hm 7 rfl bg
      refine gW (.p 0 (.p 2 (.p 3 (.p 4 (.p 6 (.p 8 (.p 9 (.p 10 (.p 15 (.q 1 (.q 5 (.q 7 (.e 11 (.p 12 (.p 13 (.e 14 (.e 16 (.p 17 (.p 18 (.e 19 .fin .nil))) .nil) .nil))) .nil))))))))))))) [1, 5, 7, 11, 14, 16] [0, 2, 3, 4, 6, 8, 9, 10, 12, 13, 15, 17, 18] hm [0, 2, 3, 4, 5, 6, 7, 8, 9, 10, 11, 13] [ow [bV] aa.next_, ow [bU] aa.phis, blk aO [(nV 0), (nV 0), (.slice none 0 0)] 44, blk aQ [(nV aB.params), (nV aB.regs), (sV aF aG aB.blocks.length aE)] 44, holeE aF aG aB.blocks.length aE (aB.blocks : List Block_) (aN).toNat [(.slice aM aA.phis.length aI), aJ, (nV aA.jump), (nV aA.on), aK], ow [(.slice aM aA.phis.length aI)] aA.phis, ow [aJ] aA.ins, ow [aK] aA.next_, blk aP [(nV aC.params), (nV aC.regs), (sV az bA aC.blocks.length aD)] 44, holeE az bA aC.blocks.length aD (aX : List Block_) (bY).toNat [bU, cU, (nV aa.jump), (nV aa.on), bV], ow [(.slice aV aH.length aS)] aH, ow [(.slice ar aR.length ab)] aR] rfl mxo (by kernel_rfl) (fun _ _ _ h => h.2) fun w hm hS => tP rfl (fun w => yF fo_44_2 rfl) (tP rfl (fun w => yM rfl) (tP rfl (fun w => yM rfl) ?_))
      obtain ⟨cA, cB, el, he⟩ := idx_form (hm.ow_rep 11 rfl) bf
      obtain ⟨rfl, _, rfl⟩ := sl3 he
      refine tP rfl (fun w => yI st_57 ck (idx_lt bf) rfl) (tP rfl (fun w => yF fo_44_2 rfl) (tP rfl (fun w => yM rfl) (tP rfl (fun w => yM rfl) (tP rfl (fun w => yI st_57 ck (idx_lt bf) rfl) (tP rfl (fun w => yM rfl) (tQ rfl hS (fun w hm => yL hm 8 isAgg42 rfl) (tQ rfl hS (fun w hm => yl isAgg3 ((flat_cells (cs := [(nV bY)]) (hm.ow_rep 10 rfl) bf rfl).cell (j := 0) rfl) rfl) (tQ rfl hS (fun w hm => yL hm 8 isAgg42 rfl) (tO (tY rfl (yl isAgg3 ((flat_cells (cs := [(nV bY)]) (hm.ow_rep 11 rfl) bf rfl).cell (j := 0) rfl) rfl) (tAs hS ?_)))))))))))
      have hL4_3 := hm.holeE_len 10 rfl
      refine tP rfl (fun w => yI st_42 cl (idx_lt2 bg hL4_3) rfl) (tP rfl (fun w => yF fo_59_1 rfl) (tO (tY rfl (yl isAgg56 ((hm.holeE_at 10 rfl).cell (j := 1) rfl) rfl) (tAs hS (tO (gb fun bh d1 => ?_))))))
      obtain ⟨d2, d3⟩ := appM_some.1 d1
      replace hm := (hm.both 1 12 (by decide) rfl rfl).pk (L' := [ow [bV] aa.next_, both (ow [cU] aa.ins) (ow [cf] bx), ow [bU] aa.phis, blk aO [(nV 0), (nV 0), (.slice none 0 0)] 44, blk aQ [(nV aB.params), (nV aB.regs), (sV aF aG aB.blocks.length aE)] 44, holeE aF aG aB.blocks.length aE (aB.blocks : List Block_) (aN).toNat [(.slice aM aA.phis.length aI), aJ, (nV aA.jump), (nV aA.on), aK], ow [(.slice aM aA.phis.length aI)] aA.phis, ow [aJ] aA.ins, ow [aK] aA.next_, blk aP [(nV aC.params), (nV aC.regs), (sV az bA aC.blocks.length aD)] 44, holeE az bA aC.blocks.length aD (aX : List Block_) (bY).toNat [bU, cU, (nV aa.jump), (nV aa.on), bV], ow [(sV cA cB aH.length aS)] aH, ow [(.slice ar aR.length ab)] aR]) [0, 1, 2, 3, 4, 5, 6, 7, 8, 9, 10, 11, 13] rfl rfl
      refine tf rfl rfl (fun a hf => e_appendD (xs := aa.ins) (ys := bx) 1 et_56 hf hm rfl rfl rfl rfl d2) ?_
      rintro b7 w hm
      rw [d3] at hm
      refine tAk hm [0, 2, 3, 4, 5, 6, 7, 8, 9, 10, 11, 12] rfl fun hS => ?_
      have hL4_4 := hm.holeE_len 10 rfl
      refine tP rfl (fun w => yI st_42 cl (idx_lt2 bg hL4_4) rfl) (tP rfl (fun w => yF fo_59_1 rfl) (tO ?_))
      have cm : ∀ u ∈ ([b7] : List Value), u.oneCell' = true := (one_cons (rep_one (hm.ow_rep 1 rfl)) one_nil)
      refine tf0 rfl rfl (fun a hf => e_storeH (j := 1) (vs := [b7]) 10 hf hm rfl rfl rfl sizeOf56 rfl rfl (cells_one (cm _ (List.mem_singleton.2 rfl))) cm rfl) ?_
      rintro _ w hm
      replace hm : Mem w0 (hp w0) _ [ow [bV] aa.next_, ow [b7] bh, ow [bU] aa.phis, blk aO [(nV 0), (nV 0), (.slice none 0 0)] 44, blk aQ [(nV aB.params), (nV aB.regs), (sV aF aG aB.blocks.length aE)] 44, holeE aF aG aB.blocks.length aE (aB.blocks : List Block_) (aN).toNat [(.slice aM aA.phis.length aI), aJ, (nV aA.jump), (nV aA.on), aK], ow [(.slice aM aA.phis.length aI)] aA.phis, ow [aJ] aA.ins, ow [aK] aA.next_, blk aP [(nV aC.params), (nV aC.regs), (sV az bA aC.blocks.length aD)] 44, holeE az bA aC.blocks.length aD (aX : List Block_) (bY).toNat [bU, b7, (nV aa.jump), (nV aa.on), bV], ow [(sV cA cB aH.length aS)] aH, ow [(.slice ar aR.length ab)] aR] := hm
      refine tAn rfl (tE ?_)
      replace hm := (mk_Block_ aa.jump aa.on hm 2 1 0 rfl).pk (L' := [ow [bU, b7, (nV aa.jump), (nV aa.on), bV] ((⟨aa.phis, bh, aa.jump, aa.on, aa.next_⟩ : Block_) : Block_), blk aO [(nV 0), (nV 0), (.slice none 0 0)] 44, blk aQ [(nV aB.params), (nV aB.regs), (sV aF aG aB.blocks.length aE)] 44, holeE aF aG aB.blocks.length aE (aB.blocks : List Block_) (aN).toNat [(.slice aM aA.phis.length aI), aJ, (nV aA.jump), (nV aA.on), aK], ow [(.slice aM aA.phis.length aI)] aA.phis, ow [aJ] aA.ins, ow [aK] aA.next_, blk aP [(nV aC.params), (nV aC.regs), (sV az bA aC.blocks.length aD)] 44, holeE az bA aC.blocks.length aD (aX : List Block_) (bY).toNat [bU, b7, (nV aa.jump), (nV aa.on), bV], ow [(sV cA cB aH.length aS)] aH, ow [(.slice ar aR.length ab)] aR]) [2, 3, 4, 5, 6, 7, 8, 9, 10, 11, 12] rfl rfl
      replace hm := (hm.shutE (y := ((⟨aa.phis, bh, aa.jump, aa.on, aa.next_⟩ : Block_) : Block_)) 8 0 (by decide) rfl rfl).pk (L' := [blk aO [(nV 0), (nV 0), (.slice none 0 0)] 44, blk aQ [(nV aB.params), (nV aB.regs), (sV aF aG aB.blocks.length aE)] 44, holeE aF aG aB.blocks.length aE (aB.blocks : List Block_) (aN).toNat [(.slice aM aA.phis.length aI), aJ, (nV aA.jump), (nV aA.on), aK], ow [(.slice aM aA.phis.length aI)] aA.phis, ow [aJ] aA.ins, ow [aK] aA.next_, blk aP [(nV aC.params), (nV aC.regs), (sV az bA aC.blocks.length aD)] 44, ow [(sV az bA aC.blocks.length aD)] (aX.set (bY).toNat (⟨aa.phis, bh, aa.jump, aa.on, aa.next_⟩ : Block_)), ow [(sV cA cB aH.length aS)] aH, ow [(.slice ar aR.length ab)] aR]) [1, 2, 3, 4, 5, 6, 7, 8, 9, 10] rfl rfl
      have em := List.getElem?_set_self (a := ((⟨aa.phis, bh, aa.jump, aa.on, aa.next_⟩ : Block_) : Block_)) (idx_lt bg)
      exact gz hm [0, 1, 2, 3, 4, 5, 6, 7, 8] rfl
     repeat clear hm
     intro bz w hm
     exact gze hm [0, 1, 2, 3, 4, 5, 6, 7, 8] rfl
    repeat clear hm
    intro cF w hm
    exact gR (gM rfl (gP (by omega) (by omega) rfl (gA rfl (gE (gze hm [0, 1, 2, 3, 4, 5, 6, 7, 8] rfl)))))
   repeat clear hm
   intro eo bj w hm eu ew
   refine gS (gS (gR (gM rfl (gM rfl (gY (yV st_57 rfl) (gB rfl (gE (go _ 52 rfl (decide_eq_false (by omega)) (gcf rfl (gXt (gHh ?_)))))))))))
   replace hm := (mk_Block_ aA.jump aA.on hm 3 4 5 rfl).pk (L' := [blk aO [(nV 0), (nV 0), (.slice none 0 0)] 44, blk aQ [(nV aB.params), (nV aB.regs), (sV aF aG aB.blocks.length aE)] 44, holeE aF aG aB.blocks.length aE (aB.blocks : List Block_) (aN).toNat [(.slice aM aA.phis.length aI), aJ, (nV aA.jump), (nV aA.on), aK], ow [(.slice aM aA.phis.length aI), aJ, (nV aA.jump), (nV aA.on), aK] (aA : Block_), blk aP [(nV aC.params), (nV aC.regs), (.slice aL aC.blocks.length aD)] 44, ow [(.slice aL aC.blocks.length aD)] bj, ow [(.slice aV aH.length aS)] aH]) [0, 1, 2, 3, 6, 7, 8] rfl rfl
   replace hm := (hm.shutE (y := (aA : Block_)) 2 3 (by decide) rfl rfl).pk (L' := [blk aO [(nV 0), (nV 0), (.slice none 0 0)] 44, blk aQ [(nV aB.params), (nV aB.regs), (sV aF aG aB.blocks.length aE)] 44, ow [(sV aF aG aB.blocks.length aE)] (aB.blocks.set (aN).toNat aA), blk aP [(nV aC.params), (nV aC.regs), (.slice aL aC.blocks.length aD)] 44, ow [(.slice aL aC.blocks.length aD)] bj, ow [(.slice aV aH.length aS)] aH]) [0, 1, 2, 4, 5, 6] rfl rfl
   rw [set_same bG] at hm
   refine gR (gF fo_44_2 rfl (gL hm 3 isAgg42 rfl (gM rfl (gf rfl (fun a hf => e_build0 (α := Phi_) et_55 hm rfl) ?_))))
   rintro b8 w hm
   refine gg fun ac d4 bk => ?_
   obtain ⟨b9, ba, ex, he⟩ := idx_form' (hm.ow_rep 5 rfl) bk
   obtain ⟨rfl, _, rfl⟩ := sl3 he
   obtain ⟨ey, fA, fB, fC, fD, fE, fF⟩ := rk_Block_ (hm.ow_rep 5 rfl) bk
   have hL1_1 := rep_slice_len (hm.ow_rep 5 rfl)
   refine gI st_42 d4 (idx_lt2 bk hL1_1) rfl (gF fo_59_0 rfl ?_)
   obtain ⟨cV, cC, cD, hm⟩ := pin_Block_ hm 5 rfl bk
   have cn : ∀ u ∈ ([b8] : List Value), u.oneCell' = true := (one_cons (rep_one (hm.ow_rep 3 rfl)) one_nil)
   refine gf0 rfl (fun a hf => e_storeH (j := 0) (vs := [b8]) 8 hf hm rfl rfl rfl sizeOf55 rfl rfl (cells_one (cn _ (List.mem_singleton.2 rfl))) cn rfl) ?_
   rintro _ w hm
   replace hm : Mem w0 (hp w0) _ [ow [cD] ac.next_, ow [cC] ac.ins, ow [cV] ac.phis, ow [b8] ([] : List Phi_), blk aO [(nV 0), (nV 0), (.slice none 0 0)] 44, blk aQ [(nV aB.params), (nV aB.regs), (sV aF aG aB.blocks.length aE)] 44, ow [(sV aF aG aB.blocks.length aE)] aB.blocks, blk aP [(nV aC.params), (nV aC.regs), (sV b9 ba aC.blocks.length aD)] 44, holeE b9 ba aC.blocks.length aD (bj : List Block_) (aN).toNat [b8, cC, (nV ac.jump), (nV ac.on), cD], ow [(.slice aV aH.length aS)] aH] := hm
   refine gE ?_
   replace hm := (mk_Block_ ac.jump ac.on hm 3 1 0 rfl).pk (L' := [ow [cV] ac.phis, ow [b8, cC, (nV ac.jump), (nV ac.on), cD] ((⟨([] : List Phi_), ac.ins, ac.jump, ac.on, ac.next_⟩ : Block_) : Block_), blk aO [(nV 0), (nV 0), (.slice none 0 0)] 44, blk aQ [(nV aB.params), (nV aB.regs), (sV aF aG aB.blocks.length aE)] 44, ow [(sV aF aG aB.blocks.length aE)] aB.blocks, blk aP [(nV aC.params), (nV aC.regs), (sV b9 ba aC.blocks.length aD)] 44, holeE b9 ba aC.blocks.length aD (bj : List Block_) (aN).toNat [b8, cC, (nV ac.jump), (nV ac.on), cD], ow [(.slice aV aH.length aS)] aH]) [2, 3, 4, 5, 6, 7, 8, 9] rfl rfl
   replace hm := (hm.shutE (y := ((⟨([] : List Phi_), ac.ins, ac.jump, ac.on, ac.next_⟩ : Block_) : Block_)) 6 1 (by decide) rfl rfl).pk (L' := [ow [cV] ac.phis, blk aO [(nV 0), (nV 0), (.slice none 0 0)] 44, blk aQ [(nV aB.params), (nV aB.regs), (sV aF aG aB.blocks.length aE)] 44, ow [(sV aF aG aB.blocks.length aE)] aB.blocks, blk aP [(nV aC.params), (nV aC.regs), (sV b9 ba aC.blocks.length aD)] 44, ow [(sV b9 ba aC.blocks.length aD)] (bj.set (aN).toNat (⟨([] : List Phi_), ac.ins, ac.jump, ac.on, ac.next_⟩ : Block_)), ow [(.slice aV aH.length aS)] aH]) [0, 2, 3, 4, 5, 6, 7] rfl rfl
   have fG := List.getElem?_set_self (a := ((⟨([] : List Phi_), ac.ins, ac.jump, ac.on, ac.next_⟩ : Block_) : Block_)) (idx_lt bk)
   exact gR (gM rfl (gP (by omega) (by omega) rfl (gA rfl (gE (gze hm [1, 2, 3, 4, 5] rfl)))))
  repeat clear hm
  intro fH d5 w hm fI fJ
  refine gS (gS (gR (gM rfl (gF fo_44_2 rfl (gL hm 1 isAgg42 rfl (gY (yV st_42 rfl) (gB rfl (gE (go _ 27 rfl (decide_eq_false (by omega)) (gcf rfl (gXt (gHh (gS (gS (gR (gM rfl (gE (gJ hm (fun cE => [(2, (pV aO)), (5, (pV aP))]) (fun cE => [blk aO [(nV 0), (nV 0), (.slice none 0 0)] 44, blk aP [(nV aC.params), (nV cE), (.slice aL aC.blocks.length aD)] 44, ow [(.slice aL aC.blocks.length aD)] d5.1]) (fun cE => ?_) ?_))))))))))))))))))
  ·
   refine gs 151 rfl (fun d6 => ?_) fun d6 => ?_
   ·
    exact gct rfl (gR (gF fo_44_1 rfl (gL hm 3 isAgg3 rfl (gB rfl (gF fo_44_1 rfl (gS1 hm 3 sizeOf3 rfl rfl fun w hm => gE (gz hm [0, 3, 4] rfl)))))))
   exact gcf rfl (gSk (gz hm [0, 3, 4] rfl))
  repeat clear hm
  intro cE w hm
  exact gS (gR (gY (yn (hm.blk_at 1 rfl) isAgg44 sizeOf44 rfl) (gSN hm 0 sizeOf44 (one_cons rfl (one_cons rfl (one_cons rfl one_nil))) rfl fun w hm => gA rfl (gE (gRt (grct 0 results28 hm rfl isAgg44 sizeOf44 ⟨(.slice aL aC.blocks.length aD), rfl, hm.pk [2] rfl rfl⟩))))))
theorem spec_PlainUnit_ok (w0 : World) (u : Unit_) (v1 : Value) (h1 : GT.rep (hp w0) [v1] u.codes) :
    ConM Tryz.prog 10 [(.agg #[v1])] w0 (spec_PlainUnit u) fun r v w' => ∃ (x1 : Value), v = (.tuple #[(.agg #[x1]), (.bool (r.2))]) ∧ Mem w0 (hp w0) w' [ow [x1] r.1.codes] := by
  unfold spec_PlainUnit
  refine gcon func10 rfl fun r => ?_
  have hm := Mem.start w0
  refine gS (gR (gBx hm rfl fun aE w hm => gAl hm zeroValue28 rfl fun aF w hm => gA rfl (gE (gS (gS (gR (gY (yn (hm.blk_at 1 rfl) isAgg28 sizeOf28 rfl) (gC hm rfl call27 (spec_UnitValid_ok _ u v1 (hm.now h1)) fun ag ah w hm => gN rfl (gE (gsn 10 rfl (fun aP => ?_) fun aP => ?_))))))))))
  ·
   refine gct rfl (gS (gR (gY (yG rfl (y_build (vs := []) (cs := #[(.slice none 0 0)]) rfl rfl (by kernel_rfl))) (gSN hm 0 sizeOf28 (one_cons rfl one_nil) rfl fun w hm => gA rfl (gE (gRt ?_))))))
   replace hm := hm.nilow (α := Code_)
   exact grct 1 results10 hm rfl isAgg28 sizeOf28 ⟨(.slice none 0 0), rfl, hm.pk [0] rfl rfl⟩
  refine gcf rfl (gSk (gS (gR (gY (yG rfl (y_build (vs := []) (cs := #[(.slice none 0 0)]) rfl rfl (by kernel_rfl))) (gAl hm zeroValue28 rfl fun aG w hm => gSN hm 0 sizeOf28 (one_cons rfl one_nil) rfl fun w hm => gE (gS (gS (gR (gA rfl (gE (gBk ?_)))))))))))
  replace hm := hm.nilow (α := Code_)
  refine gNg (fun aN aD a w => ∃ (aB : Value), St 43 [(1, (pV aE)), (2, (pV aF)), (4, (pV aG)), (5, (nV aN))] w0 (hp w0) [blk aE [v1] 28, blk aF [(.slice none 0 0)] 28, blk aG [aB] 28, ow [aB] aD] a w) (fun a hf => ⟨(.slice none 0 0), hf.sb rfl, hm.pk [3, 2, 1, 0] rfl rfl⟩) ?_ ?_
  ·
   repeat clear hm
   rintro ai aQ aN aD a w ⟨aB, hf, hm⟩ aj ak al aR
   refine gv hf (gS (gS (gR (gM rfl (gF fo_28_0 rfl (gL hm 0 isAgg26 rfl ?_))))))
   obtain ⟨am, aH, rfl, an⟩ := ro_slice h1
   refine gY (yV st_26 rfl) (gB rfl (gE (go _ 17 rfl (decide_eq_true (by omega)) (gct rfl (gSk (gS (gBk (gS (gR (gF fo_28_0 rfl (gL hm 0 isAgg26 rfl (gM rfl (gg fun aS aT aM => ?_)))))))))))))
   obtain ⟨aI, aJ, ao, he⟩ := idx_form' h1 aM
   obtain ⟨rfl, _, rfl⟩ := sl3 he
   obtain ⟨aV, aW, aX⟩ := rk_Code_ h1 aM
   refine gI st_26 aT (idx_lt aM) rfl (gY (yn (aW.mono hm.lez) isAgg44 sizeOf44 rfl) (gCg rfl call28 (spec_l14Plain_ok _ aS aV (hm.now aX)) ?_))
   rintro aA ap aq w ⟨aC, rfl, hB⟩
   replace hm := hm.give hB; clear hB
   refine gM rfl (gX rfl (gX rfl (gAl hm zeroValue44 rfl fun aK w hm => gSN hm 0 sizeOf44 (one_cons rfl (one_cons rfl (one_cons (rep_one (hm.ow_rep 1 rfl)) one_nil))) rfl fun w hm => gA rfl (gE (gS (gS (gR (gM rfl (gN rfl (gE (gsn 30 rfl (fun aY => ?_) fun aY => ?_)))))))))))
   ·
    refine gct rfl (gS (gR (gY (yG rfl (y_build (vs := []) (cs := #[(.slice none 0 0)]) rfl rfl (by kernel_rfl))) (gSN hm 3 sizeOf28 (one_cons rfl one_nil) rfl fun w hm => gA rfl (gE (gRt (gLr aR aQ ?_)))))))
    replace hm := hm.nilow (α := Code_)
    exact grct 4 results10 hm rfl isAgg28 sizeOf28 ⟨(.slice none 0 0), rfl, hm.pk [0] rfl rfl⟩
   refine gcf rfl (gSk (gR (gF fo_28_0 rfl (gL hm 4 isAgg26 rfl (gY (yn (hm.blk_at 0 rfl) isAgg44 sizeOf44 rfl) (gf rfl (fun a hf => e_build (vs := #[(0, (.agg #[(nV aA.1.params), (nV aA.1.regs), aC]))]) (cs := [(nV aA.1.params), (nV aA.1.regs), aC]) et_26 hf hm rfl rfl (by kernel_rfl) rfl rfl) ?_))))))
   rintro _ w ⟨aL, rfl, hm⟩
   replace hm := hm.els_nil (α := Code_)
   replace hm : Mem w0 (hp w0) _ [els [] ([] : List Code_), blk aL [(nV aA.1.params), (nV aA.1.regs), aC] 44, blk aK [(nV aA.1.params), (nV aA.1.regs), aC] 44, ow [(nV aA.1.params), (nV aA.1.regs), aC] (aA.1 : Code_), blk aE [(sV aI aJ u.codes.length aH)] 28, blk aF [(.slice none 0 0)] 28, blk aG [aB] 28, ow [aB] aD] := mk_Code_ aA.1.params aA.1.regs hm 3 rfl
   replace hm := (hm.els_cons 0 3 (by decide) rfl rfl).pk (L' := [els [(nV aA.1.params), (nV aA.1.regs), aC] ([aA.1] : List Code_), blk aL [(nV aA.1.params), (nV aA.1.regs), aC] 44, blk aK [(nV aA.1.params), (nV aA.1.regs), aC] 44, blk aE [(sV aI aJ u.codes.length aH)] 28, blk aF [(.slice none 0 0)] 28, blk aG [aB] 28, ow [aB] aD]) [0, 1, 2, 4, 5, 6, 7] rfl rfl
   replace hm := (hm.lit_els 1 0 (by decide) rfl rfl rfl rfl).pk (L' := [ow [(sV aL 0 1 1)] ([aA.1] : List Code_), blk aK [(nV aA.1.params), (nV aA.1.regs), aC] 44, blk aE [(sV aI aJ u.codes.length aH)] 28, blk aF [(.slice none 0 0)] 28, blk aG [aB] 28, ow [aB] aD]) [1, 2, 3, 4, 5, 6] rfl rfl
   refine gb fun ar aZ => ?_
   obtain ⟨aa, ab⟩ := appM_some.1 aZ
   replace hm := (hm.both 5 0 (by decide) rfl rfl).pk (L' := [blk aK [(nV aA.1.params), (nV aA.1.regs), aC] 44, blk aE [(sV aI aJ u.codes.length aH)] 28, blk aF [(.slice none 0 0)] 28, blk aG [aB] 28, both (ow [aB] aD) (ow [(sV aL 0 1 1)] ([aA.1] : List Code_))]) [1, 2, 3, 4, 5] rfl rfl
   refine gf rfl (fun a hf => e_appendD (xs := aD) (ys := ([aA.1] : List Code_)) 4 et_26 hf hm rfl rfl rfl rfl aa) ?_
   rintro ac w hm
   rw [ab] at hm
   exact gF fo_28_0 rfl (gS1 hm 3 sizeOf26 (rep_one (hm.ow_rep 4 rfl)) rfl fun w hm => gE (gR (gM rfl (gP (by omega) (by omega) rfl (gA rfl (gE (gZe fun a hf => ⟨ac, hf.sb rfl, hm.pk [1, 2, 3, 4] rfl rfl⟩)))))))
  repeat clear hm
  rintro au ae a w ⟨aO, hf, hm⟩ av aw
  refine gv hf (gS (gS (gR (gM rfl (gF fo_28_0 rfl (gL hm 0 isAgg26 rfl ?_))))))
  obtain ⟨ax, ay, rfl, az⟩ := ro_slice h1
  refine gY (yV st_26 rfl) (gB rfl (gE (go _ 17 rfl (decide_eq_false (by omega)) (gcf rfl (gXt (gHh (gS (gS (gR (gY (yn (hm.blk_at 2 rfl) isAgg28 sizeOf28 rfl) (gC hm rfl call27 (spec_UnitValid_ok _ (⟨ae⟩ : Unit_) aO (hm.ow_rep 3 rfl)) fun bA bB w hm => gN rfl (gE (gsn 40 rfl (fun af => ?_) fun af => ?_)))))))))))))
  ·
   refine gct rfl (gS (gR (gY (yG rfl (y_build (vs := []) (cs := #[(.slice none 0 0)]) rfl rfl (by kernel_rfl))) (gSN hm 1 sizeOf28 (one_cons rfl one_nil) rfl fun w hm => gA rfl (gE (gRt ?_))))))
   replace hm := hm.nilow (α := Code_)
   exact grct 2 results10 hm rfl isAgg28 sizeOf28 ⟨(.slice none 0 0), rfl, hm.pk [0] rfl rfl⟩
  exact gcf rfl (gSk (gS (gR (gY (yn (hm.blk_at 2 rfl) isAgg28 sizeOf28 rfl) (gSN hm 1 sizeOf28 (one_cons (rep_one (hm.ow_rep 3 rfl)) one_nil) rfl fun w hm => gA rfl (gE (gRt (grct 1 results10 hm rfl isAgg28 sizeOf28 ⟨aO, rfl, hm.pk [3] rfl rfl⟩))))))))
theorem impl_within_ok (w0 : World) (n_ : Int) (low : Int) (high : Int) :
    ConM Tryz.prog 43 [(nV n_), (nV low), (nV high)] w0 (impl_within n_ low high) fun r v w' => v = (.bool (r)) ∧ Below w0.heap.size w0 w' := by
  unfold impl_within
  refine gcon func43 rfl fun r => ?_
  have hm := Mem.start w0
  refine gS (gR (gA rfl (gE (gS (gJ hm (fun aA => [(6, (.bool (aA)))]) (fun aA => []) (fun aA => ?_) ?_)))))
  ·
   refine gR (gM rfl (gM rfl (gB rfl (gM rfl (gsd 10 rfl (fun aB => ?_) fun aB => ?_)))))
   ·
    exact gM rfl (gM rfl (gB rfl (gKt rfl (gA rfl (gE (gz hm [] rfl))))))
   exact gO rfl (gO rfl (gO rfl (gKf rfl (gA rfl (gE (gz hm [] rfl))))))
  repeat clear hm
  intro aA w hm
  exact gRt (gr1 results43 rfl ⟨rfl, hm.below⟩)
theorem impl_codeOk_1_ok (w0 : World) (r_ : Int) (c0_ : Code_) (v1 : Value) (h1 : GT.rep (hp w0) [v1] c0_.blocks) (bf0 : Nat) (hbf0 : w0.heap[bf0]? = some (.cells ([(nV c0_.params), (nV c0_.regs), v1] : List Value).toArray 44 (0, 0))) :
    ConM Tryz.prog 145 [(nV r_), (pV bf0)] w0 (impl_codeOk_1 r_ c0_) fun r v w' => v = (.bool (r)) ∧ Below w0.heap.size w0 w' := by
  unfold impl_codeOk_1
  refine gcon func145 rfl fun r => ?_
  have hm := Mem.start w0
  exact gS (gR (gA rfl (gE (gS (gR (gM rfl (gF fo_44_1 rfl (gY (yl isAgg3 (hm.old_cell hbf0 rfl) rfl) (gB rfl (gC hm rfl call43 (impl_within_ok _ r_ 0 (w64 (c0_.regs - 1))) fun aA aB w hm => gA rfl (gE (gRt (gr1 results145 rfl ⟨rfl, hm.below⟩)))))))))))))
theorem impl_nextCount_ok (w0 : World) (jump : Int) :
    ConM Tryz.prog 146 [(nV jump)] w0 (impl_nextCount jump) fun r v w' => v = (nV r) ∧ Below w0.heap.size w0 w' := by
  unfold impl_nextCount
  refine gcon func146 rfl fun r => ?_
  have hm := Mem.start w0
  refine gS (gR (gA rfl (gE (gS (gS (gR (gM rfl (gE (gBk (gS (gR (gB rfl (gA rfl (gE (gsd 4 rfl (fun aA => ?_) fun aA => ?_)))))))))))))))
  ·
   exact gct rfl (gS (gR (gA rfl (gE (gRt (gr1 results146 rfl ⟨rfl, hm.below⟩))))))
  refine gcf rfl (gS (gR (gB rfl (gA rfl (gE (gsd 6 rfl (fun aB => ?_) fun aB => ?_))))))
  ·
   exact gct rfl (gS (gR (gA rfl (gE (gRt (gr1 results146 rfl ⟨rfl, hm.below⟩))))))
  refine gcf rfl (gS (gR (gB rfl (gA rfl (gE (gsd 8 rfl (fun aC => ?_) fun aC => ?_))))))
  ·
   exact gct rfl (gS (gR (gA rfl (gE (gRt (gr1 results146 rfl ⟨rfl, hm.below⟩))))))
  exact gcf rfl (gSk (gS (gR (gA rfl (gE (gRt (gr1 results146 rfl ⟨rfl, hm.below⟩)))))))
theorem impl_usesOn_ok (w0 : World) (jump : Int) :
    ConM Tryz.prog 142 [(nV jump)] w0 (impl_usesOn jump) fun r v w' => v = (.bool (r)) ∧ Below w0.heap.size w0 w' := by
  unfold impl_usesOn
  refine gcon func142 rfl fun r => ?_
  have hm := Mem.start w0
  refine gS (gR (gA rfl (gE (gS (gJ hm (fun aA => [(2, (.bool (aA)))]) (fun aA => []) (fun aA => ?_) ?_)))))
  ·
   refine gR (gM rfl (gB rfl (gM rfl (gsd 5 rfl (fun aB => ?_) fun aB => ?_))))
   ·
    exact gO rfl (gO rfl (gKt rfl (gA rfl (gE (gz hm [] rfl)))))
   exact gM rfl (gB rfl (gKf rfl (gA rfl (gE (gz hm [] rfl)))))
  repeat clear hm
  intro aA w hm
  exact gRt (gr1 results142 rfl ⟨rfl, hm.below⟩)
theorem impl_codeOk_2_ok (w0 : World) (n_ : Int) (c0_ : Code_) (v1 : Value) (h1 : GT.rep (hp w0) [v1] c0_.blocks) (bf0 : Nat) (hbf0 : w0.heap[bf0]? = some (.cells ([(nV c0_.params), (nV c0_.regs), v1] : List Value).toArray 44 (0, 0))) :
    ConM Tryz.prog 148 [(nV n_), (pV bf0)] w0 (impl_codeOk_2 n_ c0_) fun r v w' => v = (.bool (r)) ∧ Below w0.heap.size w0 w' := by
  unfold impl_codeOk_2
  refine gcon func148 rfl fun r => ?_
  have hm := Mem.start w0
  refine gS (gR (gA rfl (gE (gS (gR (gM rfl (gF fo_44_2 rfl (gY (yl isAgg42 (hm.old_cell hbf0 rfl) rfl) ?_))))))))
  obtain ⟨aA, aB, rfl, aC⟩ := ro_slice h1
  exact gY (yV st_42 rfl) (gY (yS (by omega) (by omega) rfl) (gC hm rfl call43 (impl_within_ok _ n_ 1 (((c0_.blocks.length : Int)) - 1)) fun aD aE w hm => gN rfl (gA rfl (gE (gRt (gr1 results148 rfl ⟨rfl, hm.below⟩))))))
theorem slices_IndexFunc_S_int_int_ok (w0 : World) (s_ : List Int) (v1 : Value) (h1 : GT.rep (hp w0) [v1] s_) (f : Int → Option Bool) (fv1 : Value) (hfn1 : ∀ (w : World) (y0 : Int) (r : Bool), Below w0.heap.size w0 w → f y0 = some r → FnOk Tryz.prog fv1 [(nV y0)] w (fun v w' => v = (.bool (r)) ∧ Below w.heap.size w w')) :
    ConM Tryz.prog 206 [v1, fv1] w0 (slices_IndexFunc_S_int_int s_ f) fun r v w' => v = (nV r) ∧ Below w0.heap.size w0 w' := by
  unfold slices_IndexFunc_S_int_int
  refine gcon func206 rfl fun r => ?_
  have hm := Mem.start w0
  refine gS (gR (gA rfl (gE (gS (gS (gR (gM rfl ?_)))))))
  obtain ⟨aE, aF, rfl, aL⟩ := ro_slice h1
  refine gY (yV st_57 rfl) (gM rfl (gE (gBk (gNf hm (fun aA aC => [(0, (.slice aE s_.length aF)), (1, fv1), (7, (nV ((s_.length : Int)))), (8, (nV aA))]) (fun aA aC => []) [] rfl ?_ ?_))))
  ·
   repeat clear hm
   intro aM aG aA aC w hm aN aO aP aH
   refine gS (gR (gB rfl (gE (gS (go _ 9 rfl (decide_eq_true (by omega)) (gct rfl (gSk (gS (gBk (gS (gR (gM rfl (gA rfl (gE (gS (gR (gM rfl (gM rfl (gM rfl (gg fun aD aI aB => ?_))))))))))))))))))))
   obtain ⟨aQ, aR, aS, he⟩ := idx_form h1 aB
   obtain ⟨rfl, _, rfl⟩ := sl3 he
   refine gI st_57 aI (idx_lt aB) rfl (gY (yl isAgg3 ((flat_cells (cs := [(nV aD)]) (hm.now h1) aB rfl).cell (j := 0) rfl) rfl) (gb fun aT aJ => gf rfl (fun a hf => e_callv hf rfl rfl rfl (hfn1 _ aD _ hm.below aJ)) ?_))
   rintro aV w ⟨rfl, hB⟩
   replace hm := hm.below' hB; clear hB
   refine gE (gs 16 rfl (fun aK => ?_) fun aK => ?_)
   ·
    exact gct rfl (gS (gR (gM rfl (gA rfl (gE (gRt (gLr aH aG (gr1 results206 rfl ⟨rfl, hm.below⟩))))))))
   exact gcf rfl (gSk (gR (gP (by omega) (by omega) rfl (gM rfl (gE (gze hm [] rfl))))))
  repeat clear hm
  intro aW aX w hm aY aZ
  exact gS (gR (gB rfl (gE (gS (go _ 9 rfl (decide_eq_false (by omega)) (gcf rfl (gXt (gHh (gS (gR (gA rfl (gE (gRt (gr1 results206 rfl ⟨rfl, hm.below⟩))))))))))))))
theorem slices_ContainsFunc_S_int_int_ok (w0 : World) (s_ : List Int) (v1 : Value) (h1 : GT.rep (hp w0) [v1] s_) (f : Int → Option Bool) (fv1 : Value) (hfn1 : ∀ (w : World) (y0 : Int) (r : Bool), Below w0.heap.size w0 w → f y0 = some r → FnOk Tryz.prog fv1 [(nV y0)] w (fun v w' => v = (.bool (r)) ∧ Below w.heap.size w w')) :
    ConM Tryz.prog 147 [v1, fv1] w0 (slices_ContainsFunc_S_int_int s_ f) fun r v w' => v = (.bool (r)) ∧ Below w0.heap.size w0 w' := by
  unfold slices_ContainsFunc_S_int_int
  refine gcon func147 rfl fun r => ?_
  have hm := Mem.start w0
  exact gS (gR (gA rfl (gE (gS (gR (gM rfl (gM rfl (gC hm rfl call206 (slices_IndexFunc_S_int_int_ok _ s_ v1 (hm.now h1) f fv1 (fun w y0 r hB hq => hfn1 w y0 r (hm.below.trans (hB.mono hm.below.size)) hq)) fun aA aB w hm => gB rfl (gA rfl (gE (gRt (gr1 results147 rfl ⟨rfl, hm.below⟩))))))))))))
theorem impl_insOk_1_ok (w0 : World) (r_ : Int) (c0_ : Code_) (v1 : Value) (h1 : GT.rep (hp w0) [v1] c0_.blocks) (bf0 : Nat) (hbf0 : w0.heap[bf0]? = some (.cells ([(nV c0_.params), (nV c0_.regs), v1] : List Value).toArray 44 (0, 0))) :
    ConM Tryz.prog 208 [(nV r_), (pV bf0)] w0 (impl_insOk_1 r_ c0_) fun r v w' => v = (.bool (r)) ∧ Below w0.heap.size w0 w' := by
  unfold impl_insOk_1
  refine gcon func208 rfl fun r => ?_
  have hm := Mem.start w0
  exact gS (gR (gA rfl (gE (gS (gR (gM rfl (gF fo_44_1 rfl (gY (yl isAgg3 (hm.old_cell hbf0 rfl) rfl) (gB rfl (gC hm rfl call43 (impl_within_ok _ r_ 0 (w64 (c0_.regs - 1))) fun aA aB w hm => gA rfl (gE (gRt (gr1 results208 rfl ⟨rfl, hm.below⟩)))))))))))))
theorem impl_isIns_ok (w0 : World) (op : Int) :
    ConM Tryz.prog 205 [(nV op)] w0 (impl_isIns op) fun r v w' => v = (.bool (r)) ∧ Below w0.heap.size w0 w' := by
  unfold impl_isIns
  refine gcon func205 rfl fun r => ?_
  have hm := Mem.start w0
  exact gS (gR (gA rfl (gE (gS (gR (gM rfl (gC hm rfl call43 (impl_within_ok _ op 1 14) fun aA aB w hm => gA rfl (gE (gRt (gr1 results205 rfl ⟨rfl, hm.below⟩))))))))))
theorem impl_insOk_2_ok (w0 : World) (r_ : Int) (c0_0_ : Code_) (v1 : Value) (h1 : GT.rep (hp w0) [v1] c0_0_.blocks) (aA : Nat) (aB : w0.heap[aA]? = some (.cells ([(nV c0_0_.params), (nV c0_0_.regs), v1] : List Value).toArray 44 (0, 0))) (bf0 : Nat) (hbf0 : w0.heap[bf0]? = some (.cells ([(.func (.func 208) #[] #[(pV aA)])] : List Value).toArray 155 (0, 0))) :
    ConM Tryz.prog 209 [(nV r_), (pV bf0)] w0 (impl_insOk_2 r_ c0_0_) fun r v w' => v = (.bool (r)) ∧ Below w0.heap.size w0 w' := by
  unfold impl_insOk_2
  refine gcon func209 rfl fun r => ?_
  have hm := Mem.start w0
  refine gS (gR (gA rfl (gE (gS (gR (gY (yl isAgg155 (hm.old_cell hbf0 rfl) rfl) (gM rfl (gb fun aD aC => gf rfl (fun a hf => e_callv hf rfl rfl rfl ⟨208, [(pV aA)], rfl, call208, impl_insOk_1_ok _ r_ c0_0_ v1 (rep_later (hm.now h1) (Below.refl _ _)) aA (hm.old_later aB (Below.refl _ _)) _ aC⟩) ?_))))))))
  rintro aE w ⟨rfl, hB⟩
  replace hm := hm.below' hB; clear hB
  exact gN rfl (gA rfl (gE (gRt (gr1 results209 rfl ⟨rfl, hm.below⟩))))
theorem impl_sets_ok (w0 : World) (op : Int) :
    ConM Tryz.prog 141 [(nV op)] w0 (impl_sets op) fun r v w' => v = (.bool (r)) ∧ Below w0.heap.size w0 w' := by
  unfold impl_sets
  refine gcon func141 rfl fun r => ?_
  have hm := Mem.start w0
  refine gS (gR (gA rfl (gE (gS (gJ hm (fun aA => [(2, (.bool (aA)))]) (fun aA => []) (fun aA => ?_) ?_)))))
  ·
   refine gR (gM rfl (gC hm rfl call205 (impl_isIns_ok _ op) fun aD aE w hm => gM rfl (gs 5 rfl (fun aB => ?_) fun aB => ?_)))
   ·
    refine gM rfl (gB rfl (gKt rfl (gM rfl (gsd 9 rfl (fun aC => ?_) fun aC => ?_))))
    ·
     exact gM rfl (gB rfl (gKt rfl (gA rfl (gE (gz hm [] rfl)))))
    exact gO rfl (gO rfl (gKf rfl (gA rfl (gE (gz hm [] rfl)))))
   exact gO rfl (gO rfl (gKf rfl (gM rfl (gO rfl (gO rfl (gKf rfl (gA rfl (gE (gz hm [] rfl)))))))))
  repeat clear hm
  intro aA w hm
  exact gRt (gr1 results141 rfl ⟨rfl, hm.below⟩)
theorem impl_isByte_ok (w0 : World) (n_ : Int) :
    ConM Tryz.prog 210 [(nV n_)] w0 (impl_isByte n_) fun r v w' => v = (.bool (r)) ∧ Below w0.heap.size w0 w' := by
  unfold impl_isByte
  refine gcon func210 rfl fun r => ?_
  have hm := Mem.start w0
  exact gS (gR (gA rfl (gE (gS (gR (gM rfl (gC hm rfl call43 (impl_within_ok _ n_ 0 255) fun aA aB w hm => gA rfl (gE (gRt (gr1 results210 rfl ⟨rfl, hm.below⟩))))))))))
theorem impl_insArgs_ok (w0 : World) (op : Int) :
    ConM Tryz.prog 211 [(nV op)] w0 (impl_insArgs op) fun r v w' => v = (nV r) ∧ Below w0.heap.size w0 w' := by
  unfold impl_insArgs
  refine gcon func211 rfl fun r => ?_
  have hm := Mem.start w0
  refine gS (gR (gA rfl (gE (gS (gS (gR (gM rfl (gE (gBk (gS (gR (gB rfl (gA rfl (gE (gsd 4 rfl (fun aD => ?_) fun aD => ?_)))))))))))))))
  ·
   exact gct rfl (gS (gR (gA rfl (gE (gRt (gr1 results211 rfl ⟨rfl, hm.below⟩))))))
  refine gcf rfl (gS (gS (gR (gB rfl (gA rfl (gE (gJ hm (fun aA => [(6, (.bool (aA)))]) (fun aA => []) (fun aA => ?_) ?_)))))))
  ·
   refine gsd 6 rfl (fun aE => ?_) fun aE => ?_
   ·
    exact gct rfl (gSk (gz hm [] rfl))
   refine gcf rfl (gS (gR (gB rfl (gA rfl (gE (gJ hm (fun aB => [(6, (.bool (aB)))]) (fun aB => []) (fun aB => ?_) ?_))))))
   ·
    refine gsd 6 rfl (fun aF => ?_) fun aF => ?_
    ·
     exact gct rfl (gSk (gz hm [] rfl))
    refine gcf rfl (gS (gR (gB rfl (gA rfl (gE (gJ hm (fun aC => [(6, (.bool (aC)))]) (fun aC => []) (fun aC => ?_) ?_))))))
    ·
     refine gsd 6 rfl (fun aG => ?_) fun aG => ?_
     ·
      exact gct rfl (gSk (gz hm [] rfl))
     exact gcf rfl (gR (gB rfl (gA rfl (gE (gz hm [] rfl)))))
    repeat clear hm
    intro aC w hm
    exact gz hm [] rfl
   repeat clear hm
   intro aB w hm
   exact gz hm [] rfl
  repeat clear hm
  intro aA w hm
  refine gs 6 rfl (fun aH => ?_) fun aH => ?_
  ·
   exact gct rfl (gS (gR (gA rfl (gE (gRt (gr1 results211 rfl ⟨rfl, hm.below⟩))))))
  exact gcf rfl (gSk (gS (gR (gA rfl (gE (gRt (gr1 results211 rfl ⟨rfl, hm.below⟩)))))))
theorem impl_insOk_ok (w0 : World) (u : Unit_) (v1 : Value) (h1 : GT.rep (hp w0) [v1] u.codes) (k_ : Int) (x_ : Ins_) (v2 : Value) (h2 : GT.rep (hp w0) [v2] x_.args) :
    ConM Tryz.prog 151 [(.agg #[v1]), (nV k_), (.agg #[(nV x_.op), (nV x_.to), v2, (nV x_.n_)])] w0 (impl_insOk u k_ x_) fun r v w' => v = (.bool (r)) ∧ Below w0.heap.size w0 w' := by
  unfold impl_insOk
  refine gcon func151 rfl fun r => ?_
  have hm := Mem.start w0
  refine gS (gR (gBx hm rfl fun aA w hm => gBx hm rfl fun aB w hm => gA rfl (gE (gS (gR (gF fo_28_0 rfl (gL hm 1 isAgg26 rfl (gM rfl (gg fun aC aR aN => ?_)))))))))
  obtain ⟨aF, aG, aH, he⟩ := idx_form' h1 aN
  subst he
  obtain ⟨aO, aS, aP⟩ := rk_Code_ h1 aN
  refine gI st_26 aR (idx_lt aN) rfl (gY (yn (aS.mono hm.lez) isAgg44 sizeOf44 rfl) (gAl hm zeroValue44 rfl fun aD w hm => gSN hm 0 sizeOf44 (one_cons rfl (one_cons rfl (one_cons (rep_one aP) one_nil))) rfl fun w hm => gE (gS (gR (gY (yU rfl) (gAl hm zeroValue155 rfl fun aE w hm => gS1 hm 0 sizeOf155 rfl rfl fun w hm => gE (gS (gS (gJ hm (fun aI => [(1, (nV k_)), (3, (pV aA)), (5, (pV aB)), (8, (pV aE)), (24, (.bool (aI)))]) (fun aI => [blk aA [(sV aF aG u.codes.length aH)] 28, blk aB [(nV x_.op), (nV x_.to), v2, (nV x_.n_)] 61, blk aE [(.func (.func 208) #[] #[(pV aD)])] 155, blk aD [(nV aC.params), (nV aC.regs), aO] 44]) (fun aI => ?_) ?_)))))))))
  ·
   refine gR (gF fo_61_0 rfl (gL hm 2 isAgg3 rfl (gC hm rfl call205 (impl_isIns_ok _ x_.op) fun am an w hm => gN rfl (gM rfl (gsn 19 rfl (fun aT => ?_) fun aT => ?_)))))
   ·
    exact gO rfl (gO rfl (gO rfl (gO rfl (gKt rfl (gE (gz hm [3, 2, 0, 1] rfl))))))
   exact gF fo_61_2 rfl (gL hm 2 isAgg57 rfl (gY (yU rfl) (gC hm rfl call147 (slices_ContainsFunc_S_int_int_ok _ x_.args v2 (hm.now h2) (fun y0 => impl_insOk_2 y0 aC) (.func (.func 209) #[] #[(pV aE)]) (fun w y0 r hB hq => ⟨209, [(pV aE)], rfl, call209, impl_insOk_2_ok w y0 aC aO (rep_later (hm.now aP) hB) aD (hm.blk_later 1 rfl hB) aE (hm.blk_later 0 rfl hB) r hq⟩)) fun ao ap w hm => gKf rfl (gE (gz hm [3, 2, 0, 1] rfl)))))
  repeat clear hm
  intro aI w hm
  refine gs 24 rfl (fun aV => ?_) fun aV => ?_
  ·
   exact gct rfl (gS (gR (gA rfl (gE (gRt (gr1 results151 rfl ⟨rfl, hm.below⟩))))))
  refine gcf rfl (gSk (gS (gS (gJ hm (fun aJ => [(1, (nV k_)), (3, (pV aA)), (5, (pV aB)), (45, (.bool (aJ)))]) (fun aJ => [blk aA [(sV aF aG u.codes.length aH)] 28, blk aB [(nV x_.op), (nV x_.to), v2, (nV x_.n_)] 61]) (fun aJ => ?_) ?_))))
  ·
   refine gR (gF fo_61_0 rfl (gL hm 1 isAgg3 rfl (gC hm rfl call141 (impl_sets_ok _ x_.op) fun aq ar w hm => gM rfl (gs 28 rfl (fun aW => ?_) fun aW => ?_))))
   ·
    refine gL hm 2 isAgg155 rfl (gF fo_61_1 rfl (gL hm 1 isAgg3 rfl (gb fun au aX => gf rfl (fun a hf => e_callv hf rfl rfl rfl ⟨208, [(pV aD)], rfl, call208, impl_insOk_1_ok _ x_.to aC aO (rep_later (hm.now aP) (Below.refl _ _)) aD (hm.blk_later 3 rfl (Below.refl _ _)) _ aX⟩) ?_)))
    rintro av w ⟨rfl, hB⟩
    replace hm := hm.below' hB; clear hB
    refine gN rfl (gKt rfl (gM rfl (gsn 35 rfl (fun aY => ?_) fun aY => ?_)))
    ·
     exact gO rfl (gO rfl (gO rfl (gO rfl (gO rfl (gO rfl (gO rfl (gO rfl (gO rfl (gKt rfl (gE (gz hm [0, 1] rfl)))))))))))
    refine gF fo_61_0 rfl (gL hm 1 isAgg3 rfl (gC hm rfl call141 (impl_sets_ok _ x_.op) fun aw ax w hm => gN rfl (gM rfl (gsn 40 rfl (fun aZ => ?_) fun aZ => ?_))))
    ·
     exact gF fo_61_1 rfl (gL hm 1 isAgg3 rfl (gB rfl (gKt rfl (gKf rfl (gE (gz hm [0, 1] rfl))))))
    exact gO rfl (gO rfl (gO rfl (gKf rfl (gKf rfl (gE (gz hm [0, 1] rfl))))))
   refine gO rfl (gO rfl (gO rfl (gO rfl (gO rfl (gKf rfl (gM rfl (gF fo_61_0 rfl (gL hm 1 isAgg3 rfl (gC hm rfl call141 (impl_sets_ok _ x_.op) fun ay az w hm => gN rfl (gM rfl (gsn 40 rfl (fun aa => ?_) fun aa => ?_)))))))))))
   ·
    exact gF fo_61_1 rfl (gL hm 1 isAgg3 rfl (gB rfl (gKt rfl (gKf rfl (gE (gz hm [0, 1] rfl))))))
   exact gO rfl (gO rfl (gO rfl (gKf rfl (gKf rfl (gE (gz hm [0, 1] rfl))))))
  repeat clear hm
  intro aJ w hm
  refine gs 45 rfl (fun ab => ?_) fun ab => ?_
  ·
   exact gct rfl (gS (gR (gA rfl (gE (gRt (gr1 results151 rfl ⟨rfl, hm.below⟩))))))
  refine gcf rfl (gSk (gS (gS (gR (gF fo_61_0 rfl (gL hm 1 isAgg3 rfl (gE (gBk (gS (gR (gB rfl (gA rfl (gE (gsd 48 rfl (fun ac => ?_) fun ac => ?_))))))))))))))
  ·
   refine gct rfl (gS (gJ hm (fun aK => [(6, (.bool (aK)))]) (fun aK => []) (fun aK => ?_) ?_))
   ·
    refine gR (gF fo_61_2 rfl (gL hm 1 isAgg57 rfl ?_))
    obtain ⟨bA, bB, rfl, bC⟩ := ro_slice h2
    refine gY (yV st_57 rfl) (gB rfl (gM rfl (gsd 54 rfl (fun ae => ?_) fun ae => ?_)))
    ·
     exact gF fo_61_3 rfl (gL hm 1 isAgg3 rfl (gC hm rfl call210 (impl_isByte_ok _ x_.n_) fun bD bE w hm => gKt rfl (gA rfl (gE (gz hm [] rfl)))))
    exact gO rfl (gO rfl (gO rfl (gKf rfl (gA rfl (gE (gz hm [] rfl))))))
   repeat clear hm
   intro aK w hm
   exact gRt (gr1 results151 rfl ⟨rfl, hm.below⟩)
  refine gcf rfl (gS (gR (gB rfl (gA rfl (gE (gsd 59 rfl (fun af => ?_) fun af => ?_))))))
  ·
   refine gct rfl (gS (gJ hm (fun aL => [(6, (.bool (aL)))]) (fun aL => []) (fun aL => ?_) ?_))
   ·
    refine gW (.p 0 (.p 2 (.p 3 (.e 1 (.e 4 (.p 5 (.p 6 (.p 9 (.p 11 (.q 7 (.p 8 (.q 10 (.e 12 (.p 13 (.p 14 (.e 15 (.p 16 (.p 17 (.p 18 .fin))) .nil))) .nil)))))))) .nil) .nil)))) [7, 10, 12, 15] [0, 2, 3, 5, 6, 8, 9, 11, 13, 14, 16, 17, 18] hm [0, 1] [blk aA [(sV aF aG u.codes.length aH)] 28, blk aB [(nV x_.op), (nV x_.to), v2, (nV x_.n_)] 61] rfl mxo (by kernel_rfl) (fun _ _ _ h => h.2) fun w hm hS => tP rfl (fun w => yF fo_61_3 rfl) (tP rfl (fun w => yM rfl) (tP rfl (fun w => yB rfl) (tO (tY rfl (yL hm 1 isAgg3 rfl) (tAn rfl (tO (gb fun bF ag => tf rfl rfl (fun a hf => e_call hf rfl call43 rfl (impl_within_ok _ x_.n_ 0 (w64 (k_ - 1)) _ ag)) ?_)))))))
    rintro bG w ⟨rfl, hB⟩
    replace hm := hm.below' hB; clear hB
    refine tAk hm [0, 1] rfl fun hS => tP rfl (fun w => yM rfl) (gs 66 rfl (fun ah => ?_) fun ah => ?_)
    ·
     refine tP rfl (fun w => yF fo_61_2 rfl) (tP rfl (fun w => yF fo_28_0 rfl) (tP rfl (fun w => yF fo_61_3 rfl) (tQ rfl hS (fun w hm => yL hm 1 isAgg57 rfl) ?_)))
     obtain ⟨bH, bJ, rfl, bK⟩ := ro_slice h2
     refine tP rfl (fun w => yV st_57 rfl) (tQ rfl hS (fun w hm => yL hm 0 isAgg26 rfl) (tO (tY rfl (yL hm 1 isAgg3 rfl) (tAs hS (gg fun bL ai aQ => ?_)))))
     obtain ⟨bM, aj, bN⟩ := rk_Code_ h1 aQ
     exact tP rfl (fun w => yI st_26 ai (idx_lt aQ) rfl) (tP rfl (fun w => yF fo_44_0 rfl) (tO (tY rfl (yl isAgg3 ((aj.mono hm.lez).cell (j := 0) rfl) rfl) (tAs hS (tP rfl (fun w => yB rfl) (tP rfl (fun w => yKt rfl) (tP rfl (fun w => yA rfl) (tE (gz hm [] rfl)))))))))
    exact tPo rfl rfl (tPo rfl rfl (tPo rfl rfl (tQo rfl hS rfl (tPo rfl rfl (tQo rfl hS rfl (tO (tEo rfl rfl (tAs hS (tPo rfl rfl (tPo rfl rfl (tO (tEo rfl rfl (tAs hS (tPo rfl rfl (tP rfl (fun w => yKf rfl) (tP rfl (fun w => yA rfl) (tE (gz hm [] rfl))))))))))))))))))
   repeat clear hm
   intro aL w hm
   exact gRt (gr1 results151 rfl ⟨rfl, hm.below⟩)
  refine gcf rfl (gSk (gS (gJ hm (fun aM => [(6, (.bool (aM)))]) (fun aM => []) (fun aM => ?_) ?_)))
  ·
   refine gW (.p 0 (.e 1 (.p 2 (.p 3 (.p 4 (.p 7 (.q 5 (.p 6 (.e 8 (.e 9 (.p 10 (.p 11 (.p 12 .fin))) .nil) .nil))))))) .nil)) [8, 9] [0, 2, 3, 4, 6, 7, 10, 11, 12] hm [0, 1] [blk aA [(sV aF aG u.codes.length aH)] 28, blk aB [(nV x_.op), (nV x_.to), v2, (nV x_.n_)] 61] rfl mxo (by kernel_rfl) (fun _ _ _ h => h.2) fun w hm hS => tP rfl (fun w => yF fo_61_3 rfl) (tO (tY rfl (yL hm 1 isAgg3 rfl) (tAn rfl (tP rfl (fun w => yB rfl) (tP rfl (fun w => yM rfl) (gsd 82 rfl (fun ak => ?_) fun ak => ?_))))))
   ·
    refine tP rfl (fun w => yF fo_61_2 rfl) (tP rfl (fun w => yF fo_61_0 rfl) (tQ rfl hS (fun w hm => yL hm 1 isAgg57 rfl) ?_))
    obtain ⟨bO, bP, rfl, bQ⟩ := ro_slice h2
    refine tP rfl (fun w => yV st_57 rfl) (tO (tY rfl (yL hm 1 isAgg3 rfl) (tAs hS (tO (gb fun bR al => tf rfl rfl (fun a hf => e_call hf rfl call211 rfl (impl_insArgs_ok _ x_.op _ al)) ?_)))))
    rintro bS w ⟨rfl, hB⟩
    replace hm := hm.below' hB; clear hB
    exact tAk hm [0, 1] rfl fun hS => tP rfl (fun w => yB rfl) (tP rfl (fun w => yKt rfl) (tP rfl (fun w => yA rfl) (tE (gz hm [] rfl))))
   exact tPo rfl rfl (tPo rfl rfl (tQo rfl hS rfl (tPo rfl rfl (tO (tEo rfl rfl (tAs hS (tO (tEo rfl rfl (tAs hS (tPo rfl rfl (tP rfl (fun w => yKf rfl) (tP rfl (fun w => yA rfl) (tE (gz hm [] rfl))))))))))))))
  repeat clear hm
  intro aM w hm
  exact gRt (gr1 results151 rfl ⟨rfl, hm.below⟩)
theorem impl_codeOk_3_ok (w0 : World) (i_ : Ins_) (v1 : Value) (h1 : GT.rep (hp w0) [v1] i_.args) (c0_ : Unit_) (v2 : Value) (h2 : GT.rep (hp w0) [v2] c0_.codes) (bf0 : Nat) (hbf0 : w0.heap[bf0]? = some (.cells ([v2] : List Value).toArray 28 (0, 0))) (c1_ : Int) (bf1 : Nat) (hbf1 : w0.heap[bf1]? = some (.cells ([(nV c1_)] : List Value).toArray 3 (0, 0))) :
    ConM Tryz.prog 150 [(.agg #[(nV i_.op), (nV i_.to), v1, (nV i_.n_)]), (pV bf0), (pV bf1)] w0 (impl_codeOk_3 i_ c0_ c1_) fun r v w' => v = (.bool (r)) ∧ Below w0.heap.size w0 w' := by
  unfold impl_codeOk_3
  refine gcon func150 rfl fun r => ?_
  have hm := Mem.start w0
  exact gS (gR (gBx hm rfl fun aA w hm => gA rfl (gE (gS (gR (gY (yn (hm.old_at hbf0) isAgg28 sizeOf28 rfl) (gY (yl isAgg3 (hm.old_cell hbf1 rfl) rfl) (gY (yn (hm.blk_at 0 rfl) isAgg61 sizeOf61 rfl) (gC hm rfl call151 (impl_insOk_ok _ c0_ v2 (hm.now h2) c1_ i_ v1 (hm.now h1)) fun aB aC w hm => gN rfl (gA rfl (gE (gRt (gr1 results150 rfl ⟨rfl, hm.below⟩)))))))))))))
theorem slices_IndexFunc_S_impl_Ins_impl_Ins_ok (w0 : World) (s_ : List Ins_) (v1 : Value) (h1 : GT.rep (hp w0) [v1] s_) (f : Ins_ → Option Bool) (fv1 : Value) (hfn1 : ∀ (w : World) (y0 : Ins_) (z1 : Value) (_ : GT.rep (hp w) [z1] y0.args) (r : Bool), Below w0.heap.size w0 w → f y0 = some r → FnOk Tryz.prog fv1 [(.agg #[(nV y0.op), (nV y0.to), z1, (nV y0.n_)])] w (fun v w' => v = (.bool (r)) ∧ Below w.heap.size w w')) :
    ConM Tryz.prog 207 [v1, fv1] w0 (slices_IndexFunc_S_impl_Ins_impl_Ins s_ f) fun r v w' => v = (nV r) ∧ Below w0.heap.size w0 w' := by
  unfold slices_IndexFunc_S_impl_Ins_impl_Ins
  refine gcon func207 rfl fun r => ?_
  have hm := Mem.start w0
  refine gS (gR (gA rfl (gE (gS (gS (gR (gM rfl ?_)))))))
  obtain ⟨aD, aE, rfl, aO⟩ := ro_slice h1
  refine gY (yV st_56 rfl) (gM rfl (gE (gBk (gNf hm (fun aA aC => [(0, (.slice aD s_.length aE)), (1, fv1), (7, (nV ((s_.length : Int)))), (8, (nV aA))]) (fun aA aC => []) [] rfl ?_ ?_))))
  ·
   repeat clear hm
   intro aP aF aA aC w hm aQ aR aS aG
   refine gS (gR (gB rfl (gE (gS (go _ 9 rfl (decide_eq_true (by omega)) (gct rfl (gSk (gS (gBk (gS (gR (gM rfl (gA rfl (gE (gS (gR (gM rfl (gM rfl (gM rfl (gg fun aH aI aB => ?_))))))))))))))))))))
   obtain ⟨aT, aV, aW, he⟩ := idx_form' h1 aB
   obtain ⟨rfl, _, rfl⟩ := sl3 he
   obtain ⟨aJ, aK, aL⟩ := rk_Ins_ h1 aB
   refine gI st_56 aI (idx_lt aB) rfl (gY (yn (aK.mono hm.lez) isAgg61 sizeOf61 rfl) (gb fun aX aM => gf rfl (fun a hf => e_callv hf rfl rfl rfl (hfn1 _ aH aJ (hm.now aL) _ hm.below aM)) ?_))
   rintro aY w ⟨rfl, hB⟩
   replace hm := hm.below' hB; clear hB
   refine gE (gs 16 rfl (fun aN => ?_) fun aN => ?_)
   ·
    exact gct rfl (gS (gR (gM rfl (gA rfl (gE (gRt (gLr aG aF (gr1 results207 rfl ⟨rfl, hm.below⟩))))))))
   exact gcf rfl (gSk (gR (gP (by omega) (by omega) rfl (gM rfl (gE (gze hm [] rfl))))))
  repeat clear hm
  intro aZ aa w hm ab ac
  exact gS (gR (gB rfl (gE (gS (go _ 9 rfl (decide_eq_false (by omega)) (gcf rfl (gXt (gHh (gS (gR (gA rfl (gE (gRt (gr1 results207 rfl ⟨rfl, hm.below⟩))))))))))))))
theorem slices_ContainsFunc_S_impl_Ins_impl_Ins_ok (w0 : World) (s_ : List Ins_) (v1 : Value) (h1 : GT.rep (hp w0) [v1] s_) (f : Ins_ → Option Bool) (fv1 : Value) (hfn1 : ∀ (w : World) (y0 : Ins_) (z1 : Value) (_ : GT.rep (hp w) [z1] y0.args) (r : Bool), Below w0.heap.size w0 w → f y0 = some r → FnOk Tryz.prog fv1 [(.agg #[(nV y0.op), (nV y0.to), z1, (nV y0.n_)])] w (fun v w' => v = (.bool (r)) ∧ Below w.heap.size w w')) :
    ConM Tryz.prog 149 [v1, fv1] w0 (slices_ContainsFunc_S_impl_Ins_impl_Ins s_ f) fun r v w' => v = (.bool (r)) ∧ Below w0.heap.size w0 w' := by
  unfold slices_ContainsFunc_S_impl_Ins_impl_Ins
  refine gcon func149 rfl fun r => ?_
  have hm := Mem.start w0
  exact gS (gR (gA rfl (gE (gS (gR (gM rfl (gM rfl (gC hm rfl call207 (slices_IndexFunc_S_impl_Ins_impl_Ins_ok _ s_ v1 (hm.now h1) f fv1 (fun w y0 aA aB r hB hq => hfn1 w y0 aA aB r (hm.below.trans (hB.mono hm.below.size)) hq)) fun aC aD w hm => gB rfl (gA rfl (gE (gRt (gr1 results149 rfl ⟨rfl, hm.below⟩))))))))))))
theorem slices_Index_S_int_int_ok (w0 : World) (s_ : List Int) (v1 : Value) (h1 : GT.rep (hp w0) [v1] s_) (v_ : Int) :
    ConM Tryz.prog 193 [v1, (nV v_)] w0 (slices_Index_S_int_int s_ v_) fun r v w' => v = (nV r) ∧ Below w0.heap.size w0 w' := by
  unfold slices_Index_S_int_int
  refine gcon func193 rfl fun r => ?_
  have hm := Mem.start w0
  refine gS (gR (gA rfl (gE (gS (gS (gR (gM rfl ?_)))))))
  obtain ⟨aD, aE, rfl, aK⟩ := ro_slice h1
  refine gY (yV st_57 rfl) (gM rfl (gE (gBk (gNf hm (fun aA aC => [(0, (.slice aD s_.length aE)), (1, (nV v_)), (7, (nV ((s_.length : Int)))), (8, (nV aA))]) (fun aA aC => []) [] rfl ?_ ?_))))
  ·
   repeat clear hm
   intro aL aF aA aC w hm aM aN aO aG
   refine gS (gR (gB rfl (gE (gS (go _ 9 rfl (decide_eq_true (by omega)) (gct rfl (gSk (gS (gBk (gS (gR (gM rfl (gA rfl (gE (gS (gR (gM rfl (gM rfl (gM rfl (gg fun aH aI aB => ?_))))))))))))))))))))
   obtain ⟨aP, aQ, aR, he⟩ := idx_form h1 aB
   obtain ⟨rfl, _, rfl⟩ := sl3 he
   refine gI st_57 aI (idx_lt aB) rfl (gY (yl isAgg3 ((flat_cells (cs := [(nV aH)]) (hm.now h1) aB rfl).cell (j := 0) rfl) rfl) (gB rfl (gE (gsd 16 rfl (fun aJ => ?_) fun aJ => ?_))))
   ·
    exact gct rfl (gS (gR (gM rfl (gA rfl (gE (gRt (gLr aG aF (gr1 results193 rfl ⟨rfl, hm.below⟩))))))))
   exact gcf rfl (gSk (gR (gP (by omega) (by omega) rfl (gM rfl (gE (gze hm [] rfl))))))
  repeat clear hm
  intro aS aT w hm aV aW
  exact gS (gR (gB rfl (gE (gS (go _ 9 rfl (decide_eq_false (by omega)) (gcf rfl (gXt (gHh (gS (gR (gA rfl (gE (gRt (gr1 results193 rfl ⟨rfl, hm.below⟩))))))))))))))
theorem slices_Contains_S_int_int_ok (w0 : World) (s_ : List Int) (v1 : Value) (h1 : GT.rep (hp w0) [v1] s_) (v_ : Int) :
    ConM Tryz.prog 125 [v1, (nV v_)] w0 (slices_Contains_S_int_int s_ v_) fun r v w' => v = (.bool (r)) ∧ Below w0.heap.size w0 w' := by
  unfold slices_Contains_S_int_int
  refine gcon func125 rfl fun r => ?_
  have hm := Mem.start w0
  exact gS (gR (gA rfl (gE (gS (gR (gM rfl (gM rfl (gC hm rfl call193 (slices_Index_S_int_int_ok _ s_ v1 (hm.now h1) v_) fun aA aB w hm => gB rfl (gA rfl (gE (gRt (gr1 results125 rfl ⟨rfl, hm.below⟩))))))))))))
theorem impl_PredsOf_ok (w0 : World) (c_ : Code_) (v1 : Value) (h1 : GT.rep (hp w0) [v1] c_.blocks) (b_ : Int) :
    ConM Tryz.prog 78 [(.agg #[(nV c_.params), (nV c_.regs), v1]), (nV b_)] w0 (impl_PredsOf c_ b_) fun r v w' => ∃ (x1 : Value), v = x1 ∧ Mem w0 (hp w0) w' [ow [x1] r] := by
  unfold impl_PredsOf
  refine gcon func78 rfl fun r => ?_
  have hm := Mem.start w0
  refine gS (gR (gBx hm rfl fun ab w hm => gA rfl (gE (gS (gR (gA rfl (gE (gS (gS (gR (gM rfl (gF fo_44_2 rfl (gL hm 0 isAgg42 rfl ?_)))))))))))))
  obtain ⟨aI, aE, rfl, ac⟩ := ro_slice h1
  refine gY (yV st_42 rfl) (gY (yS (by omega) (by omega) rfl) (gC hm rfl call43 (impl_within_ok _ b_ 0 (((c_.blocks.length : Int)) - 1)) fun ae af w hm => gN rfl (gE (gsn 14 rfl (fun aL => ?_) fun aL => ?_))))
  ·
   refine gct rfl (gS (gR (gA rfl (gE (gRt ?_)))))
   replace hm := hm.nilow (α := Int)
   exact gr1 results78 rfl ⟨(.slice none 0 0), rfl, hm.pk [0] rfl rfl⟩
  refine gcf rfl (gSk (gS (gS (gR (gF fo_44_2 rfl (gL hm 0 isAgg42 rfl (gY (yV st_42 rfl) (gM rfl (gE (gBk ?_))))))))))
  replace hm := hm.nilow (α := Int)
  refine gNg (fun aA aJ a w => ∃ (aB : Value), St 33 [(1, (nV b_)), (5, aB), (16, (.slice aI c_.blocks.length aE)), (17, (nV ((c_.blocks.length : Int)))), (18, (nV aA))] w0 (hp w0) [ow [aB] aJ] a w) (fun a hf => ⟨(.slice none 0 0), hf.sb rfl, hm.pk [0] rfl rfl⟩) ?_ ?_
  ·
   repeat clear hm
   rintro _ _ aA aJ a w ⟨aB, hf, hm⟩ ag ah ai _
   refine gv hf (gS (gR (gB rfl (gE (gS (go _ 19 rfl (decide_eq_true (by omega)) (gct rfl (gSk (gS (gJg (fun aF a w => ∃ (aC : Value), St 33 [(1, (nV b_)), (5, aC), (16, (.slice aI c_.blocks.length aE)), (17, (nV ((c_.blocks.length : Int)))), (18, (nV aA))] w0 (hp w0) [ow [aC] aF] a w) (fun aF => ?_) ?_))))))))))
   ·
    refine gBk (gS (gR (gM rfl (gg fun aM aN aG => ?_))))
    obtain ⟨aO, aP, aj, he⟩ := idx_form' h1 aG
    obtain ⟨rfl, _, rfl⟩ := sl3 he
    obtain ⟨ak, al, aQ, aR, aS, aT, aK⟩ := rk_Block_ h1 aG
    refine gI st_42 aN (idx_lt aG) rfl (gY (yn (aR.mono hm.lez) isAgg59 sizeOf59 rfl) (gAl hm zeroValue59 rfl fun am w hm => gA rfl (gSN hm 0 sizeOf59 (one_cons (rep_one aS) (one_cons (rep_one aT) (one_cons rfl (one_cons rfl (one_cons (rep_one aK) one_nil))))) rfl fun w hm => gE (gS (gR (gF fo_59_4 rfl (gL hm 0 isAgg57 rfl (gM rfl (gC hm rfl call125 (slices_Contains_S_int_int_ok _ aM.next_ aQ (hm.now aK) b_) fun an ao w hm => gE (gJg (fun aH a w => ∃ (aD : Value), St 33 [(1, (nV b_)), (5, aD), (16, (sV aO aP c_.blocks.length aE)), (17, (nV ((c_.blocks.length : Int)))), (18, (nV aA))] w0 (hp w0) [ow [aD] aH] a w) (fun aH => ?_) ?_))))))))))
    ·
     refine gs 26 rfl (fun aV => ?_) fun aV => ?_
     ·
      refine gct rfl (gR (gM rfl (gM rfl (gf rfl (fun a hf => e_build (vs := #[(0, (nV aA))]) (cs := [(nV aA)]) et_57 hf hm rfl rfl (by kernel_rfl) rfl rfl) ?_))))
      rintro _ w ⟨ap, rfl, hm⟩
      replace hm := hm.lit (xs := ([aA] : List Int)) 0 rfl rfl rfl rfl
      refine gb fun aq aW => ?_
      obtain ⟨aX, aY⟩ := appM_some.1 aW
      refine gf rfl (fun a hf => e_append 2 et_57 hf hm rfl (hm.ow_rep 0 rfl) rfl rfl rfl aX) ?_
      rintro aZ w hm
      rw [aY] at hm
      exact gA rfl (gE (gZ fun a hf => ⟨aZ, hf.sb rfl, hm.pk [2] rfl rfl⟩))
     exact gcf rfl (gSk (gZ fun a hf => ⟨aB, hf.sb rfl, hm.pk [1] rfl rfl⟩))
    repeat clear hm
    rintro aH a w ⟨aD, hf, hm⟩
    exact gv hf (gZ fun a hf => ⟨aD, hf.sb rfl, hm.pk [0] rfl rfl⟩)
   repeat clear hm
   rintro aF a w ⟨aC, hf, hm⟩
   exact gv hf (gR (gP (by omega) (by omega) rfl (gM rfl (gE (gZe fun a hf => ⟨aC, hf.sb rfl, hm.pk [0] rfl rfl⟩)))))
  repeat clear hm
  rintro ar au a w ⟨aa, hf, hm⟩ av aw
  exact gv hf (gS (gR (gB rfl (gE (gS (go _ 19 rfl (decide_eq_false (by omega)) (gcf rfl (gXt (gHh (gS (gR (gM rfl (gA rfl (gE (gRt (gr1 results78 rfl ⟨aa, rfl, hm.pk [0] rfl rfl⟩))))))))))))))))
theorem impl_codeOk_4_ok (w0 : World) (r_ : Int) (c0_0_ : Code_) (v1 : Value) (h1 : GT.rep (hp w0) [v1] c0_0_.blocks) (aA : Nat) (aB : w0.heap[aA]? = some (.cells ([(nV c0_0_.params), (nV c0_0_.regs), v1] : List Value).toArray 44 (0, 0))) (bf0 : Nat) (hbf0 : w0.heap[bf0]? = some (.cells ([(.func (.func 145) #[] #[(pV aA)])] : List Value).toArray 155 (0, 0))) :
    ConM Tryz.prog 152 [(nV r_), (pV bf0)] w0 (impl_codeOk_4 r_ c0_0_) fun r v w' => v = (.bool (r)) ∧ Below w0.heap.size w0 w' := by
  unfold impl_codeOk_4
  refine gcon func152 rfl fun r => ?_
  have hm := Mem.start w0
  refine gS (gR (gA rfl (gE (gS (gR (gY (yl isAgg155 (hm.old_cell hbf0 rfl) rfl) (gM rfl (gb fun aD aC => gf rfl (fun a hf => e_callv hf rfl rfl rfl ⟨145, [(pV aA)], rfl, call145, impl_codeOk_1_ok _ r_ c0_0_ v1 (rep_later (hm.now h1) (Below.refl _ _)) aA (hm.old_later aB (Below.refl _ _)) _ aC⟩) ?_))))))))
  rintro aE w ⟨rfl, hB⟩
  replace hm := hm.below' hB; clear hB
  exact gN rfl (gA rfl (gE (gRt (gr1 results152 rfl ⟨rfl, hm.below⟩))))
theorem impl_codeOk_ok (w0 : World) (u : Unit_) (v1 : Value) (h1 : GT.rep (hp w0) [v1] u.codes) (k_ : Int) :
    ConM Tryz.prog 97 [(.agg #[v1]), (nV k_)] w0 (impl_codeOk u k_) fun r v w' => v = (.bool (r)) ∧ Below w0.heap.size w0 w' := by
  unfold impl_codeOk
  refine gcon func97 rfl fun r => ?_
  have hm := Mem.start w0
  refine gS (gR (gBx hm rfl fun aD w hm => gBx hm rfl fun aE w hm => gA rfl (gE (gS (gR (gF fo_28_0 rfl (gL hm 1 isAgg26 rfl (gL hm 0 isAgg3 rfl (gg fun aA ao aY => ?_)))))))))
  obtain ⟨aL, aM, aN, he⟩ := idx_form' h1 aY
  subst he
  obtain ⟨ap, aq, aK⟩ := rk_Code_ h1 aY
  refine gI st_26 ao (idx_lt aY) rfl (gY (yn (aq.mono hm.lez) isAgg44 sizeOf44 rfl) (gAl hm zeroValue44 rfl fun aB w hm => gSN hm 0 sizeOf44 (one_cons rfl (one_cons rfl (one_cons (rep_one aK) one_nil))) rfl fun w hm => gE (gS (gS (gJ hm (fun aP => [(2, (pV aD)), (3, (pV aE)), (5, (pV aB)), (36, (.bool (aP)))]) (fun aP => [blk aD [(sV aL aM u.codes.length aN)] 28, blk aE [(nV k_)] 3, blk aB [(nV aA.params), (nV aA.regs), ap] 44]) (fun aP => ?_) ?_)))))
  ·
   refine gR (gF fo_44_1 rfl (gL hm 0 isAgg3 rfl (gC hm rfl call43 (impl_within_ok _ aA.regs 0 300) fun b8 b9 w hm => gN rfl (gM rfl (gsn 21 rfl (fun ar => ?_) fun ar => ?_)))))
   ·
    exact gO rfl (gO rfl (gO rfl (gO rfl (gO rfl (gO rfl (gO rfl (gKt rfl (gM rfl (gO rfl (gO rfl (gO rfl (gO rfl (gO rfl (gKt rfl (gE (gz hm [2, 1, 0] rfl))))))))))))))))
   refine gF fo_44_0 rfl (gL hm 0 isAgg3 rfl (gF fo_44_1 rfl (gL hm 0 isAgg3 rfl (gY (yG rfl (y_min rfl rfl rfl)) ?_))))
   have ba : minI 3 aA.regs = min 3 aA.regs := minI_eq _ _
   refine gC hm rfl call43 (impl_within_ok _ aA.params 0 (minI 3 aA.regs)) fun bb bc w hm => gN rfl (gKf rfl (gM rfl (gsn 30 rfl (fun au => ?_) fun au => ?_)))
   ·
    exact gO rfl (gO rfl (gO rfl (gO rfl (gO rfl (gKt rfl (gE (gz hm [2, 1, 0] rfl)))))))
   refine gF fo_44_2 rfl (gL hm 0 isAgg42 rfl ?_)
   obtain ⟨bd, be, rfl, bf⟩ := ro_slice aK
   exact gY (yV st_42 rfl) (gC hm rfl call43 (impl_within_ok _ (aA.blocks.length : Int) 1 160) fun bg bh w hm => gN rfl (gKf rfl (gE (gz hm [2, 1, 0] rfl))))
  repeat clear hm
  intro aP w hm
  refine gs 36 rfl (fun av => ?_) fun av => ?_
  ·
   exact gct rfl (gS (gR (gA rfl (gE (gRt (gr1 results97 rfl ⟨rfl, hm.below⟩))))))
  refine gcf rfl (gSk (gS (gR (gY (yU rfl) (gAl hm zeroValue155 rfl fun aG w hm => gS1 hm 0 sizeOf155 rfl rfl fun w hm => gE (gS (gS (gR (gF fo_44_2 rfl (gL hm 3 isAgg42 rfl ?_))))))))))
  obtain ⟨ai, aF, rfl, bj⟩ := ro_slice aK
  refine gY (yV st_42 rfl) (gM rfl (gE (gBk (gNf hm (fun aJ aj => [(2, (pV aD)), (3, (pV aE)), (5, (pV aB)), (6, (pV aG)), (39, (.slice ai aA.blocks.length aF)), (40, (nV ((aA.blocks.length : Int)))), (41, (nV aJ))]) (fun aJ aj => [blk aD [(sV aL aM u.codes.length aN)] 28, blk aE [(nV k_)] 3, blk aB [(nV aA.params), (nV aA.regs), (.slice ai aA.blocks.length aF)] 44, blk aG [(.func (.func 145) #[] #[(pV aB)])] 155]) [1, 2, 3, 0] rfl ?_ ?_))))
  ·
   repeat clear hm
   intro bk aZ aJ aj w hm bl bm bo aa
   refine gS (gR (gB rfl (gE (gS (go _ 42 rfl (decide_eq_true (by omega)) (gct rfl (gSk (gS (gBk (gS (gR (gM rfl (gg fun aC aw ab => ?_)))))))))))))
   obtain ⟨aH, aI, bp, he⟩ := idx_form' aK ab
   obtain ⟨rfl, _, rfl⟩ := sl3 he
   obtain ⟨ac, aQ, aR, ax, aS, ak, ae⟩ := rk_Block_ aK ab
   refine gI st_42 aw (idx_lt ab) rfl (gY (yn (ax.mono hm.lez) isAgg59 sizeOf59 rfl) (gAl hm zeroValue59 rfl fun aO w hm => gA rfl (gSN hm 0 sizeOf59 (one_cons (rep_one aS) (one_cons (rep_one ak) (one_cons rfl (one_cons rfl (one_cons (rep_one ae) one_nil))))) rfl fun w hm => gE (gS (gS (gJ hm (fun aT => [(2, (pV aD)), (3, (pV aE)), (5, (pV aB)), (6, (pV aG)), (7, (nV aJ)), (8, (pV aO)), (39, (sV aH aI aA.blocks.length aF)), (40, (nV ((aA.blocks.length : Int)))), (41, (nV aJ)), (75, (.bool (aT)))]) (fun aT => [blk aD [(sV aL aM u.codes.length aN)] 28, blk aE [(nV k_)] 3, blk aB [(nV aA.params), (nV aA.regs), (sV aH aI aA.blocks.length aF)] 44, blk aG [(.func (.func 145) #[] #[(pV aB)])] 155, blk aO [ac, aQ, (nV aC.jump), (nV aC.on), aR] 59]) (fun aT => ?_) ?_))))))
   ·
    refine gW (.p 0 (.p 3 (.q 1 (.p 2 (.e 4 (.e 5 (.p 6 (.p 7 (.p 8 (.e 9 (.e 10 (.p 11 (.p 13 (.q 12 (.e 14 (.e 15 (.p 16 (.p 17 (.p 18 (.p 19 (.p 20 (.e 21 (.e 22 (.p 23 (.p 24 (.p 25 (.e 26 (.p 27 (.p 28 (.p 29 .fin))) .nil)))) .nil) .nil)))))) .nil) .nil)))) .nil) .nil)))) .nil) .nil))))) [4, 5, 14] [0, 2, 3, 6, 7, 8, 11, 13, 16, 17, 18, 19, 20, 23, 24, 25, 27, 28, 29] hm [0, 1, 2, 3, 4] [blk aO [ac, aQ, (nV aC.jump), (nV aC.on), aR] 59, blk aD [(sV aL aM u.codes.length aN)] 28, blk aE [(nV k_)] 3, blk aB [(nV aA.params), (nV aA.regs), (sV aH aI aA.blocks.length aF)] 44, blk aG [(.func (.func 145) #[] #[(pV aB)])] 155] rfl mxo (by kernel_rfl) (fun _ _ _ h => h.2) fun w hm hS => tP rfl (fun w => yF fo_59_4 rfl) (tP rfl (fun w => yF fo_59_2 rfl) (tQ rfl hS (fun w hm => yL hm 0 isAgg57 rfl) ?_))
    obtain ⟨bq, br, rfl, bt⟩ := ro_slice ae
    refine tP rfl (fun w => yV st_57 rfl) (tO (tY rfl (yL hm 0 isAgg3 rfl) (tAs hS (tO (gb fun bu ay => tf rfl rfl (fun a hf => e_call hf rfl call146 rfl (impl_nextCount_ok _ aC.jump _ ay)) ?_)))))
    rintro bv w ⟨rfl, hB⟩
    replace hm := hm.below' hB; clear hB
    refine tAk hm [0, 1, 2, 3, 4] rfl fun hS => tP rfl (fun w => yB rfl) (tP rfl (fun w => yM rfl) (gsd 53 rfl (fun az => ?_) fun az => ?_))
    ·
     refine tPo rfl rfl (tO (tEo rfl rfl (tAn rfl (tO (tEo rfl rfl (tAn rfl (tPo rfl rfl (tPo rfl rfl (tQo rfl hS rfl (tO (tEo rfl rfl (tAs hS (tO (tEo rfl rfl (tAn rfl (tPo rfl rfl (tPo rfl rfl (tP rfl (fun w => yKt rfl) (tP rfl (fun w => yM rfl) (tPo rfl rfl (tO (tEo rfl rfl (tAn rfl (tO (tEo rfl rfl (tAn rfl (tPo rfl rfl (tPo rfl rfl (tPo rfl rfl (tO ?_))))))))))))))))))))))))))))))
     exact tEo rfl rfl (tAn rfl (tPo rfl rfl (tPo rfl rfl (tP rfl (fun w => yKt rfl) (tE (gz hm [1, 2, 3, 4, 0] rfl))))))
    refine tP rfl (fun w => yF fo_59_2 rfl) (tO (tY rfl (yL hm 0 isAgg3 rfl) (tAn rfl (tO (gb fun bw bA => tf rfl rfl (fun a hf => e_call hf rfl call142 rfl (impl_usesOn_ok _ aC.jump _ bA)) ?_)))))
    rintro bx w ⟨rfl, hB⟩
    replace hm := hm.below' hB; clear hB
    refine tAk hm [0, 1, 2, 3, 4] rfl fun hS => tP rfl (fun w => yM rfl) (gs 57 rfl (fun bB => ?_) fun bB => ?_)
    ·
     refine tP rfl (fun w => yF fo_59_3 rfl) (tQ rfl hS (fun w hm => yL hm 4 isAgg155 rfl) (tO (tY rfl (yL hm 0 isAgg3 rfl) (tAs hS (tO (gb fun bz bC => tf rfl rfl (fun a hf => e_callv hf rfl rfl rfl ⟨145, [(pV aB)], rfl, call145, impl_codeOk_1_ok _ aC.on aA (sV aH aI aA.blocks.length aF) (rep_later (hm.now aK) (Below.refl _ _)) aB (hm.blk_later 3 rfl (Below.refl _ _)) _ bC⟩) ?_))))))
     rintro cA w ⟨rfl, hB⟩
     replace hm := hm.below' hB; clear hB
     refine tAn rfl (tP rfl (fun w => yN rfl) (tP rfl (fun w => yKt rfl) (tP rfl (fun w => yKf rfl) (tP rfl (fun w => yM rfl) (gsn 65 rfl (fun bD => ?_) fun bD => ?_)))))
     ·
      exact tPo rfl rfl (tO (tEo rfl rfl (tAn rfl (tO (tEo rfl rfl (tAn rfl (tPo rfl rfl (tPo rfl rfl (tPo rfl rfl (tO (tEo rfl rfl (tAn rfl (tPo rfl rfl (tPo rfl rfl (tP rfl (fun w => yKt rfl) (tE (gz hm [1, 2, 3, 4, 0] rfl)))))))))))))))))
     refine tP rfl (fun w => yF fo_59_2 rfl) (tO (tY rfl (yL hm 0 isAgg3 rfl) (tAn rfl (tO (gb fun cB bE => tf rfl rfl (fun a hf => e_call hf rfl call142 rfl (impl_usesOn_ok _ aC.jump _ bE)) ?_)))))
     rintro cC w ⟨rfl, hB⟩
     replace hm := hm.below' hB; clear hB
     refine tAn rfl (tP rfl (fun w => yN rfl) (tP rfl (fun w => yM rfl) (gsn 70 rfl (fun bF => ?_) fun bF => ?_)))
     ·
      exact tP rfl (fun w => yF fo_59_3 rfl) (tO (tY rfl (yL hm 0 isAgg3 rfl) (tAn rfl (tP rfl (fun w => yB rfl) (tP rfl (fun w => yKt rfl) (tP rfl (fun w => yKf rfl) (tE (gz hm [1, 2, 3, 4, 0] rfl))))))))
     exact tPo rfl rfl (tO (tEo rfl rfl (tAn rfl (tPo rfl rfl (tP rfl (fun w => yKf rfl) (tP rfl (fun w => yKf rfl) (tE (gz hm [1, 2, 3, 4, 0] rfl))))))))
    refine tPo rfl rfl (tQo rfl hS rfl (tO (tEo rfl rfl (tAs hS (tO (tEo rfl rfl (tAn rfl (tPo rfl rfl (tP rfl (fun w => yKf rfl) (tP rfl (fun w => yKf rfl) (tP rfl (fun w => yM rfl) (tP rfl (fun w => yF fo_59_2 rfl) (tO (tY rfl (yL hm 0 isAgg3 rfl) (tAn rfl (tO (gb fun cD bG => tf rfl rfl (fun a hf => e_call hf rfl call142 rfl (impl_usesOn_ok _ aC.jump _ bG)) ?_)))))))))))))))))
    rintro cE w ⟨rfl, hB⟩
    replace hm := hm.below' hB; clear hB
    refine tAn rfl (tP rfl (fun w => yN rfl) (tP rfl (fun w => yM rfl) (gsn 70 rfl (fun bH => ?_) fun bH => ?_)))
    ·
     exact tP rfl (fun w => yF fo_59_3 rfl) (tO (tY rfl (yL hm 0 isAgg3 rfl) (tAn rfl (tP rfl (fun w => yB rfl) (tP rfl (fun w => yKt rfl) (tP rfl (fun w => yKf rfl) (tE (gz hm [1, 2, 3, 4, 0] rfl))))))))
    exact tPo rfl rfl (tO (tEo rfl rfl (tAn rfl (tPo rfl rfl (tP rfl (fun w => yKf rfl) (tP rfl (fun w => yKf rfl) (tE (gz hm [1, 2, 3, 4, 0] rfl))))))))
   repeat clear hm
   intro aT w hm
   refine gs 75 rfl (fun bJ => ?_) fun bJ => ?_
   ·
    exact gct rfl (gS (gR (gA rfl (gE (gRt (gLr aa aZ (gr1 results97 rfl ⟨rfl, hm.below⟩)))))))
   refine gcf rfl (gSk (gS (gS (gJ hm (fun aV => [(2, (pV aD)), (3, (pV aE)), (5, (pV aB)), (6, (pV aG)), (7, (nV aJ)), (8, (pV aO)), (39, (sV aH aI aA.blocks.length aF)), (40, (nV ((aA.blocks.length : Int)))), (41, (nV aJ)), (85, (.bool (aV)))]) (fun aV => [blk aD [(sV aL aM u.codes.length aN)] 28, blk aE [(nV k_)] 3, blk aB [(nV aA.params), (nV aA.regs), (sV aH aI aA.blocks.length aF)] 44, blk aG [(.func (.func 145) #[] #[(pV aB)])] 155, blk aO [ac, aQ, (nV aC.jump), (nV aC.on), aR] 59]) (fun aV => ?_) ?_))))
   ·
    refine gR (gF fo_59_4 rfl (gL hm 4 isAgg57 rfl (gY (yU rfl) (gC hm rfl call147 (slices_ContainsFunc_S_int_int_ok _ aC.next_ aR (hm.now ae) (fun y0 => impl_codeOk_2 y0 aA) (.func (.func 148) #[] #[(pV aB)]) (fun w y0 r hB hq => ⟨148, [(pV aB)], rfl, call148, impl_codeOk_2_ok w y0 aA (sV aH aI aA.blocks.length aF) (rep_later (hm.now aK) hB) aB (hm.blk_later 2 rfl hB) r hq⟩)) fun cF cG w hm => gM rfl (gs 80 rfl (fun bK => ?_) fun bK => ?_)))))
    ·
     exact gO rfl (gO rfl (gO rfl (gO rfl (gKt rfl (gE (gz hm [0, 1, 2, 3, 4] rfl))))))
    exact gF fo_59_1 rfl (gL hm 4 isAgg56 rfl (gY (yU rfl) (gC hm rfl call149 (slices_ContainsFunc_S_impl_Ins_impl_Ins_ok _ aC.ins aQ (hm.now ak) (fun y0 => impl_codeOk_3 y0 u k_) (.func (.func 150) #[] #[(pV aD), (pV aE)]) (fun w y0 bL bM r hB hq => ⟨150, [(pV aD), (pV aE)], rfl, call150, impl_codeOk_3_ok w y0 bL bM u (sV aL aM u.codes.length aN) (rep_later (hm.now h1) hB) aD (hm.blk_later 0 rfl hB) k_ aE (hm.blk_later 1 rfl hB) r hq⟩)) fun cH cI w hm => gKf rfl (gE (gz hm [0, 1, 2, 3, 4] rfl)))))
   repeat clear hm
   intro aV w hm
   refine gs 85 rfl (fun bN => ?_) fun bN => ?_
   ·
    exact gct rfl (gS (gR (gA rfl (gE (gRt (gLr aa aZ (gr1 results97 rfl ⟨rfl, hm.below⟩)))))))
   refine gcf rfl (gSk (gS (gR (gY (yn (hm.blk_at 2 rfl) isAgg44 sizeOf44 rfl) (gM rfl (gCg rfl call78 (impl_PredsOf_ok _ aA (sV aH aI aA.blocks.length aF) (hm.now aK) aJ) ?_))))))
   rintro al cJ cK w ⟨_, rfl, hB⟩
   replace hm := hm.give hB; clear hB
   obtain ⟨cL, cM, rfl, cN⟩ := ro_slice (hm.ow_rep 0 rfl)
   refine gY (yV st_57 rfl) (gA rfl (gE (gS (gR (gF fo_59_0 rfl (gL hm 5 isAgg55 rfl ?_))))))
   obtain ⟨bO, am, rfl, cO⟩ := ro_slice aS
   refine gY (yV st_55 rfl) (gM rfl (gE (gBk (gNf hm (fun aW an => [(2, (pV aD)), (3, (pV aE)), (5, (pV aB)), (6, (pV aG)), (7, (nV aJ)), (9, (nV ((al.length : Int)))), (39, (sV aH aI aA.blocks.length aF)), (40, (nV ((aA.blocks.length : Int)))), (41, (nV aJ)), (91, (.slice bO aC.phis.length am)), (92, (nV ((aC.phis.length : Int)))), (93, (nV aW))]) (fun aW an => [blk aD [(sV aL aM u.codes.length aN)] 28, blk aE [(nV k_)] 3, blk aB [(nV aA.params), (nV aA.regs), (sV aH aI aA.blocks.length aF)] 44, blk aG [(.func (.func 145) #[] #[(pV aB)])] 155]) [1, 2, 3, 4] rfl ?_ ?_))))
   ·
    repeat clear hm
    intro cP bP aW an w hm cQ cR cS bQ
    refine gS (gR (gB rfl (gE (gS (go _ 94 rfl (decide_eq_true (by omega)) (gct rfl (gSk (gS (gBk (gS (gR (gg fun af bR ag => ?_))))))))))))
    obtain ⟨bS, bT, cT, he⟩ := idx_form' aS ag
    obtain ⟨rfl, _, rfl⟩ := sl3 he
    obtain ⟨cU, bU, ah⟩ := rk_Phi_ aS ag
    refine gI st_55 bR (idx_lt ag) rfl (gY (yn (bU.mono hm.lez) isAgg87 sizeOf87 rfl) (gAl hm zeroValue87 rfl fun cV w hm => gSN hm 0 sizeOf87 (one_cons rfl (one_cons (rep_one ah) one_nil)) rfl fun w hm => gE (gS (gJ hm (fun aX => [(2, (pV aD)), (3, (pV aE)), (5, (pV aB)), (6, (pV aG)), (7, (nV aJ)), (9, (nV ((al.length : Int)))), (39, (sV aH aI aA.blocks.length aF)), (40, (nV ((aA.blocks.length : Int)))), (41, (nV aJ)), (91, (sV bS bT aC.phis.length am)), (92, (nV ((aC.phis.length : Int)))), (93, (nV aW)), (118, (.bool (aX)))]) (fun aX => [blk aD [(sV aL aM u.codes.length aN)] 28, blk aE [(nV k_)] 3, blk aB [(nV aA.params), (nV aA.regs), (sV aH aI aA.blocks.length aF)] 44, blk aG [(.func (.func 145) #[] #[(pV aB)])] 155]) (fun aX => ?_) ?_))))
    ·
     refine gR (gM rfl (gB rfl (gM rfl (gsd 99 rfl (fun bV => ?_) fun bV => ?_))))
     ·
      exact gO rfl (gO rfl (gO rfl (gO rfl (gO rfl (gKt rfl (gM rfl (gO rfl (gO rfl (gO rfl (gO rfl (gO rfl (gKt rfl (gM rfl (gO rfl (gO rfl (gO rfl (gO rfl (gKt rfl (gE (gz hm [1, 2, 3, 4] rfl))))))))))))))))))))
     refine gL hm 4 isAgg155 rfl (gF fo_87_0 rfl (gL hm 0 isAgg3 rfl (gb fun cW bW => gf rfl (fun a hf => e_callv hf rfl rfl rfl ⟨145, [(pV aB)], rfl, call145, impl_codeOk_1_ok _ af.to aA (sV aH aI aA.blocks.length aF) (rep_later (hm.now aK) (Below.refl _ _)) aB (hm.blk_later 3 rfl (Below.refl _ _)) _ bW⟩) ?_)))
     rintro cX w ⟨rfl, hB⟩
     replace hm := hm.below' hB; clear hB
     refine gN rfl (gKf rfl (gM rfl (gsn 106 rfl (fun bX => ?_) fun bX => ?_)))
     ·
      exact gO rfl (gO rfl (gO rfl (gO rfl (gO rfl (gKt rfl (gM rfl (gO rfl (gO rfl (gO rfl (gO rfl (gKt rfl (gE (gz hm [1, 2, 3, 4] rfl)))))))))))))
     refine gF fo_87_1 rfl (gL hm 0 isAgg57 rfl ?_)
     obtain ⟨bY, bZ, rfl, cY⟩ := ro_slice ah
     refine gY (yV st_57 rfl) (gM rfl (gB rfl (gKf rfl (gM rfl (gsd 113 rfl (fun b6 => ?_) fun b6 => ?_)))))
     ·
      exact gO rfl (gO rfl (gO rfl (gO rfl (gKt rfl (gE (gz hm [1, 2, 3, 4] rfl))))))
     exact gF fo_87_1 rfl (gL hm 0 isAgg57 rfl (gY (yU rfl) (gC hm rfl call147 (slices_ContainsFunc_S_int_int_ok _ af.args (.slice bY af.args.length bZ) (hm.now ah) (fun y0 => impl_codeOk_4 y0 aA) (.func (.func 152) #[] #[(pV aG)]) (fun w y0 r hB hq => ⟨152, [(pV aG)], rfl, call152, impl_codeOk_4_ok w y0 aA (sV aH aI aA.blocks.length aF) (rep_later (hm.now aK) hB) aB (hm.blk_later 3 rfl hB) aG (hm.blk_later 4 rfl hB) r hq⟩)) fun cZ c4 w hm => gKf rfl (gE (gz hm [1, 2, 3, 4] rfl)))))
    repeat clear hm
    intro aX w hm
    refine gs 118 rfl (fun b7 => ?_) fun b7 => ?_
    ·
     exact gct rfl (gS (gR (gA rfl (gE (gRt (gLr bQ bP (gLr aa aZ (gr1 results97 rfl ⟨rfl, hm.below⟩))))))))
    exact gcf rfl (gSk (gR (gP (by omega) (by omega) rfl (gM rfl (gE (gze hm [0, 1, 2, 3] rfl))))))
   repeat clear hm
   intro c5 c6 w hm c7 c8
   exact gS (gR (gB rfl (gE (gS (go _ 94 rfl (decide_eq_false (by omega)) (gcf rfl (gXt (gHh (gR (gP (by omega) (by omega) rfl (gM rfl (gE (gze hm [0, 1, 2, 3] rfl)))))))))))))
  repeat clear hm
  intro c9 ca w hm cb cc
  exact gS (gR (gB rfl (gE (gS (go _ 42 rfl (decide_eq_false (by omega)) (gcf rfl (gXt (gHh (gS (gR (gA rfl (gE (gRt (gr1 results97 rfl ⟨rfl, hm.below⟩))))))))))))))
theorem impl_codeCount_ok (w0 : World) (c_ : Code_) (v1 : Value) (h1 : GT.rep (hp w0) [v1] c_.blocks) :
    ConM Tryz.prog 52 [(.agg #[(nV c_.params), (nV c_.regs), v1])] w0 (impl_codeCount c_) fun r v w' => v = (nV r) ∧ Below w0.heap.size w0 w' := by
  unfold impl_codeCount
  refine gcon func52 rfl fun r => ?_
  have hm := Mem.start w0
  refine gS (gR (gBx hm rfl fun aK w hm => gA rfl (gE (gS (gR (gA rfl (gE (gS (gS (gR (gF fo_44_2 rfl (gL hm 0 isAgg42 rfl ?_))))))))))))
  obtain ⟨aF, aG, rfl, aL⟩ := ro_slice h1
  refine gY (yV st_42 rfl) (gM rfl (gE (gBk (gNf hm (fun aA aB => [(3, (nV aB)), (7, (.slice aF c_.blocks.length aG)), (8, (nV ((c_.blocks.length : Int)))), (9, (nV aA))]) (fun aA aB => []) [] rfl ?_ ?_))))
  ·
   repeat clear hm
   intro _ _ aA aB w hm aM aN aO _
   refine gS (gR (gB rfl (gE (gS (go _ 10 rfl (decide_eq_true (by omega)) (gct rfl (gSk (gS (gBk (gS (gR (gg fun aP aH aC => ?_))))))))))))
   obtain ⟨aQ, aR, aS, he⟩ := idx_form' h1 aC
   obtain ⟨rfl, _, rfl⟩ := sl3 he
   obtain ⟨aT, aV, aW, aI, aD, aE, aJ⟩ := rk_Block_ h1 aC
   refine gI st_42 aH (idx_lt aC) rfl (gY (yn (aI.mono hm.lez) isAgg59 sizeOf59 rfl) (gAl hm zeroValue59 rfl fun aX w hm => gSN hm 0 sizeOf59 (one_cons (rep_one aD) (one_cons (rep_one aE) (one_cons rfl (one_cons rfl (one_cons (rep_one aJ) one_nil))))) rfl fun w hm => gE (gR (gM rfl (gF fo_59_0 rfl (gL hm 0 isAgg55 rfl ?_))))))
   obtain ⟨aY, aZ, rfl, aa⟩ := ro_slice aD
   refine gY (yV st_55 rfl) (gF fo_59_1 rfl (gL hm 0 isAgg56 rfl ?_))
   obtain ⟨ab, ac, rfl, ae⟩ := ro_slice aE
   exact gY (yV st_56 rfl) (gP (by omega) (by omega) rfl (gB rfl (gA rfl (gE (gR (gP (by omega) (by omega) rfl (gM rfl (gE (gze hm [] rfl)))))))))
  repeat clear hm
  intro af ag w hm ah ai
  exact gS (gR (gB rfl (gE (gS (go _ 10 rfl (decide_eq_false (by omega)) (gcf rfl (gXt (gHh (gS (gR (gM rfl (gA rfl (gE (gRt (gr1 results52 rfl ⟨rfl, hm.below⟩)))))))))))))))
theorem impl_UnitValid_ok (w0 : World) (u : Unit_) (v1 : Value) (h1 : GT.rep (hp w0) [v1] u.codes) :
    ConM Tryz.prog 48 [(.agg #[v1])] w0 (impl_UnitValid u) fun r v w' => v = (.bool (r)) ∧ Below w0.heap.size w0 w' := by
  unfold impl_UnitValid
  refine gcon func48 rfl fun r => ?_
  have hm := Mem.start w0
  refine gS (gR (gBx hm rfl fun aE w hm => gA rfl (gE (gS (gS (gR (gF fo_28_0 rfl (gL hm 0 isAgg26 rfl ?_))))))))
  obtain ⟨aF, aB, rfl, aR⟩ := ro_slice h1
  refine gY (yV st_26 rfl) (gC hm rfl call43 (impl_within_ok _ (u.codes.length : Int) 1 4) fun aS aT w hm => gN rfl (gE (gsn 10 rfl (fun aH => ?_) fun aH => ?_)))
  ·
   exact gct rfl (gS (gR (gA rfl (gE (gRt (gr1 results48 rfl ⟨rfl, hm.below⟩))))))
  refine gcf rfl (gSk (gS (gR (gA rfl (gE (gS (gS (gR (gF fo_28_0 rfl (gL hm 0 isAgg26 rfl (gY (yV st_26 rfl) (gM rfl (gE (gBk (gNf hm (fun aA aC => [(1, (pV aE)), (3, (nV aC)), (12, (.slice aF u.codes.length aB)), (13, (nV ((u.codes.length : Int)))), (14, (nV aA))]) (fun aA aC => [blk aE [(.slice aF u.codes.length aB)] 28]) [0] rfl ?_ ?_)))))))))))))))
  ·
   repeat clear hm
   intro aV aI aA aC w hm aW aX aY aJ
   refine gS (gR (gB rfl (gE (gS (go _ 15 rfl (decide_eq_true (by omega)) (gct rfl (gSk (gS (gBk (gS (gR (gM rfl (gg fun aK aL aD => ?_)))))))))))))
   obtain ⟨aM, aN, aZ, he⟩ := idx_form' h1 aD
   obtain ⟨rfl, _, rfl⟩ := sl3 he
   obtain ⟨aO, aP, aG⟩ := rk_Code_ h1 aD
   refine gI st_26 aL (idx_lt aD) rfl (gY (yn (aP.mono hm.lez) isAgg44 sizeOf44 rfl) (gAl hm zeroValue44 rfl fun aa w hm => gA rfl (gSN hm 0 sizeOf44 (one_cons rfl (one_cons rfl (one_cons (rep_one aG) one_nil))) rfl fun w hm => gE (gS (gS (gR (gY (yn (hm.blk_at 1 rfl) isAgg28 sizeOf28 rfl) (gM rfl (gC hm rfl call97 (impl_codeOk_ok _ u (sV aM aN u.codes.length aB) (hm.now h1) aA) fun ab ac w hm => gN rfl (gE (gsn 22 rfl (fun aQ => ?_) fun aQ => ?_)))))))))))
   ·
    exact gct rfl (gS (gR (gA rfl (gE (gRt (gLr aJ aI (gr1 results48 rfl ⟨rfl, hm.below⟩)))))))
   exact gcf rfl (gSk (gR (gM rfl (gY (yn (hm.blk_at 0 rfl) isAgg44 sizeOf44 rfl) (gC hm rfl call52 (impl_codeCount_ok _ aK aO (hm.now aG)) fun ae af w hm => gB rfl (gA rfl (gE (gR (gP (by omega) (by omega) rfl (gM rfl (gE (gze hm [1] rfl))))))))))))
  repeat clear hm
  intro ag ah w hm ai aj
  exact gS (gR (gB rfl (gE (gS (go _ 15 rfl (decide_eq_false (by omega)) (gcf rfl (gXt (gHh (gS (gR (gM rfl (gB rfl (gA rfl (gE (gRt (gr1 results48 rfl ⟨rfl, hm.below⟩))))))))))))))))
theorem impl_mapped_impl_Code_impl_Code_ok (w0 : World) (list : List Code_) (v1 : Value) (h1 : GT.rep (hp w0) [v1] list) (f : Code_ → Option Code_) (fv1 : Value) (hfn1 : ∀ (w : World) (y0 : Code_) (z1 : Value) (_ : GT.rep (hp w) [z1] y0.blocks) (r : Code_), Below w0.heap.size w0 w → f y0 = some r → FnOk Tryz.prog fv1 [(.agg #[(nV y0.params), (nV y0.regs), z1])] w (fun v w' => ∃ (x1 : Value), v = (.agg #[(nV r.params), (nV r.regs), x1]) ∧ Mem w (hp w) w' [ow [x1] r.blocks])) :
    ConM Tryz.prog 31 [v1, fv1] w0 (impl_mapped_impl_Code_impl_Code list f) fun r v w' => ∃ (x1 : Value), v = x1 ∧ Mem w0 (hp w0) w' [ow [x1] r] := by
  unfold impl_mapped_impl_Code_impl_Code
  refine gcon func31 rfl fun r => ?_
  have hm := Mem.start w0
  refine gS (gR (gA rfl (gE (gS (gR (gA rfl (gE (gS (gS (gR (gM rfl ?_)))))))))))
  obtain ⟨aL, aM, rfl, aW⟩ := ro_slice h1
  refine gY (yV st_26 rfl) (gM rfl (gE (gBk ?_)))
  replace hm := hm.nilow (α := Code_)
  refine gNg (fun aJ aC a w => ∃ (aD : Value), St 22 [(1, fv1), (5, aD), (8, (.slice aL list.length aM)), (9, (nV ((list.length : Int)))), (10, (nV aJ))] w0 (hp w0) [ow [aD] aC] a w) (fun a hf => ⟨(.slice none 0 0), hf.sb rfl, hm.pk [0] rfl rfl⟩) ?_ ?_
  ·
   repeat clear hm
   rintro _ _ aJ aC a w ⟨aD, hf, hm⟩ aX aY aZ _
   refine gv hf (gS (gR (gB rfl (gE (gS (go _ 11 rfl (decide_eq_true (by omega)) (gct rfl (gSk (gS (gBk (gS (gR (gg fun aB aN aI => ?_)))))))))))))
   obtain ⟨aa, ab, ac, he⟩ := idx_form' h1 aI
   obtain ⟨rfl, _, rfl⟩ := sl3 he
   obtain ⟨aF, aO, aK⟩ := rk_Code_ h1 aI
   refine gI st_26 aN (idx_lt aI) rfl (gY (yn (aO.mono hm.lez) isAgg44 sizeOf44 rfl) (gAl hm zeroValue44 rfl fun aG w hm => gSN hm 0 sizeOf44 (one_cons rfl (one_cons rfl (one_cons (rep_one aK) one_nil))) rfl fun w hm => gE (gR (gM rfl (gM rfl (gY (yn (hm.blk_at 0 rfl) isAgg44 sizeOf44 rfl) (gb fun aA aP => gf rfl (fun a hf => e_callv hf rfl rfl rfl (hfn1 _ aB aF (hm.now aK) _ hm.below aP)) ?_)))))))
   rintro ae w ⟨aE, rfl, hB⟩
   replace hm := hm.give hB; clear hB
   refine gf rfl (fun a hf => e_build (vs := #[(0, (.agg #[(nV aA.params), (nV aA.regs), aE]))]) (cs := [(nV aA.params), (nV aA.regs), aE]) et_26 hf hm rfl rfl (by kernel_rfl) rfl rfl) ?_
   rintro _ w ⟨aH, rfl, hm⟩
   replace hm := hm.els_nil (α := Code_)
   replace hm : Mem w0 (hp w0) _ [els [] ([] : List Code_), blk aH [(nV aA.params), (nV aA.regs), aE] 44, ow [(nV aA.params), (nV aA.regs), aE] (aA : Code_), blk aG [(nV aB.params), (nV aB.regs), aF] 44, ow [aD] aC] := mk_Code_ aA.params aA.regs hm 2 rfl
   replace hm := (hm.els_cons 0 2 (by decide) rfl rfl).pk (L' := [els [(nV aA.params), (nV aA.regs), aE] ([aA] : List Code_), blk aH [(nV aA.params), (nV aA.regs), aE] 44, blk aG [(nV aB.params), (nV aB.regs), aF] 44, ow [aD] aC]) [0, 1, 3, 4] rfl rfl
   replace hm := (hm.lit_els 1 0 (by decide) rfl rfl rfl rfl).pk (L' := [ow [(sV aH 0 1 1)] ([aA] : List Code_), blk aG [(nV aB.params), (nV aB.regs), aF] 44, ow [aD] aC]) [1, 2, 3] rfl rfl
   refine gb fun af aQ => ?_
   obtain ⟨aR, aS⟩ := appM_some.1 aQ
   replace hm := (hm.both 2 0 (by decide) rfl rfl).pk (L' := [blk aG [(nV aB.params), (nV aB.regs), aF] 44, both (ow [aD] aC) (ow [(sV aH 0 1 1)] ([aA] : List Code_))]) [1, 2] rfl rfl
   refine gf rfl (fun a hf => e_appendD (xs := aC) (ys := ([aA] : List Code_)) 1 et_26 hf hm rfl rfl rfl rfl aR) ?_
   rintro aT w hm
   rw [aS] at hm
   exact gA rfl (gE (gR (gP (by omega) (by omega) rfl (gM rfl (gE (gZe fun a hf => ⟨aT, hf.sb rfl, hm.pk [1] rfl rfl⟩))))))
  repeat clear hm
  rintro ag ah a w ⟨aV, hf, hm⟩ ai aj
  exact gv hf (gS (gR (gB rfl (gE (gS (go _ 11 rfl (decide_eq_false (by omega)) (gcf rfl (gXt (gHh (gS (gR (gM rfl (gA rfl (gE (gRt (gr1 results31 rfl ⟨aV, rfl, hm.pk [0] rfl rfl⟩))))))))))))))))
theorem impl_perCode_ok (w0 : World) (u : Unit_) (v1 : Value) (h1 : GT.rep (hp w0) [v1] u.codes) (f : Code_ → Option Code_) (fv1 : Value) (hfn1 : ∀ (w : World) (y0 : Code_) (z1 : Value) (_ : GT.rep (hp w) [z1] y0.blocks) (r : Code_), Below w0.heap.size w0 w → f y0 = some r → FnOk Tryz.prog fv1 [(.agg #[(nV y0.params), (nV y0.regs), z1])] w (fun v w' => ∃ (x1 : Value), v = (.agg #[(nV r.params), (nV r.regs), x1]) ∧ Mem w (hp w) w' [ow [x1] r.blocks])) :
    ConM Tryz.prog 71 [(.agg #[v1]), fv1] w0 (impl_perCode u f) fun r v w' => ∃ (x1 : Value), v = (.tuple #[(.agg #[x1]), (.bool (r.2))]) ∧ Mem w0 (hp w0) w' [ow [x1] r.1.codes] := by
  unfold impl_perCode
  refine gcon func71 rfl fun r => ?_
  have hm := Mem.start w0
  refine gS (gR (gBx hm rfl fun aG w hm => gAl hm zeroValue28 rfl fun aH w hm => gA rfl (gE (gS (gS (gR (gY (yn (hm.blk_at 1 rfl) isAgg28 sizeOf28 rfl) (gC hm rfl call48 (impl_UnitValid_ok _ u v1 (hm.now h1)) fun aI aJ w hm => gN rfl (gE (gsn 8 rfl (fun aD => ?_) fun aD => ?_))))))))))
  ·
   refine gct rfl (gS (gR (gY (yG rfl (y_build (vs := []) (cs := #[(.slice none 0 0)]) rfl rfl (by kernel_rfl))) (gSN hm 0 sizeOf28 (one_cons rfl one_nil) rfl fun w hm => gA rfl (gE (gRt ?_))))))
   replace hm := hm.nilow (α := Code_)
   exact grct 1 results71 hm rfl isAgg28 sizeOf28 ⟨(.slice none 0 0), rfl, hm.pk [0] rfl rfl⟩
  refine gcf rfl (gSk (gS (gR (gF fo_28_0 rfl (gL hm 1 isAgg26 rfl (gM rfl (gCg rfl call31 (impl_mapped_impl_Code_impl_Code_ok _ u.codes v1 (hm.now h1) f fv1 (fun w y0 aE aF r hB hq => hfn1 w y0 aE aF r (hm.below.trans (hB.mono hm.below.size)) hq)) ?_)))))))
  rintro aA aK aL w ⟨_, rfl, hB⟩
  replace hm := hm.give hB; clear hB
  obtain ⟨aB, aC, rfl, aM⟩ := ro_slice (hm.ow_rep 0 rfl)
  exact gY (yG rfl (y_build (vs := [(0, (.slice aB aA.length aC))]) (cs := #[(.slice aB aA.length aC)]) rfl rfl (by kernel_rfl))) (gSN hm 1 sizeOf28 (one_cons rfl one_nil) rfl fun w hm => gA rfl (gE (gRt (grct 1 results71 hm rfl isAgg28 sizeOf28 ⟨(.slice aB aA.length aC), rfl, hm.pk [0] rfl rfl⟩))))
theorem impl_mapped_impl_Block_impl_Block_ok (w0 : World) (list : List Block_) (v1 : Value) (h1 : GT.rep (hp w0) [v1] list) (f : Block_ → Option Block_) (fv1 : Value) (hfn1 : ∀ (w : World) (y0 : Block_) (z1 : Value) (_ : GT.rep (hp w) [z1] y0.phis) (z2 : Value) (_ : GT.rep (hp w) [z2] y0.ins) (z3 : Value) (_ : GT.rep (hp w) [z3] y0.next_) (r : Block_), Below w0.heap.size w0 w → f y0 = some r → FnOk Tryz.prog fv1 [(.agg #[z1, z2, (nV y0.jump), (nV y0.on), z3])] w (fun v w' => ∃ (x1 : Value) (x2 : Value) (x3 : Value), v = (.agg #[x1, x2, (nV r.jump), (nV r.on), x3]) ∧ Mem w (hp w) w' [ow [x1] r.phis, ow [x2] r.ins, ow [x3] r.next_])) :
    ConM Tryz.prog 123 [v1, fv1] w0 (impl_mapped_impl_Block_impl_Block list f) fun r v w' => ∃ (x1 : Value), v = x1 ∧ Mem w0 (hp w0) w' [ow [x1] r] := by
  unfold impl_mapped_impl_Block_impl_Block
  refine gcon func123 rfl fun r => ?_
  have hm := Mem.start w0
  refine gS (gR (gA rfl (gE (gS (gR (gA rfl (gE (gS (gS (gR (gM rfl ?_)))))))))))
  obtain ⟨aR, aS, rfl, ac⟩ := ro_slice h1
  refine gY (yV st_42 rfl) (gM rfl (gE (gBk ?_)))
  replace hm := hm.nilow (α := Block_)
  refine gNg (fun aN aC a w => ∃ (aD : Value), St 22 [(1, fv1), (5, aD), (8, (.slice aR list.length aS)), (9, (nV ((list.length : Int)))), (10, (nV aN))] w0 (hp w0) [ow [aD] aC] a w) (fun a hf => ⟨(.slice none 0 0), hf.sb rfl, hm.pk [0] rfl rfl⟩) ?_ ?_
  ·
   repeat clear hm
   rintro _ _ aN aC a w ⟨aD, hf, hm⟩ ae af ag _
   refine gv hf (gS (gR (gB rfl (gE (gS (go _ 11 rfl (decide_eq_true (by omega)) (gct rfl (gSk (gS (gBk (gS (gR (gg fun aB aT aM => ?_)))))))))))))
   obtain ⟨ah, ai, aj, he⟩ := idx_form' h1 aM
   obtain ⟨rfl, _, rfl⟩ := sl3 he
   obtain ⟨aH, aI, aJ, aV, aO, aP, aQ⟩ := rk_Block_ h1 aM
   refine gI st_42 aT (idx_lt aM) rfl (gY (yn (aV.mono hm.lez) isAgg59 sizeOf59 rfl) (gAl hm zeroValue59 rfl fun aK w hm => gSN hm 0 sizeOf59 (one_cons (rep_one aO) (one_cons (rep_one aP) (one_cons rfl (one_cons rfl (one_cons (rep_one aQ) one_nil))))) rfl fun w hm => gE (gR (gM rfl (gM rfl (gY (yn (hm.blk_at 0 rfl) isAgg59 sizeOf59 rfl) (gb fun aA aW => gf rfl (fun a hf => e_callv hf rfl rfl rfl (hfn1 _ aB aH (hm.now aO) aI (hm.now aP) aJ (hm.now aQ) _ hm.below aW)) ?_)))))))
   rintro ak w ⟨aE, aF, aG, rfl, hB⟩
   replace hm := hm.give hB; clear hB
   refine gf rfl (fun a hf => e_build (vs := #[(0, (.agg #[aE, aF, (nV aA.jump), (nV aA.on), aG]))]) (cs := [aE, aF, (nV aA.jump), (nV aA.on), aG]) et_42 hf hm rfl rfl (by kernel_rfl) rfl rfl) ?_
   rintro _ w ⟨aL, rfl, hm⟩
   replace hm := hm.els_nil (α := Block_)
   replace hm := (mk_Block_ aA.jump aA.on hm 2 3 4 rfl).pk (L' := [els [] ([] : List Block_), blk aL [aE, aF, (nV aA.jump), (nV aA.on), aG] 59, ow [aE, aF, (nV aA.jump), (nV aA.on), aG] (aA : Block_), blk aK [aH, aI, (nV aB.jump), (nV aB.on), aJ] 59, ow [aD] aC]) [0, 1, 2, 5, 6] rfl rfl
   replace hm := (hm.els_cons 0 2 (by decide) rfl rfl).pk (L' := [els [aE, aF, (nV aA.jump), (nV aA.on), aG] ([aA] : List Block_), blk aL [aE, aF, (nV aA.jump), (nV aA.on), aG] 59, blk aK [aH, aI, (nV aB.jump), (nV aB.on), aJ] 59, ow [aD] aC]) [0, 1, 3, 4] rfl rfl
   replace hm := (hm.lit_els 1 0 (by decide) rfl rfl rfl rfl).pk (L' := [ow [(sV aL 0 1 1)] ([aA] : List Block_), blk aK [aH, aI, (nV aB.jump), (nV aB.on), aJ] 59, ow [aD] aC]) [1, 2, 3] rfl rfl
   refine gb fun al aX => ?_
   obtain ⟨aY, aZ⟩ := appM_some.1 aX
   replace hm := (hm.both 2 0 (by decide) rfl rfl).pk (L' := [blk aK [aH, aI, (nV aB.jump), (nV aB.on), aJ] 59, both (ow [aD] aC) (ow [(sV aL 0 1 1)] ([aA] : List Block_))]) [1, 2] rfl rfl
   refine gf rfl (fun a hf => e_appendD (xs := aC) (ys := ([aA] : List Block_)) 1 et_42 hf hm rfl rfl rfl rfl aY) ?_
   rintro aa w hm
   rw [aZ] at hm
   exact gA rfl (gE (gR (gP (by omega) (by omega) rfl (gM rfl (gE (gZe fun a hf => ⟨aa, hf.sb rfl, hm.pk [1] rfl rfl⟩))))))
  repeat clear hm
  rintro am an a w ⟨ab, hf, hm⟩ ao ap
  exact gv hf (gS (gR (gB rfl (gE (gS (go _ 11 rfl (decide_eq_false (by omega)) (gcf rfl (gXt (gHh (gS (gR (gM rfl (gA rfl (gE (gRt (gr1 results123 rfl ⟨ab, rfl, hm.pk [0] rfl rfl⟩))))))))))))))))
theorem impl_mapped_impl_Phi_impl_Phi_ok (w0 : World) (list : List Phi_) (v1 : Value) (h1 : GT.rep (hp w0) [v1] list) (f : Phi_ → Option Phi_) (fv1 : Value) (hfn1 : ∀ (w : World) (y0 : Phi_) (z1 : Value) (_ : GT.rep (hp w) [z1] y0.args) (r : Phi_), Below w0.heap.size w0 w → f y0 = some r → FnOk Tryz.prog fv1 [(.agg #[(nV y0.to), z1])] w (fun v w' => ∃ (x1 : Value), v = (.agg #[(nV r.to), x1]) ∧ Mem w (hp w) w' [ow [x1] r.args])) :
    ConM Tryz.prog 189 [v1, fv1] w0 (impl_mapped_impl_Phi_impl_Phi list f) fun r v w' => ∃ (x1 : Value), v = x1 ∧ Mem w0 (hp w0) w' [ow [x1] r] := by
  unfold impl_mapped_impl_Phi_impl_Phi
  refine gcon func189 rfl fun r => ?_
  have hm := Mem.start w0
  refine gS (gR (gA rfl (gE (gS (gR (gA rfl (gE (gS (gS (gR (gM rfl ?_)))))))))))
  obtain ⟨aL, aM, rfl, aW⟩ := ro_slice h1
  refine gY (yV st_55 rfl) (gM rfl (gE (gBk ?_)))
  replace hm := hm.nilow (α := Phi_)
  refine gNg (fun aJ aB a w => ∃ (aC : Value), St 22 [(1, fv1), (5, aC), (8, (.slice aL list.length aM)), (9, (nV ((list.length : Int)))), (10, (nV aJ))] w0 (hp w0) [ow [aC] aB] a w) (fun a hf => ⟨(.slice none 0 0), hf.sb rfl, hm.pk [0] rfl rfl⟩) ?_ ?_
  ·
   repeat clear hm
   rintro _ _ aJ aB a w ⟨aC, hf, hm⟩ aX aY aZ _
   refine gv hf (gS (gR (gB rfl (gE (gS (go _ 11 rfl (decide_eq_true (by omega)) (gct rfl (gSk (gS (gBk (gS (gR (gg fun aE aN aI => ?_)))))))))))))
   obtain ⟨aa, ab, ac, he⟩ := idx_form' h1 aI
   obtain ⟨rfl, _, rfl⟩ := sl3 he
   obtain ⟨aF, aO, aK⟩ := rk_Phi_ h1 aI
   refine gI st_55 aN (idx_lt aI) rfl (gY (yn (aO.mono hm.lez) isAgg87 sizeOf87 rfl) (gAl hm zeroValue87 rfl fun aG w hm => gSN hm 0 sizeOf87 (one_cons rfl (one_cons (rep_one aK) one_nil)) rfl fun w hm => gE (gR (gM rfl (gM rfl (gY (yn (hm.blk_at 0 rfl) isAgg87 sizeOf87 rfl) (gb fun aA aP => gf rfl (fun a hf => e_callv hf rfl rfl rfl (hfn1 _ aE aF (hm.now aK) _ hm.below aP)) ?_)))))))
   rintro ae w ⟨aD, rfl, hB⟩
   replace hm := hm.give hB; clear hB
   refine gf rfl (fun a hf => e_build (vs := #[(0, (.agg #[(nV aA.to), aD]))]) (cs := [(nV aA.to), aD]) et_55 hf hm rfl rfl (by kernel_rfl) rfl rfl) ?_
   rintro _ w ⟨aH, rfl, hm⟩
   replace hm := hm.els_nil (α := Phi_)
   replace hm : Mem w0 (hp w0) _ [els [] ([] : List Phi_), blk aH [(nV aA.to), aD] 87, ow [(nV aA.to), aD] (aA : Phi_), blk aG [(nV aE.to), aF] 87, ow [aC] aB] := mk_Phi_ aA.to hm 2 rfl
   replace hm := (hm.els_cons 0 2 (by decide) rfl rfl).pk (L' := [els [(nV aA.to), aD] ([aA] : List Phi_), blk aH [(nV aA.to), aD] 87, blk aG [(nV aE.to), aF] 87, ow [aC] aB]) [0, 1, 3, 4] rfl rfl
   replace hm := (hm.lit_els 1 0 (by decide) rfl rfl rfl rfl).pk (L' := [ow [(sV aH 0 1 1)] ([aA] : List Phi_), blk aG [(nV aE.to), aF] 87, ow [aC] aB]) [1, 2, 3] rfl rfl
   refine gb fun af aQ => ?_
   obtain ⟨aR, aS⟩ := appM_some.1 aQ
   replace hm := (hm.both 2 0 (by decide) rfl rfl).pk (L' := [blk aG [(nV aE.to), aF] 87, both (ow [aC] aB) (ow [(sV aH 0 1 1)] ([aA] : List Phi_))]) [1, 2] rfl rfl
   refine gf rfl (fun a hf => e_appendD (xs := aB) (ys := ([aA] : List Phi_)) 1 et_55 hf hm rfl rfl rfl rfl aR) ?_
   rintro aT w hm
   rw [aS] at hm
   exact gA rfl (gE (gR (gP (by omega) (by omega) rfl (gM rfl (gE (gZe fun a hf => ⟨aT, hf.sb rfl, hm.pk [1] rfl rfl⟩))))))
  repeat clear hm
  rintro ag ah a w ⟨aV, hf, hm⟩ ai aj
  exact gv hf (gS (gR (gB rfl (gE (gS (go _ 11 rfl (decide_eq_false (by omega)) (gcf rfl (gXt (gHh (gS (gR (gM rfl (gA rfl (gE (gRt (gr1 results189 rfl ⟨aV, rfl, hm.pk [0] rfl rfl⟩))))))))))))))))
theorem slices_Clone_S_int_int_ok (w0 : World) (s_ : List Int) (v1 : Value) (h1 : GT.rep (hp w0) [v1] s_) :
    ConM Tryz.prog 143 [v1] w0 (slices_Clone_S_int_int s_) fun r v w' => ∃ (x1 : Value), v = x1 ∧ Mem w0 (hp w0) w' [ow [x1] r] := by
  unfold slices_Clone_S_int_int
  refine gcon func143 rfl fun r => ?_
  have hm := Mem.start w0
  refine gS (gR (gA rfl (gE (gS (gS (gR (gM rfl ?_)))))))
  rcases nil_or h1 with ⟨he, aA⟩ | ⟨aF, aG, he⟩
  ·
   subst he; subst aA
   refine gcg (m' := some ([] : List Int)) (by simp [appM]) (gY (yG rfl (y_eqnil_t st_57.und rfl rfl rfl)) (gE (gct rfl (gS (gR (gA rfl (gE (gRt ?_))))))))
   replace hm := hm.nilow (α := Int)
   exact gr1 results143 rfl ⟨(.slice none 0 0), rfl, hm.pk [0] rfl rfl⟩
  subst he
  refine gY (yG rfl (y_eqnil_f st_57.und rfl rfl rfl)) (gE (gcf rfl (gSk (gS (gR (gf rfl (fun a hf => e_build0 (α := Int) et_57 hm rfl) ?_))))))
  rintro aH w hm
  refine gM rfl (gb fun aI aB => ?_)
  obtain ⟨aC, aD⟩ := appM_some.1 aB
  refine gf rfl (fun a hf => e_append 0 et_57 hf hm rfl (hm.now h1) rfl rfl rfl aC) ?_
  rintro aE w hm
  rw [aD] at hm
  exact gA rfl (gE (gRt (gr1 results143 rfl ⟨aE, rfl, hm.pk [0] rfl rfl⟩)))
theorem impl_clonePhi_ok (w0 : World) (f : Phi_) (v1 : Value) (h1 : GT.rep (hp w0) [v1] f.args) :
    ConM Tryz.prog 190 [(.agg #[(nV f.to), v1])] w0 (impl_clonePhi f) fun r v w' => ∃ (x1 : Value), v = (.agg #[(nV r.to), x1]) ∧ Mem w0 (hp w0) w' [ow [x1] r.args] := by
  unfold impl_clonePhi
  refine gcon func190 rfl fun r => ?_
  have hm := Mem.start w0
  refine gS (gR (gBx hm rfl fun aD w hm => gAl hm zeroValue87 rfl fun aE w hm => gE (gS (gW (.p 0 (.p 2 (.q 1 (.e 3 (.e 4 (.p 5 (.e 6 .fin .nil)) .nil) .nil)))) [3, 4] [0, 2, 5] hm [0, 1] [blk aE [(nV 0), (.slice none 0 0)] 87, blk aD [(nV f.to), v1] 87] rfl mxo (by kernel_rfl) (fun _ _ _ h => h.2) fun w hm hS => tP rfl (fun w => yF fo_87_0 rfl) (tP rfl (fun w => yF fo_87_1 rfl) (tQ rfl hS (fun w hm => yL hm 1 isAgg3 rfl) (tO (tY rfl (yL hm 1 isAgg57 rfl) (tAs hS (tO (gb fun aA aF => tf rfl rfl (fun a hf => e_call hf rfl call143 rfl (slices_Clone_S_int_int_ok _ f.args v1 (hm.now h1) _ aF)) ?_)))))))))))
  rintro aG w ⟨_, rfl, hB⟩
  replace hm := hm.give hB; clear hB
  refine tAk hm [1, 2] rfl fun hS => ?_
  obtain ⟨aB, aC, rfl, aH⟩ := ro_slice (hm.ow_rep 0 rfl)
  refine tP rfl (fun w => yG rfl (y_build (vs := [(0, (nV f.to)), (1, (.slice aB aA.length aC))]) (cs := #[(nV f.to), (.slice aB aA.length aC)]) rfl rfl (by kernel_rfl))) (tO (tf0 rfl rfl (fun a hf => e_storeN 1 hf hm rfl sizeOf87 rfl rfl rfl (one_cons rfl (one_cons rfl one_nil)) rfl rfl) ?_))
  rintro _ w hm
  exact tAn rfl (tE (gRt (grc 1 results190 hm rfl isAgg87 sizeOf87 ⟨(.slice aB aA.length aC), rfl, hm.pk [0] rfl rfl⟩)))
theorem impl_mapped_impl_Ins_impl_Ins_ok (w0 : World) (list : List Ins_) (v1 : Value) (h1 : GT.rep (hp w0) [v1] list) (f : Ins_ → Option Ins_) (fv1 : Value) (hfn1 : ∀ (w : World) (y0 : Ins_) (z1 : Value) (_ : GT.rep (hp w) [z1] y0.args) (r : Ins_), Below w0.heap.size w0 w → f y0 = some r → FnOk Tryz.prog fv1 [(.agg #[(nV y0.op), (nV y0.to), z1, (nV y0.n_)])] w (fun v w' => ∃ (x1 : Value), v = (.agg #[(nV r.op), (nV r.to), x1, (nV r.n_)]) ∧ Mem w (hp w) w' [ow [x1] r.args])) :
    ConM Tryz.prog 191 [v1, fv1] w0 (impl_mapped_impl_Ins_impl_Ins list f) fun r v w' => ∃ (x1 : Value), v = x1 ∧ Mem w0 (hp w0) w' [ow [x1] r] := by
  unfold impl_mapped_impl_Ins_impl_Ins
  refine gcon func191 rfl fun r => ?_
  have hm := Mem.start w0
  refine gS (gR (gA rfl (gE (gS (gR (gA rfl (gE (gS (gS (gR (gM rfl ?_)))))))))))
  obtain ⟨aL, aM, rfl, aW⟩ := ro_slice h1
  refine gY (yV st_56 rfl) (gM rfl (gE (gBk ?_)))
  replace hm := hm.nilow (α := Ins_)
  refine gNg (fun aJ aC a w => ∃ (aD : Value), St 22 [(1, fv1), (5, aD), (8, (.slice aL list.length aM)), (9, (nV ((list.length : Int)))), (10, (nV aJ))] w0 (hp w0) [ow [aD] aC] a w) (fun a hf => ⟨(.slice none 0 0), hf.sb rfl, hm.pk [0] rfl rfl⟩) ?_ ?_
  ·
   repeat clear hm
   rintro _ _ aJ aC a w ⟨aD, hf, hm⟩ aX aY aZ _
   refine gv hf (gS (gR (gB rfl (gE (gS (go _ 11 rfl (decide_eq_true (by omega)) (gct rfl (gSk (gS (gBk (gS (gR (gg fun aB aN aI => ?_)))))))))))))
   obtain ⟨aa, ab, ac, he⟩ := idx_form' h1 aI
   obtain ⟨rfl, _, rfl⟩ := sl3 he
   obtain ⟨aF, aO, aK⟩ := rk_Ins_ h1 aI
   refine gI st_56 aN (idx_lt aI) rfl (gY (yn (aO.mono hm.lez) isAgg61 sizeOf61 rfl) (gAl hm zeroValue61 rfl fun aG w hm => gSN hm 0 sizeOf61 (one_cons rfl (one_cons rfl (one_cons (rep_one aK) (one_cons rfl one_nil)))) rfl fun w hm => gE (gR (gM rfl (gM rfl (gY (yn (hm.blk_at 0 rfl) isAgg61 sizeOf61 rfl) (gb fun aA aP => gf rfl (fun a hf => e_callv hf rfl rfl rfl (hfn1 _ aB aF (hm.now aK) _ hm.below aP)) ?_)))))))
   rintro ae w ⟨aE, rfl, hB⟩
   replace hm := hm.give hB; clear hB
   refine gf rfl (fun a hf => e_build (vs := #[(0, (.agg #[(nV aA.op), (nV aA.to), aE, (nV aA.n_)]))]) (cs := [(nV aA.op), (nV aA.to), aE, (nV aA.n_)]) et_56 hf hm rfl rfl (by kernel_rfl) rfl rfl) ?_
   rintro _ w ⟨aH, rfl, hm⟩
   replace hm := hm.els_nil (α := Ins_)
   replace hm : Mem w0 (hp w0) _ [els [] ([] : List Ins_), blk aH [(nV aA.op), (nV aA.to), aE, (nV aA.n_)] 61, ow [(nV aA.op), (nV aA.to), aE, (nV aA.n_)] (aA : Ins_), blk aG [(nV aB.op), (nV aB.to), aF, (nV aB.n_)] 61, ow [aD] aC] := mk_Ins_ aA.op aA.to aA.n_ hm 2 rfl
   replace hm := (hm.els_cons 0 2 (by decide) rfl rfl).pk (L' := [els [(nV aA.op), (nV aA.to), aE, (nV aA.n_)] ([aA] : List Ins_), blk aH [(nV aA.op), (nV aA.to), aE, (nV aA.n_)] 61, blk aG [(nV aB.op), (nV aB.to), aF, (nV aB.n_)] 61, ow [aD] aC]) [0, 1, 3, 4] rfl rfl
   replace hm := (hm.lit_els 1 0 (by decide) rfl rfl rfl rfl).pk (L' := [ow [(sV aH 0 1 1)] ([aA] : List Ins_), blk aG [(nV aB.op), (nV aB.to), aF, (nV aB.n_)] 61, ow [aD] aC]) [1, 2, 3] rfl rfl
   refine gb fun af aQ => ?_
   obtain ⟨aR, aS⟩ := appM_some.1 aQ
   replace hm := (hm.both 2 0 (by decide) rfl rfl).pk (L' := [blk aG [(nV aB.op), (nV aB.to), aF, (nV aB.n_)] 61, both (ow [aD] aC) (ow [(sV aH 0 1 1)] ([aA] : List Ins_))]) [1, 2] rfl rfl
   refine gf rfl (fun a hf => e_appendD (xs := aC) (ys := ([aA] : List Ins_)) 1 et_56 hf hm rfl rfl rfl rfl aR) ?_
   rintro aT w hm
   rw [aS] at hm
   exact gA rfl (gE (gR (gP (by omega) (by omega) rfl (gM rfl (gE (gZe fun a hf => ⟨aT, hf.sb rfl, hm.pk [1] rfl rfl⟩))))))
  repeat clear hm
  rintro ag ah a w ⟨aV, hf, hm⟩ ai aj
  exact gv hf (gS (gR (gB rfl (gE (gS (go _ 11 rfl (decide_eq_false (by omega)) (gcf rfl (gXt (gHh (gS (gR (gM rfl (gA rfl (gE (gRt (gr1 results191 rfl ⟨aV, rfl, hm.pk [0] rfl rfl⟩))))))))))))))))
theorem impl_cloneIns_ok (w0 : World) (x_ : Ins_) (v1 : Value) (h1 : GT.rep (hp w0) [v1] x_.args) :
    ConM Tryz.prog 192 [(.agg #[(nV x_.op), (nV x_.to), v1, (nV x_.n_)])] w0 (impl_cloneIns x_) fun r v w' => ∃ (x1 : Value), v = (.agg #[(nV r.op), (nV r.to), x1, (nV r.n_)]) ∧ Mem w0 (hp w0) w' [ow [x1] r.args] := by
  unfold impl_cloneIns
  refine gcon func192 rfl fun r => ?_
  have hm := Mem.start w0
  refine gS (gR (gBx hm rfl fun aB w hm => gAl hm zeroValue61 rfl fun aC w hm => gE (gS (gR (gF fo_61_2 rfl (gL hm 1 isAgg57 rfl (gCg rfl call143 (slices_Clone_S_int_int_ok _ x_.args v1 (hm.now h1)) ?_)))))))
  rintro aD aE aA w ⟨_, rfl, hB⟩
  replace hm := hm.give hB; clear hB
  exact gF fo_61_2 rfl (gS1 hm 2 sizeOf57 (rep_one (hm.ow_rep 0 rfl)) rfl fun w hm => gE (gS (gR (gY (yn (hm.blk_at 2 rfl) isAgg61 sizeOf61 rfl) (gSN hm 1 sizeOf61 (one_cons rfl (one_cons rfl (one_cons (rep_one (hm.ow_rep 0 rfl)) (one_cons rfl one_nil)))) rfl fun w hm => gE (gRt (grc 1 results192 hm rfl isAgg61 sizeOf61 ⟨aA, rfl, hm.pk [0] rfl rfl⟩)))))))
theorem impl_cloneBlock_ok (w0 : World) (b_ : Block_) (v1 : Value) (h1 : GT.rep (hp w0) [v1] b_.phis) (v2 : Value) (h2 : GT.rep (hp w0) [v2] b_.ins) (v3 : Value) (h3 : GT.rep (hp w0) [v3] b_.next_) :
    ConM Tryz.prog 124 [(.agg #[v1, v2, (nV b_.jump), (nV b_.on), v3])] w0 (impl_cloneBlock b_) fun r v w' => ∃ (x1 : Value) (x2 : Value) (x3 : Value), v = (.agg #[x1, x2, (nV r.jump), (nV r.on), x3]) ∧ Mem w0 (hp w0) w' [ow [x1] r.phis, ow [x2] r.ins, ow [x3] r.next_] := by
  unfold impl_cloneBlock
  refine gcon func124 rfl fun r => ?_
  have hm := Mem.start w0
  refine gS (gR (gBx hm rfl fun aF w hm => gAl hm zeroValue59 rfl fun aG w hm => gE (gS (gR (gF fo_59_0 rfl (gL hm 1 isAgg55 rfl (gCg rfl call189 (impl_mapped_impl_Phi_impl_Phi_ok _ b_.phis v1 (hm.now h1) (fun y0 => impl_clonePhi y0) (.func (.func 190) #[] #[]) (fun w y0 aA aB r hB hq => ⟨190, [], rfl, call190, impl_clonePhi_ok w y0 aA aB  r hq⟩)) ?_)))))))
  rintro aH aI aC w ⟨_, rfl, hB⟩
  replace hm := hm.give hB; clear hB
  refine gF fo_59_0 rfl (gS1 hm 2 sizeOf55 (rep_one (hm.ow_rep 0 rfl)) rfl fun w hm => gE (gS (gR (gF fo_59_1 rfl (gL hm 2 isAgg56 rfl (gCg rfl call191 (impl_mapped_impl_Ins_impl_Ins_ok _ b_.ins v2 (hm.now h2) (fun y0 => impl_cloneIns y0) (.func (.func 192) #[] #[]) (fun w y0 aA aB r hB hq => ⟨192, [], rfl, call192, impl_cloneIns_ok w y0 aA aB  r hq⟩)) ?_))))))
  rintro aJ aK aD w ⟨_, rfl, hB⟩
  replace hm := hm.give hB; clear hB
  refine gF fo_59_1 rfl (gS1 hm 3 sizeOf56 (rep_one (hm.ow_rep 0 rfl)) rfl fun w hm => gE (gS (gR (gF fo_59_4 rfl (gL hm 3 isAgg57 rfl (gCg rfl call143 (slices_Clone_S_int_int_ok _ b_.next_ v3 (hm.now h3)) ?_))))))
  rintro aL aM aE w ⟨_, rfl, hB⟩
  replace hm := hm.give hB; clear hB
  exact gF fo_59_4 rfl (gS1 hm 4 sizeOf57 (rep_one (hm.ow_rep 0 rfl)) rfl fun w hm => gE (gS (gR (gY (yn (hm.blk_at 4 rfl) isAgg59 sizeOf59 rfl) (gSN hm 3 sizeOf59 (one_cons (rep_one (hm.ow_rep 2 rfl)) (one_cons (rep_one (hm.ow_rep 1 rfl)) (one_cons rfl (one_cons rfl (one_cons (rep_one (hm.ow_rep 0 rfl)) one_nil))))) rfl fun w hm => gE (gRt (grc 3 results124 hm rfl isAgg59 sizeOf59 ⟨aC, aD, aE, rfl, hm.pk [2, 1, 0] rfl rfl⟩)))))))
theorem impl_cloneCode_ok (w0 : World) (c_ : Code_) (v1 : Value) (h1 : GT.rep (hp w0) [v1] c_.blocks) :
    ConM Tryz.prog 73 [(.agg #[(nV c_.params), (nV c_.regs), v1])] w0 (impl_cloneCode c_) fun r v w' => ∃ (x1 : Value), v = (.agg #[(nV r.params), (nV r.regs), x1]) ∧ Mem w0 (hp w0) w' [ow [x1] r.blocks] := by
  unfold impl_cloneCode
  refine gcon func73 rfl fun r => ?_
  have hm := Mem.start w0
  refine gS (gR (gBx hm rfl fun aH w hm => gAl hm zeroValue44 rfl fun aI w hm => gE (gS (gR (gF fo_44_2 rfl (gL hm 1 isAgg42 rfl (gCg rfl call123 (impl_mapped_impl_Block_impl_Block_ok _ c_.blocks v1 (hm.now h1) (fun y0 => impl_cloneBlock y0) (.func (.func 124) #[] #[]) (fun w y0 aA aB aC aD aE aF r hB hq => ⟨124, [], rfl, call124, impl_cloneBlock_ok w y0 aA aB aC aD aE aF  r hq⟩)) ?_)))))))
  rintro aJ aK aG w ⟨_, rfl, hB⟩
  replace hm := hm.give hB; clear hB
  exact gF fo_44_2 rfl (gS1 hm 2 sizeOf42 (rep_one (hm.ow_rep 0 rfl)) rfl fun w hm => gE (gS (gR (gY (yn (hm.blk_at 2 rfl) isAgg44 sizeOf44 rfl) (gSN hm 1 sizeOf44 (one_cons rfl (one_cons rfl (one_cons (rep_one (hm.ow_rep 0 rfl)) one_nil))) rfl fun w hm => gE (gRt (grc 1 results73 hm rfl isAgg44 sizeOf44 ⟨aG, rfl, hm.pk [0] rfl rfl⟩)))))))
theorem impl_phisOf_ok (w0 : World) (c_ : Code_) (v1 : Value) (h1 : GT.rep (hp w0) [v1] c_.blocks) :
    ConM Tryz.prog 87 [(.agg #[(nV c_.params), (nV c_.regs), v1])] w0 (impl_phisOf c_) fun r v w' => ∃ (x1 : Value), v = x1 ∧ Mem w0 (hp w0) w' [ow [x1] r] := by
  unfold impl_phisOf
  refine gcon func87 rfl fun r => ?_
  have hm := Mem.start w0
  refine gS (gR (gBx hm rfl fun aF w hm => gA rfl (gE (gS (gR (gF fo_44_2 rfl (gL hm 0 isAgg42 rfl ?_)))))))
  obtain ⟨ap, aD, rfl, bV⟩ := ro_slice h1
  refine gY (yV st_42 rfl) (gb fun aC bA => ?_)
  obtain ⟨⟨bB, bC⟩, aq⟩ := makeM_some.1 bA
  refine gf rfl (fun a hf => e_make (x0 := ([] : List (MapS Int))) et_105 (fun _ => (own_list.2 (.inl ⟨rfl, rfl⟩))) hf hm rfl rfl rfl bB (Int.le_refl _) bC) ?_
  rintro bW w hm
  rw [aq] at hm
  have h0_1l : (aC.length : Int) = (c_.blocks.length : Int) := by rw [← aq]; simp only [List.length_replicate]; omega
  refine gA rfl (gE (gS (gS (gR (gF fo_44_2 rfl (gL hm 1 isAgg42 rfl (gY (yV st_42 rfl) (gM rfl (gE ?_)))))))))
  obtain ⟨aT, aE, rfl, bX⟩ := ro_slice (hm.ow_rep 0 rfl)
  refine gBk (gNf hm (fun aB af => [(1, (pV aF)), (3, (.slice aT aC.length aE)), (17, (.slice ap c_.blocks.length aD)), (18, (nV ((c_.blocks.length : Int)))), (19, (nV aB))]) (fun aB af => [blk aF [(nV c_.params), (nV c_.regs), (.slice ap c_.blocks.length aD)] 44, ow [(.slice aT aC.length aE)] af]) [1, 0] rfl ?_ ?_)
  ·
   repeat clear hm
   intro _ _ aB af w hm bY bZ b6 _
   refine gS (gR (gB rfl (gE (gS (go _ 20 rfl (decide_eq_true (by omega)) (gct rfl (gSk (gS (gBk (gS (gR (gM rfl (gg fun aZ bD ag => ?_)))))))))))))
   obtain ⟨aG, aH, b7, he⟩ := idx_form' h1 ag
   obtain ⟨rfl, _, rfl⟩ := sl3 he
   obtain ⟨b8, b9, ba, bE, aa, bF, bG⟩ := rk_Block_ h1 ag
   refine gI st_42 bD (idx_lt ag) rfl (gY (yn (bE.mono hm.lez) isAgg59 sizeOf59 rfl) (gAl hm zeroValue59 rfl fun bb w hm => gA rfl (gSN hm 0 sizeOf59 (one_cons (rep_one aa) (one_cons (rep_one bF) (one_cons rfl (one_cons rfl (one_cons (rep_one bG) one_nil))))) rfl fun w hm => gE (gS (gR (gY (yn (hm.blk_at 1 rfl) isAgg44 sizeOf44 rfl) (gM rfl (gCg rfl call78 (impl_PredsOf_ok _ c_ (sV aG aH c_.blocks.length aD) (hm.now h1) aB) ?_))))))))
   rintro aA bc bd w ⟨_, rfl, hB⟩
   replace hm := hm.give hB; clear hB
   refine gA rfl (gE (gS (gR (gF fo_59_0 rfl (gL hm 1 isAgg55 rfl ?_)))))
   obtain ⟨bH, ar, rfl, be⟩ := ro_slice aa
   refine gY (yV st_55 rfl) (gM rfl (gE ?_))
   obtain ⟨aI, aJ, rfl, bf⟩ := ro_slice (hm.ow_rep 0 rfl)
   refine gBk (gNf hm (fun ab aK => [(1, (pV aF)), (3, (.slice aT aC.length aE)), (4, (nV aB)), (6, (.slice aI aA.length aJ)), (17, (sV aG aH c_.blocks.length aD)), (18, (nV ((c_.blocks.length : Int)))), (19, (nV aB)), (28, (.slice bH aZ.phis.length ar)), (29, (nV ((aZ.phis.length : Int)))), (30, (nV ab))]) (fun ab aK => [blk aF [(nV c_.params), (nV c_.regs), (sV aG aH c_.blocks.length aD)] 44, ow [(.slice aT aC.length aE)] aK, ow [(.slice aI aA.length aJ)] aA]) [2, 3, 0] rfl ?_ ?_)
   ·
    repeat clear hm
    intro _ _ ab aK w hm bg bh bj _
    refine gS (gR (gB rfl (gE (gS (go _ 31 rfl (decide_eq_true (by omega)) (gct rfl (gSk (gS (gBk (gS (gR (gg fun aN bJ ah => ?_))))))))))))
    obtain ⟨bK, bL, bk, he⟩ := idx_form' aa ah
    obtain ⟨rfl, _, rfl⟩ := sl3 he
    obtain ⟨aO, bM, ai⟩ := rk_Phi_ aa ah
    refine gI st_55 bJ (idx_lt ah) rfl (gY (yn (bM.mono hm.lez) isAgg87 sizeOf87 rfl) (gAl hm zeroValue87 rfl fun aM w hm => gSN hm 0 sizeOf87 (one_cons rfl (one_cons (rep_one ai) one_nil)) rfl fun w hm => gE (gS (gR (gf rfl (fun a hf => e_mkM (β := Int) hm rfl) ?_)))))
    rintro ac w hm
    refine gA rfl (gE (gS (gS (gR (gM rfl (gY (yV st_57 rfl) (gM rfl (gE (gBk (gNf hm (fun aj ak => [(1, (pV aF)), (3, (.slice aT aC.length aE)), (4, (nV aB)), (6, (.slice aI aA.length aJ)), (8, (pV aM)), (9, ac), (17, (sV aG aH c_.blocks.length aD)), (18, (nV ((c_.blocks.length : Int)))), (19, (nV aB)), (28, (sV bK bL aZ.phis.length ar)), (29, (nV ((aZ.phis.length : Int)))), (30, (nV ab)), (35, (.slice aI aA.length aJ)), (36, (nV ((aA.length : Int)))), (37, (nV aj))]) (fun aj ak => [blk aF [(nV c_.params), (nV c_.regs), (sV aG aH c_.blocks.length aD)] 44, ow [(.slice aT aC.length aE)] aK, ow [(.slice aI aA.length aJ)] aA, blk aM [(nV aN.to), aO] 87, owm ac ak]) [2, 3, 4, 1, 0] rfl ?_ ?_))))))))))
    ·
     repeat clear hm
     intro _ _ aj ak w hm bl bm bo _
     refine gS (gR (gB rfl (gE (gS (go _ 38 rfl (decide_eq_true (by omega)) (gct rfl (gSk (gS (gBk (gS (gR (gM rfl (gg fun au bN al => ?_)))))))))))))
     obtain ⟨bp, bq, br, he⟩ := idx_form (hm.ow_rep 2 rfl) al
     obtain ⟨rfl, _, rfl⟩ := sl3 he
     refine gI st_57 bN (idx_lt al) rfl (gY (yl isAgg3 ((flat_cells (cs := [(nV au)]) (hm.ow_rep 2 rfl) al rfl).cell (j := 0) rfl) rfl) (gA rfl (gA rfl (gE (gR (gM rfl (gM rfl (gF fo_87_1 rfl (gL hm 3 isAgg57 rfl (gM rfl (gg fun av bO am => ?_)))))))))))
     obtain ⟨bt, bu, bv, he⟩ := idx_form ai am
     subst he
     refine gI st_57 bO (idx_lt am) rfl (gY (yl isAgg3 ((flat_cells (cs := [(nV av)]) (hm.now ai) am rfl).cell (j := 0) rfl) rfl) (gf0 rfl (fun a hf => e_insM (β := Int) (key := au) (u := av) (b := false) 4 underlying3 underlying123 hf hm rfl rfl rfl rfl rfl) ?_))
     rintro _ w hm
     exact gE (gR (gP (by omega) (by omega) rfl (gM rfl (gE (gze hm [0, 1, 2, 3, 4] rfl)))))
    repeat clear hm
    intro bw aP w hm bx bz
    refine gS (gR (gB rfl (gE (gS (go _ 38 rfl (decide_eq_false (by omega)) (gcf rfl (gXt (gHh (gR (gM rfl (gM rfl (gM rfl (gM rfl (gg fun aQ aw aV => ?_))))))))))))))
    obtain ⟨aR, aS, cA, he⟩ := idx_form' (hm.ow_rep 1 rfl) aV
    obtain ⟨rfl, _, rfl⟩ := sl3 he
    obtain ⟨_, _, ax, bP⟩ := ro_get' (hm.ow_rep 1 rfl) aV
    have an := bP
    obtain ⟨ay, rfl, -⟩ := id an
    replace an : GT.rep (hp _) [ay] aQ := an
    replace ax : CellsAt (hp _) aR (aS + (aB).toNat * 1) [ay] := ax
    have hL2_1 := rep_slice_len (hm.ow_rep 1 rfl)
    refine gI st_105 aw (idx_lt2 aV hL2_1) rfl ?_
    obtain ⟨_, bQ, hm⟩ := hm.openE 1 rfl aV
    have bR := hm.ow_rep 0 rfl
    have ae := bR
    obtain ⟨aL, rfl, -⟩ := id ae
    replace ae : GT.rep (hp _) [aL] aQ := ae
    clear bQ ae
    replace hm : Mem w0 (hp w0) _ [ow [aL] (aQ : List (MapS Int)), blk aF [(nV c_.params), (nV c_.regs), (sV aG aH c_.blocks.length aD)] 44, holeE aR aS aC.length aE (aK : List (List (MapS Int))) (aB).toNat [aL], ow [(.slice aI aA.length aJ)] aA, blk aM [(nV aN.to), aO] 87, owm ac aP] := hm
    replace hm := hm.pk (L' := [ow [aL] aQ, blk aF [(nV c_.params), (nV c_.regs), (sV aG aH c_.blocks.length aD)] 44, holeE aR aS aC.length aE (aK : List (List (MapS Int))) (aB).toNat [aL], ow [(.slice aI aA.length aJ)] aA, blk aM [(nV aN.to), aO] 87, owm ac aP]) [0, 1, 2, 3, 4, 5] rfl rfl
    refine gY (yl isAgg122 ((hm.holeE_at 2 rfl).cell (j := 0) rfl) rfl) (gM rfl ?_)
    obtain ⟨aW, he⟩ := owm_form hm 5 rfl
    subst he
    refine gf rfl (fun a hf => e_build (vs := #[(0, (.map (some aW)))]) (cs := [(.map (some aW))]) et_122 hf hm rfl rfl (by kernel_rfl) rfl rfl) ?_
    rintro _ w ⟨ao, rfl, hm⟩
    replace hm := hm.els_nil (α := MapS Int)
    have cB := owm_cells hm 7 rfl
    replace hm := hm.imp (c' := ow [(.map (some aW))] (aP : MapS Int)) 7 rfl (fun F h0 => own_owm h0)
    replace hm := hm.imp (c' := ow [(.map (some aW))] (aP : MapS Int)) 7 rfl (fun F h0 => h0)
    replace hm := (hm.els_cons 0 7 (by decide) rfl rfl).pk (L' := [els [(.map (some aW))] ([aP] : List (MapS Int)), blk ao [(.map (some aW))] 123, ow [aL] aQ, blk aF [(nV c_.params), (nV c_.regs), (sV aG aH c_.blocks.length aD)] 44, holeE aR aS aC.length aE (aK : List (List (MapS Int))) (aB).toNat [aL], ow [(.slice aI aA.length aJ)] aA, blk aM [(nV aN.to), aO] 87]) [0, 1, 2, 3, 4, 5, 6] rfl rfl
    replace hm := (hm.lit_els 1 0 (by decide) rfl rfl rfl rfl).pk (L' := [ow [(sV ao 0 1 1)] ([aP] : List (MapS Int)), ow [aL] aQ, blk aF [(nV c_.params), (nV c_.regs), (sV aG aH c_.blocks.length aD)] 44, holeE aR aS aC.length aE (aK : List (List (MapS Int))) (aB).toNat [aL], ow [(.slice aI aA.length aJ)] aA, blk aM [(nV aN.to), aO] 87]) [1, 2, 3, 4, 5, 6] rfl rfl
    refine gb fun aX bS => ?_
    obtain ⟨bT, bU⟩ := appM_some.1 bS
    replace hm := (hm.both 1 0 (by decide) rfl rfl).pk (L' := [both (ow [aL] aQ) (ow [(sV ao 0 1 1)] ([aP] : List (MapS Int))), blk aF [(nV c_.params), (nV c_.regs), (sV aG aH c_.blocks.length aD)] 44, holeE aR aS aC.length aE (aK : List (List (MapS Int))) (aB).toNat [aL], ow [(.slice aI aA.length aJ)] aA, blk aM [(nV aN.to), aO] 87]) [1, 2, 3, 4, 5] rfl rfl
    refine gf rfl (fun a hf => e_appendD (xs := aQ) (ys := ([aP] : List (MapS Int))) 0 et_122 hf hm rfl rfl rfl rfl bT) ?_
    rintro aY w hm
    rw [bU] at hm
    have hL2_2 := hm.holeE_len 2 rfl
    refine gI st_105 aw (idx_lt2 aV hL2_2) rfl ?_
    have az : ∀ u ∈ ([aY] : List Value), u.oneCell' = true := (one_cons (rep_one (hm.ow_rep 0 rfl)) one_nil)
    refine gf0 rfl (fun a hf => e_storeH (j := 0) (vs := [aY]) 2 hf hm rfl rfl rfl sizeOf122 rfl rfl (cells_one (az _ (List.mem_singleton.2 rfl))) az rfl) ?_
    rintro _ w hm
    replace hm : Mem w0 (hp w0) _ [ow [aY] aX, blk aF [(nV c_.params), (nV c_.regs), (sV aG aH c_.blocks.length aD)] 44, holeE aR aS aC.length aE (aK : List (List (MapS Int))) (aB).toNat [aY], ow [(.slice aI aA.length aJ)] aA, blk aM [(nV aN.to), aO] 87] := hm
    refine gE ?_
    replace hm := hm.imp (c' := ow [aY] (aX : List (MapS Int))) 0 rfl (fun F h0 => h0)
    replace hm := (hm.shutE (y := (aX : List (MapS Int))) 2 0 (by decide) rfl rfl).pk (L' := [blk aF [(nV c_.params), (nV c_.regs), (sV aG aH c_.blocks.length aD)] 44, ow [(sV aR aS aC.length aE)] (aK.set (aB).toNat aX), ow [(.slice aI aA.length aJ)] aA, blk aM [(nV aN.to), aO] 87]) [1, 2, 3, 4] rfl rfl
    have cC := List.getElem?_set_self (a := (aX : List (MapS Int))) (idx_lt aV)
    exact gR (gP (by omega) (by omega) rfl (gM rfl (gE (gze hm [0, 1, 2] rfl))))
   repeat clear hm
   intro cD cE w hm cF cG
   exact gS (gR (gB rfl (gE (gS (go _ 31 rfl (decide_eq_false (by omega)) (gcf rfl (gXt (gHh (gR (gP (by omega) (by omega) rfl (gM rfl (gE (gze hm [0, 1] rfl)))))))))))))
  repeat clear hm
  intro cH cI w hm cJ cK
  exact gS (gR (gB rfl (gE (gS (go _ 20 rfl (decide_eq_false (by omega)) (gcf rfl (gXt (gHh (gS (gR (gM rfl (gA rfl (gE (gRt (gr1 results87 rfl ⟨(.slice aT aC.length aE), rfl, hm.pk [1] rfl rfl⟩)))))))))))))))
theorem impl_once_ok (w0 : World) (list : List Int) (v1 : Value) (h1 : GT.rep (hp w0) [v1] list) :
    ConM Tryz.prog 94 [v1] w0 (impl_once list) fun r v w' => ∃ (x1 : Value), v = x1 ∧ Mem w0 (hp w0) w' [ow [x1] r] := by
  unfold impl_once
  refine gcon func94 rfl fun r => ?_
  have hm := Mem.start w0
  refine gS (gR (gA rfl (gE (gS (gR (gM rfl (gCg rfl call143 (slices_Clone_S_int_int_ok _ list v1 (hm.now h1)) ?_)))))))
  rintro aB aC aD w ⟨_, rfl, hB⟩
  replace hm := hm.give hB; clear hB
  refine gA rfl (gE (gS (gR (gM rfl (gf rfl (fun a hf => e_call hf rfl call139 rfl (sort_con lays189 hm 0 rfl)) ?_)))))
  rintro _ w ⟨rfl, hm⟩
  refine gE (gS (gR (gM rfl (gf rfl (fun a hf => e_call hf rfl call144 rfl (compact_con lays2_20 hm 0 rfl)) ?_))))
  rintro aA w hm
  exact gA rfl (gE (gRt (gr1 results94 rfl ⟨aA, rfl, hm.pk [0] rfl rfl⟩)))
theorem impl_sharpNext_ok (w0 : World) (c_ : Code_) (v1 : Value) (h1 : GT.rep (hp w0) [v1] c_.blocks) (b_ : Int) :
    ConM Tryz.prog 121 [(.agg #[(nV c_.params), (nV c_.regs), v1]), (nV b_)] w0 (impl_sharpNext c_ b_) fun r v w' => ∃ (x1 : Value), v = x1 ∧ Mem w0 (hp w0) w' [ow [x1] r] := by
  unfold impl_sharpNext
  refine gcon func121 rfl fun r => ?_
  have hm := Mem.start w0
  refine gS (gR (gBx hm rfl fun aB w hm => gA rfl (gE (gS (gR (gF fo_44_2 rfl (gL hm 0 isAgg42 rfl (gM rfl (gg fun aA aW aO => ?_)))))))))
  obtain ⟨aE, aF, aG, he⟩ := idx_form' h1 aO
  subst he
  obtain ⟨aj, ak, aX, aY, al, am, aI⟩ := rk_Block_ h1 aO
  refine gI st_42 aW (idx_lt aO) rfl (gF fo_59_4 rfl (gY (yl isAgg57 ((aY.mono hm.lez).cell (j := 4) rfl) rfl) (gA rfl (gE (gS (gS (gR (gM rfl (gCg rfl call94 (impl_once_ok _ aA.next_ aX (hm.now aI)) ?_)))))))))
  rintro an ao ap w ⟨_, rfl, hB⟩
  replace hm := hm.give hB; clear hB
  obtain ⟨aq, ar, rfl, au⟩ := ro_slice (hm.ow_rep 0 rfl)
  refine gY (yV st_57 rfl) (gB rfl (gE (gsd 18 rfl (fun aZ => ?_) fun aZ => ?_)))
  ·
   refine gct rfl (gS (gR (gA rfl (gE (gRt ?_)))))
   replace hm := hm.nilow (α := Int)
   exact gr1 results121 rfl ⟨(.slice none 0 0), rfl, hm.pk [0] rfl rfl⟩
  refine gcf rfl (gSk (gS (gR (gA rfl (gE (gS (gS (gR (gM rfl ?_)))))))))
  obtain ⟨aS, aJ, rfl, av⟩ := ro_slice aI
  refine gY (yV st_57 rfl) (gM rfl (gE (gBk ?_)))
  replace hm := hm.nilow (α := Int)
  refine gNg (fun aH aK a w => ∃ (aC : Value), St 42 [(2, (pV aB)), (6, aC), (19, (.slice aS aA.next_.length aJ)), (20, (nV ((aA.next_.length : Int)))), (21, (nV aH))] w0 (hp w0) [blk aB [(nV c_.params), (nV c_.regs), (sV aE aF c_.blocks.length aG)] 44, ow [aC] aK] a w) (fun a hf => ⟨(.slice none 0 0), hf.sb rfl, hm.pk [2, 0] rfl rfl⟩) ?_ ?_
  ·
   repeat clear hm
   rintro _ _ aH aK a w ⟨aC, hf, hm⟩ aw ax ay _
   refine gv hf (gS (gR (gB rfl (gE (gS (go _ 22 rfl (decide_eq_true (by omega)) (gct rfl (gSk (gS (gJg (fun aP a w => ∃ (aL : Value), St 42 [(2, (pV aB)), (6, aL), (19, (.slice aS aA.next_.length aJ)), (20, (nV ((aA.next_.length : Int)))), (21, (nV aH))] w0 (hp w0) [blk aB [(nV c_.params), (nV c_.regs), (sV aE aF c_.blocks.length aG)] 44, ow [aL] aP] a w) (fun aP => ?_) ?_))))))))))
   ·
    refine gBk (gS (gR (gg fun aD aa aQ => ?_)))
    obtain ⟨aT, aV, az, he⟩ := idx_form aI aQ
    obtain ⟨rfl, _, rfl⟩ := sl3 he
    refine gI st_57 aa (idx_lt aQ) rfl (gY (yl isAgg3 ((flat_cells (cs := [(nV aD)]) (hm.now aI) aQ rfl).cell (j := 0) rfl) rfl) (gA rfl (gE (gS (gJ hm (fun aM => [(2, (pV aB)), (6, aC), (8, (nV aD)), (19, (sV aT aV aA.next_.length aJ)), (20, (nV ((aA.next_.length : Int)))), (21, (nV aH)), (35, (.bool (aM)))]) (fun aM => [blk aB [(nV c_.params), (nV c_.regs), (sV aE aF c_.blocks.length aG)] 44, ow [aC] aK]) (fun aM => ?_) ?_)))))
    ·
     refine gR (gY (yn (hm.blk_at 0 rfl) isAgg44 sizeOf44 rfl) (gM rfl (gCg rfl call78 (impl_PredsOf_ok _ c_ (sV aE aF c_.blocks.length aG) (hm.now h1) aD) ?_)))
     rintro bA bB bC w ⟨_, rfl, hB⟩
     replace hm := hm.give hB; clear hB
     obtain ⟨bD, bE, rfl, bF⟩ := ro_slice (hm.ow_rep 0 rfl)
     refine gY (yV st_57 rfl) (gB rfl (gM rfl (gsd 30 rfl (fun ab => ?_) fun ab => ?_)))
     ·
      exact gM rfl (gM rfl (gC hm rfl call125 (slices_Contains_S_int_int_ok _ aK aC (hm.ow_rep 2 rfl) aD) fun bG bH w hm => gN rfl (gKt rfl (gE (gz hm [1, 2] rfl)))))
     exact gO rfl (gO rfl (gO rfl (gO rfl (gKf rfl (gE (gz hm [1, 2] rfl))))))
    repeat clear hm
    intro aM w hm
    refine gJg (fun aR a w => ∃ (aN : Value), St 42 [(2, (pV aB)), (6, aN), (19, (sV aT aV aA.next_.length aJ)), (20, (nV ((aA.next_.length : Int)))), (21, (nV aH))] w0 (hp w0) [blk aB [(nV c_.params), (nV c_.regs), (sV aE aF c_.blocks.length aG)] 44, ow [aN] aR] a w) (fun aR => ?_) ?_
    ·
     refine gs 35 rfl (fun ac => ?_) fun ac => ?_
     ·
      refine gct rfl (gR (gM rfl (gM rfl (gf rfl (fun a hf => e_build (vs := #[(0, (nV aD))]) (cs := [(nV aD)]) et_57 hf hm rfl rfl (by kernel_rfl) rfl rfl) ?_))))
      rintro _ w ⟨bJ, rfl, hm⟩
      replace hm := hm.lit (xs := ([aD] : List Int)) 0 rfl rfl rfl rfl
      refine gb fun bK ae => ?_
      obtain ⟨af, ag⟩ := appM_some.1 ae
      refine gf rfl (fun a hf => e_append 2 et_57 hf hm rfl (hm.ow_rep 0 rfl) rfl rfl rfl af) ?_
      rintro ah w hm
      rw [ag] at hm
      exact gA rfl (gE (gZ fun a hf => ⟨ah, hf.sb rfl, hm.pk [1, 2] rfl rfl⟩))
     exact gcf rfl (gSk (gZ fun a hf => ⟨aC, hf.sb rfl, hm.pk [0, 1] rfl rfl⟩))
    repeat clear hm
    rintro aR a w ⟨aN, hf, hm⟩
    exact gv hf (gZ fun a hf => ⟨aN, hf.sb rfl, hm.pk [0, 1] rfl rfl⟩)
   repeat clear hm
   rintro aP a w ⟨aL, hf, hm⟩
   exact gv hf (gR (gP (by omega) (by omega) rfl (gM rfl (gE (gZe fun a hf => ⟨aL, hf.sb rfl, hm.pk [0, 1] rfl rfl⟩)))))
  repeat clear hm
  rintro bL bM a w ⟨ai, hf, hm⟩ bN bO
  exact gv hf (gS (gR (gB rfl (gE (gS (go _ 22 rfl (decide_eq_false (by omega)) (gcf rfl (gXt (gHh (gS (gR (gM rfl (gA rfl (gE (gRt (gr1 results121 rfl ⟨ai, rfl, hm.pk [1] rfl rfl⟩))))))))))))))))
theorem impl_settle_1_ok (w0 : World) (p_ : Int) (c0_ : MapS Int) (v1 : Value) (h1 : GT.rep (hp w0) [v1] c0_) (bf0 : Nat) (hbf0 : w0.heap[bf0]? = some (.cells ([v1] : List Value).toArray 123 (0, 0))) :
    ConM Tryz.prog 188 [(nV p_), (pV bf0)] w0 (impl_settle_1 p_ c0_) fun r v w' => v = (nV r) ∧ Below w0.heap.size w0 w' := by
  unfold impl_settle_1
  refine gcon func188 rfl fun r => ?_
  have hm := Mem.start w0
  exact gS (gR (gA rfl (gE (gS (gR (gY (yl isAgg123 (hm.old_cell hbf0 rfl) rfl) (gM rfl (gY (yG rfl (y_lookI (key := p_) (m := (c0_ : MapS Int)) underlying3 underlying123 zeroValue3 (hm.now h1) rfl rfl rfl)) (gA rfl (gE (gRt (gr1 results188 rfl ⟨rfl, hm.below⟩))))))))))))
theorem impl_mapped_int_int_ok (w0 : World) (list : List Int) (v1 : Value) (h1 : GT.rep (hp w0) [v1] list) (f : Int → Option Int) (fv1 : Value) (hfn1 : ∀ (w : World) (y0 : Int) (r : Int), Below w0.heap.size w0 w → f y0 = some r → FnOk Tryz.prog fv1 [(nV y0)] w (fun v w' => v = (nV r) ∧ Below w.heap.size w w')) :
    ConM Tryz.prog 95 [v1, fv1] w0 (impl_mapped_int_int list f) fun r v w' => ∃ (x1 : Value), v = x1 ∧ Mem w0 (hp w0) w' [ow [x1] r] := by
  unfold impl_mapped_int_int
  refine gcon func95 rfl fun r => ?_
  have hm := Mem.start w0
  refine gS (gR (gA rfl (gE (gS (gR (gA rfl (gE (gS (gS (gR (gM rfl ?_)))))))))))
  obtain ⟨aG, aH, rfl, aP⟩ := ro_slice h1
  refine gY (yV st_57 rfl) (gM rfl (gE (gBk ?_)))
  replace hm := hm.nilow (α := Int)
  refine gNg (fun aD aE a w => ∃ (aA : Value), St 22 [(1, fv1), (5, aA), (8, (.slice aG list.length aH)), (9, (nV ((list.length : Int)))), (10, (nV aD))] w0 (hp w0) [ow [aA] aE] a w) (fun a hf => ⟨(.slice none 0 0), hf.sb rfl, hm.pk [0] rfl rfl⟩) ?_ ?_
  ·
   repeat clear hm
   rintro _ _ aD aE a w ⟨aA, hf, hm⟩ aQ aR aS _
   refine gv hf (gS (gR (gB rfl (gE (gS (go _ 11 rfl (decide_eq_true (by omega)) (gct rfl (gSk (gS (gBk (gS (gR (gg fun aF aI aB => ?_)))))))))))))
   obtain ⟨aT, aV, aW, he⟩ := idx_form h1 aB
   obtain ⟨rfl, _, rfl⟩ := sl3 he
   refine gI st_57 aI (idx_lt aB) rfl (gY (yl isAgg3 ((flat_cells (cs := [(nV aF)]) (hm.now h1) aB rfl).cell (j := 0) rfl) rfl) (gA rfl (gE (gR (gM rfl (gM rfl (gM rfl (gb fun aC aJ => gf rfl (fun a hf => e_callv hf rfl rfl rfl (hfn1 _ aF _ hm.below aJ)) ?_))))))))
   rintro aX w ⟨rfl, hB⟩
   replace hm := hm.below' hB; clear hB
   refine gf rfl (fun a hf => e_build (vs := #[(0, (nV aC))]) (cs := [(nV aC)]) et_57 hf hm rfl rfl (by kernel_rfl) rfl rfl) ?_
   rintro _ w ⟨aY, rfl, hm⟩
   replace hm := hm.lit (xs := ([aC] : List Int)) 0 rfl rfl rfl rfl
   refine gb fun aZ aK => ?_
   obtain ⟨aL, aM⟩ := appM_some.1 aK
   refine gf rfl (fun a hf => e_append 1 et_57 hf hm rfl (hm.ow_rep 0 rfl) rfl rfl rfl aL) ?_
   rintro aN w hm
   rw [aM] at hm
   exact gA rfl (gE (gR (gP (by omega) (by omega) rfl (gM rfl (gE (gZe fun a hf => ⟨aN, hf.sb rfl, hm.pk [1] rfl rfl⟩))))))
  repeat clear hm
  rintro aa ab a w ⟨aO, hf, hm⟩ ac ae
  exact gv hf (gS (gR (gB rfl (gE (gS (go _ 11 rfl (decide_eq_false (by omega)) (gcf rfl (gXt (gHh (gS (gR (gM rfl (gA rfl (gE (gRt (gr1 results95 rfl ⟨aO, rfl, hm.pk [0] rfl rfl⟩))))))))))))))))
theorem impl_settle_ok (w0 : World) (hz : Heap) (c_ : Code_) (bp0 : Nat) (v1p : Value) (phis : List (List (MapS Int))) (v1 : Value) (h1 : GT.rep hz [v1] phis) (hm0 : Mem w0 hz w0 [blk bp0 [(nV c_.params), (nV c_.regs), v1p] 44, ow [v1p] c_.blocks]) :
    ConM Tryz.prog 122 [(pV bp0), v1] w0 (impl_settle c_ phis) fun r v w' => ∃ (x1 : Value), v = (.tuple #[]) ∧ Mem w0 hz w' [blk bp0 [(nV r.params), (nV r.regs), x1] 44, ow [x1] r.blocks] := by
  unfold impl_settle
  refine gcon func122 rfl fun r => ?_
  have hm := hm0
  refine gS (gR (gM rfl (gY (yG rfl (y_nilptr rfl rfl)) (gF fo_44_2 rfl (gL hm 0 isAgg42 rfl ?_)))))
  obtain ⟨aO, aD, rfl, bO⟩ := ro_slice (hm.ow_rep 1 rfl)
  refine gY (yV st_42 rfl) (gM rfl (gE (gBk (gNf hm (fun aG am => [(0, (pV bp0)), (1, v1), (12, (nV ((c_.blocks.length : Int)))), (13, (nV aG))]) (fun aG am => [blk bp0 [(nV c_.params), (nV c_.regs), (.slice aO c_.blocks.length aD)] 44, ow [(.slice aO c_.blocks.length aD)] am]) [0, 1] rfl ?_ ?_))))
  ·
   repeat clear hm
   intro _ _ aG am w hm bP bQ bR _
   refine gS (gR (gB rfl (gE (gS (go _ 14 rfl (decide_eq_true (by omega)) (gct rfl (gSk (gS (gBk (gS (gR (gM rfl (gA rfl (gE (gS (gR (gM rfl (gY (yG rfl (y_nilptr rfl rfl)) (gY (yn (hm.blk_at 0 rfl) isAgg44 sizeOf44 rfl) (gM rfl (gCg rfl call78 (impl_PredsOf_ok _ (⟨c_.params, c_.regs, am⟩ : Code_) (.slice aO c_.blocks.length aD) (hm.ow_rep 1 rfl) aG) ?_)))))))))))))))))))))
   rintro aC bS bT w ⟨_, rfl, hB⟩
   replace hm := hm.give hB; clear hB
   refine gA rfl (gE (gS (gR (gM rfl (gM rfl (gg fun ag bF ao => ?_))))))
   obtain ⟨ap, aq, aw, he⟩ := idx_form' h1 ao
   subst he
   obtain ⟨_, _, ar, bG⟩ := ro_get' h1 ao
   have ab := bG
   obtain ⟨ax, rfl, -⟩ := id ab
   replace ab : GT.rep hz [ax] ag := ab
   replace ar : CellsAt hz ap (aq + (aG).toNat * 1) [ax] := ar
   refine gI st_105 bF (idx_lt ao) rfl (gY (yl isAgg122 ((ar.mono hm.lez).cell (j := 0) rfl) rfl) ?_)
   obtain ⟨bH, ay, rfl, bU⟩ := ro_slice ab
   refine gY (yV st_122 rfl) (gM rfl (gE ?_))
   obtain ⟨aJ, aK, rfl, bV⟩ := ro_slice (hm.ow_rep 0 rfl)
   refine gBk (gNf hm (fun aH aN => [(0, (pV bp0)), (1, (sV ap aq phis.length aw)), (4, (nV aG)), (5, (.slice aJ aC.length aK)), (12, (nV ((c_.blocks.length : Int)))), (13, (nV aG)), (24, (.slice bH ag.length ay)), (25, (nV ((ag.length : Int)))), (26, (nV aH))]) (fun aH aN => [blk bp0 [(nV c_.params), (nV c_.regs), (.slice aO c_.blocks.length aD)] 44, ow [(.slice aO c_.blocks.length aD)] aN, ow [(.slice aJ aC.length aK)] aC]) [1, 2, 0] rfl ?_ ?_)
   ·
    repeat clear hm
    intro _ _ aH aN w hm bW bX bY _
    refine gS (gR (gB rfl (gE (gS (go _ 27 rfl (decide_eq_true (by omega)) (gct rfl (gSk (gS (gBk (gS (gR (gM rfl (gg fun ah bJ au => ?_)))))))))))))
    obtain ⟨az, bA, bZ, he⟩ := idx_form' ab au
    obtain ⟨rfl, _, rfl⟩ := sl3 he
    obtain ⟨_, _, av, bK⟩ := ro_get' ab au
    have ac := bK
    obtain ⟨aM, rfl, -⟩ := id ac
    replace ac : GT.rep hz [aM] ah := ac
    replace av : CellsAt hz az (bA + (aH).toNat * 1) [aM] := av
    refine gI st_122 bJ (idx_lt au) rfl (gY (yl isAgg123 ((av.mono hm.lez).cell (j := 0) rfl) rfl) (gAl hm zeroValue123 rfl fun aL w hm => gA rfl (gS1 hm 0 sizeOf123 (rep_oneM ac) rfl fun w hm => gE (gJ hm (fun an => [(0, (pV bp0)), (1, (sV ap aq phis.length aw)), (4, (nV aG)), (5, (.slice aJ aC.length aK)), (12, (nV ((c_.blocks.length : Int)))), (13, (nV aG)), (24, (sV az bA ag.length ay)), (25, (nV ((ag.length : Int)))), (26, (nV aH))]) (fun an => [blk bp0 [(nV c_.params), (nV c_.regs), (.slice aO c_.blocks.length aD)] 44, ow [(.slice aO c_.blocks.length aD)] an, ow [(.slice aJ aC.length aK)] aC]) (fun an => ?_) ?_))))
    ·
     refine gW (.p 0 (.p 1 (.p 2 (.p 4 (.p 8 (.p 9 (.p 10 (.q 3 (.p 5 (.p 6 (.e 7 (.e 11 (.p 12 (.p 13 (.e 14 .fin .nil))) .nil) (.e 11 (.e 7 (.p 12 (.p 13 (.e 14 .fin .nil))) .nil) .nil)))))))))))) [11] [0, 1, 2, 4, 5, 6, 8, 9, 10, 12, 13] hm [0, 1, 3] [blk aL [aM] 123, blk bp0 [(nV c_.params), (nV c_.regs), (.slice aO c_.blocks.length aD)] 44, ow [(.slice aJ aC.length aK)] aC] rfl mxo (by kernel_rfl) (fun _ _ _ h => h.2) fun w hm hS => tP rfl (fun w => yM rfl) (tP rfl (fun w => yG rfl (y_nilptr rfl rfl)) (tP rfl (fun w => yF fo_44_2 rfl) (tP rfl (fun w => yM rfl) (tP rfl (fun w => yM rfl) (tP rfl (fun w => yM rfl) (tP rfl (fun w => yU rfl) (tQ rfl hS (fun w hm => yL hm 1 isAgg42 rfl) (gg fun aA bL aa => ?_))))))))
     obtain ⟨aE, aF, b6, he⟩ := idx_form' (hm.ow_rep 2 rfl) aa
     obtain ⟨rfl, _, rfl⟩ := sl3 he
     obtain ⟨b7, b8, b9, ba, bb, bc, bd⟩ := rk_Block_ (hm.ow_rep 2 rfl) aa
     have hL3_1 := rep_slice_len (hm.ow_rep 2 rfl)
     refine tP rfl (fun w => yI st_42 bL (idx_lt2 aa hL3_1) rfl) (tP rfl (fun w => yF fo_59_0 rfl) (gb fun aI bB => gb fun aB bC => tMo ?_ ?_))
     ·
      obtain ⟨be, aP, aQ, hm⟩ := pin_Block_ hm 2 rfl aa
      refine tY rfl (yl isAgg55 ((hm.holeE_at 5 rfl).cell (j := 0) rfl) rfl) (tAn rfl (tO (tf rfl rfl (fun a hf => e_call hf rfl call95 rfl (impl_mapped_int_int_ok _ aC (.slice aJ aC.length aK) (hm.ow_rep 6 rfl) (fun y0 => impl_settle_1 y0 ah) (.func (.func 188) #[] #[(pV aL)]) (fun w y0 r hB hq => ⟨188, [(pV aL)], rfl, call188, impl_settle_1_ok w y0 ah aM (rep_later (hm.now ac) hB) aL (hm.blk_later 3 rfl hB) r hq⟩) _ bB)) ?_)))
      rintro ae w ⟨_, rfl, hB⟩
      replace hm := hm.give hB; clear hB
      refine tAk hm [4, 5, 7] rfl fun hS => ?_
      obtain ⟨bM, ai⟩ := getI_some.1 bC
      obtain ⟨aR, aS, aT, he⟩ := idx_form' (hm.ow_rep 3 rfl) ai
      subst he
      obtain ⟨bf, bg, bh⟩ := rk_Phi_ (hm.ow_rep 3 rfl) ai
      refine tP rfl (fun w => yI st_55 bM (idx_lt ai) rfl) (tP rfl (fun w => yF fo_87_1 rfl) (tO ?_))
      obtain ⟨aj, hm⟩ := pin_Phi_ hm 3 rfl ai
      have bD : ∀ u ∈ ([ae] : List Value), u.oneCell' = true := (one_cons (rep_one (hm.ow_rep 1 rfl)) one_nil)
      refine tf0 rfl rfl (fun a hf => e_storeH (j := 1) (vs := [ae]) 4 hf hm rfl rfl rfl sizeOf57 rfl rfl (cells_one (bD _ (List.mem_singleton.2 rfl))) bD rfl) ?_
      rintro _ w hm
      replace hm : Mem w0 hz _ [ow [aj] aB.args, ow [ae] aI, ow [aQ] aA.next_, ow [aP] aA.ins, holeE aR aS aA.phis.length aT (aA.phis : List Phi_) (aH).toNat [(nV aB.to), ae], blk aL [aM] 123, blk bp0 [(nV c_.params), (nV c_.regs), (sV aE aF c_.blocks.length aD)] 44, holeE aE aF c_.blocks.length aD (aN : List Block_) (aG).toNat [(sV aR aS aA.phis.length aT), aP, (nV aA.jump), (nV aA.on), aQ], ow [(.slice aJ aC.length aK)] aC] := hm
      refine tAn rfl (tE ?_)
      replace hm : Mem w0 hz _ [ow [aj] aB.args, ow [(nV aB.to), ae] ((⟨aB.to, aI⟩ : Phi_) : Phi_), ow [aQ] aA.next_, ow [aP] aA.ins, holeE aR aS aA.phis.length aT (aA.phis : List Phi_) (aH).toNat [(nV aB.to), ae], blk aL [aM] 123, blk bp0 [(nV c_.params), (nV c_.regs), (sV aE aF c_.blocks.length aD)] 44, holeE aE aF c_.blocks.length aD (aN : List Block_) (aG).toNat [(sV aR aS aA.phis.length aT), aP, (nV aA.jump), (nV aA.on), aQ], ow [(.slice aJ aC.length aK)] aC] := mk_Phi_ aB.to hm 1 rfl
      replace hm := (hm.shutE (y := ((⟨aB.to, aI⟩ : Phi_) : Phi_)) 4 1 (by decide) rfl rfl).pk (L' := [ow [aj] aB.args, ow [aQ] aA.next_, ow [aP] aA.ins, ow [(sV aR aS aA.phis.length aT)] (aA.phis.set (aH).toNat (⟨aB.to, aI⟩ : Phi_)), blk aL [aM] 123, blk bp0 [(nV c_.params), (nV c_.regs), (sV aE aF c_.blocks.length aD)] 44, holeE aE aF c_.blocks.length aD (aN : List Block_) (aG).toNat [(sV aR aS aA.phis.length aT), aP, (nV aA.jump), (nV aA.on), aQ], ow [(.slice aJ aC.length aK)] aC]) [0, 2, 3, 4, 5, 6, 7, 8] rfl rfl
      have bj := List.getElem?_set_self (a := ((⟨aB.to, aI⟩ : Phi_) : Phi_)) (idx_lt ai)
      replace hm := (mk_Block_ aA.jump aA.on hm 3 2 1 rfl).pk (L' := [ow [aj] aB.args, ow [(sV aR aS aA.phis.length aT), aP, (nV aA.jump), (nV aA.on), aQ] ((⟨(aA.phis.set (aH).toNat (⟨aB.to, aI⟩ : Phi_)), aA.ins, aA.jump, aA.on, aA.next_⟩ : Block_) : Block_), blk aL [aM] 123, blk bp0 [(nV c_.params), (nV c_.regs), (sV aE aF c_.blocks.length aD)] 44, holeE aE aF c_.blocks.length aD (aN : List Block_) (aG).toNat [(sV aR aS aA.phis.length aT), aP, (nV aA.jump), (nV aA.on), aQ], ow [(.slice aJ aC.length aK)] aC]) [0, 3, 4, 5, 6, 7] rfl rfl
      replace hm := (hm.shutE (y := ((⟨(aA.phis.set (aH).toNat (⟨aB.to, aI⟩ : Phi_)), aA.ins, aA.jump, aA.on, aA.next_⟩ : Block_) : Block_)) 4 1 (by decide) rfl rfl).pk (L' := [ow [aj] aB.args, blk aL [aM] 123, blk bp0 [(nV c_.params), (nV c_.regs), (sV aE aF c_.blocks.length aD)] 44, ow [(sV aE aF c_.blocks.length aD)] (aN.set (aG).toNat (⟨(aA.phis.set (aH).toNat (⟨aB.to, aI⟩ : Phi_)), aA.ins, aA.jump, aA.on, aA.next_⟩ : Block_)), ow [(.slice aJ aC.length aK)] aC]) [0, 2, 3, 4, 5] rfl rfl
      have bk := List.getElem?_set_self (a := ((⟨(aA.phis.set (aH).toNat (⟨aB.to, aI⟩ : Phi_)), aA.ins, aA.jump, aA.on, aA.next_⟩ : Block_) : Block_)) (idx_lt aa)
      exact gz hm [2, 3, 4] rfl
     refine tO (tf rfl rfl (fun a hf => e_call hf rfl call95 rfl (impl_mapped_int_int_ok _ aC (.slice aJ aC.length aK) (hm.ow_rep 3 rfl) (fun y0 => impl_settle_1 y0 ah) (.func (.func 188) #[] #[(pV aL)]) (fun w y0 r hB hq => ⟨188, [(pV aL)], rfl, call188, impl_settle_1_ok w y0 ah aM (rep_later (hm.now ac) hB) aL (hm.blk_later 0 rfl hB) r hq⟩) _ bB)) ?_)
     rintro af w ⟨_, rfl, hB⟩
     replace hm := hm.give hB; clear hB
     refine tAk hm [1, 2, 4] rfl fun hS => tO ?_
     obtain ⟨bl, aV, aW, hm⟩ := pin_Block_ hm 3 rfl aa
     refine tY rfl (yl isAgg55 ((hm.holeE_at 6 rfl).cell (j := 0) rfl) rfl) (tAn rfl ?_)
     obtain ⟨bN, ak⟩ := getI_some.1 bC
     obtain ⟨aX, aY, aZ, he⟩ := idx_form' (hm.ow_rep 2 rfl) ak
     subst he
     obtain ⟨bm, bo, bp⟩ := rk_Phi_ (hm.ow_rep 2 rfl) ak
     refine tP rfl (fun w => yI st_55 bN (idx_lt ak) rfl) (tP rfl (fun w => yF fo_87_1 rfl) (tO ?_))
     obtain ⟨al, hm⟩ := pin_Phi_ hm 2 rfl ak
     have bE : ∀ u ∈ ([af] : List Value), u.oneCell' = true := (one_cons (rep_one (hm.ow_rep 4 rfl)) one_nil)
     refine tf0 rfl rfl (fun a hf => e_storeH (j := 1) (vs := [af]) 3 hf hm rfl rfl rfl sizeOf57 rfl rfl (cells_one (bE _ (List.mem_singleton.2 rfl))) bE rfl) ?_
     rintro _ w hm
     replace hm : Mem w0 hz _ [ow [al] aB.args, ow [aW] aA.next_, ow [aV] aA.ins, holeE aX aY aA.phis.length aZ (aA.phis : List Phi_) (aH).toNat [(nV aB.to), af], ow [af] aI, blk aL [aM] 123, blk bp0 [(nV c_.params), (nV c_.regs), (sV aE aF c_.blocks.length aD)] 44, holeE aE aF c_.blocks.length aD (aN : List Block_) (aG).toNat [(sV aX aY aA.phis.length aZ), aV, (nV aA.jump), (nV aA.on), aW], ow [(.slice aJ aC.length aK)] aC] := hm
     refine tAn rfl (tE ?_)
     replace hm : Mem w0 hz _ [ow [al] aB.args, ow [aW] aA.next_, ow [aV] aA.ins, holeE aX aY aA.phis.length aZ (aA.phis : List Phi_) (aH).toNat [(nV aB.to), af], ow [(nV aB.to), af] ((⟨aB.to, aI⟩ : Phi_) : Phi_), blk aL [aM] 123, blk bp0 [(nV c_.params), (nV c_.regs), (sV aE aF c_.blocks.length aD)] 44, holeE aE aF c_.blocks.length aD (aN : List Block_) (aG).toNat [(sV aX aY aA.phis.length aZ), aV, (nV aA.jump), (nV aA.on), aW], ow [(.slice aJ aC.length aK)] aC] := mk_Phi_ aB.to hm 4 rfl
     replace hm := (hm.shutE (y := ((⟨aB.to, aI⟩ : Phi_) : Phi_)) 3 4 (by decide) rfl rfl).pk (L' := [ow [al] aB.args, ow [aW] aA.next_, ow [aV] aA.ins, ow [(sV aX aY aA.phis.length aZ)] (aA.phis.set (aH).toNat (⟨aB.to, aI⟩ : Phi_)), blk aL [aM] 123, blk bp0 [(nV c_.params), (nV c_.regs), (sV aE aF c_.blocks.length aD)] 44, holeE aE aF c_.blocks.length aD (aN : List Block_) (aG).toNat [(sV aX aY aA.phis.length aZ), aV, (nV aA.jump), (nV aA.on), aW], ow [(.slice aJ aC.length aK)] aC]) [0, 1, 2, 3, 5, 6, 7, 8] rfl rfl
     have bq := List.getElem?_set_self (a := ((⟨aB.to, aI⟩ : Phi_) : Phi_)) (idx_lt ak)
     replace hm := (mk_Block_ aA.jump aA.on hm 3 2 1 rfl).pk (L' := [ow [al] aB.args, ow [(sV aX aY aA.phis.length aZ), aV, (nV aA.jump), (nV aA.on), aW] ((⟨(aA.phis.set (aH).toNat (⟨aB.to, aI⟩ : Phi_)), aA.ins, aA.jump, aA.on, aA.next_⟩ : Block_) : Block_), blk aL [aM] 123, blk bp0 [(nV c_.params), (nV c_.regs), (sV aE aF c_.blocks.length aD)] 44, holeE aE aF c_.blocks.length aD (aN : List Block_) (aG).toNat [(sV aX aY aA.phis.length aZ), aV, (nV aA.jump), (nV aA.on), aW], ow [(.slice aJ aC.length aK)] aC]) [0, 3, 4, 5, 6, 7] rfl rfl
     replace hm := (hm.shutE (y := ((⟨(aA.phis.set (aH).toNat (⟨aB.to, aI⟩ : Phi_)), aA.ins, aA.jump, aA.on, aA.next_⟩ : Block_) : Block_)) 4 1 (by decide) rfl rfl).pk (L' := [ow [al] aB.args, blk aL [aM] 123, blk bp0 [(nV c_.params), (nV c_.regs), (sV aE aF c_.blocks.length aD)] 44, ow [(sV aE aF c_.blocks.length aD)] (aN.set (aG).toNat (⟨(aA.phis.set (aH).toNat (⟨aB.to, aI⟩ : Phi_)), aA.ins, aA.jump, aA.on, aA.next_⟩ : Block_)), ow [(.slice aJ aC.length aK)] aC]) [0, 2, 3, 4, 5] rfl rfl
     have br := List.getElem?_set_self (a := ((⟨(aA.phis.set (aH).toNat (⟨aB.to, aI⟩ : Phi_)), aA.ins, aA.jump, aA.on, aA.next_⟩ : Block_) : Block_)) (idx_lt aa)
     exact gz hm [2, 3, 4] rfl
    repeat clear hm
    intro an w hm
    exact gR (gP (by omega) (by omega) rfl (gM rfl (gE (gze hm [0, 1, 2] rfl))))
   repeat clear hm
   intro bt bu w hm bv bw
   exact gS (gR (gB rfl (gE (gS (go _ 27 rfl (decide_eq_false (by omega)) (gcf rfl (gXt (gHh (gR (gP (by omega) (by omega) rfl (gM rfl (gE (gze hm [0, 1] rfl)))))))))))))
  repeat clear hm
  intro bx bz w hm cA cB
  exact gS (gR (gB rfl (gE (gS (go _ 14 rfl (decide_eq_false (by omega)) (gcf rfl (gXt (gHh (gre results122 ⟨(.slice aO c_.blocks.length aD), rfl, hm.pk [0, 1] rfl rfl⟩)))))))))
theorem impl_splitCode_ok (w0 : World) (c_ : Code_) (v1 : Value) (h1 : GT.rep (hp w0) [v1] c_.blocks) :
    ConM Tryz.prog 72 [(.agg #[(nV c_.params), (nV c_.regs), v1])] w0 (impl_splitCode c_) fun r v w' => ∃ (x1 : Value), v = (.agg #[(nV r.params), (nV r.regs), x1]) ∧ Mem w0 (hp w0) w' [ow [x1] r.blocks] := by
  unfold impl_splitCode
  refine gcon func72 rfl fun r => ?_
  have hm := Mem.start w0
  refine gS (gR (gBx hm rfl fun aI w hm => gAl hm zeroValue44 rfl fun aJ w hm => gE (gS (gR (gY (yn (hm.blk_at 1 rfl) isAgg44 sizeOf44 rfl) (gCg rfl call73 (impl_cloneCode_ok _ c_ v1 (hm.now h1)) ?_))))))
  rintro aC cJ cK w ⟨cL, rfl, hB⟩
  replace hm := hm.give hB; clear hB
  refine gAl hm zeroValue44 rfl fun aG w hm => gSN hm 0 sizeOf44 (one_cons rfl (one_cons rfl (one_cons (rep_one (hm.ow_rep 1 rfl)) one_nil))) rfl fun w hm => gE (gS (gR (gY (yn (hm.blk_at 3 rfl) isAgg44 sizeOf44 rfl) (gCg rfl call87 (impl_phisOf_ok _ c_ v1 (hm.now h1)) ?_))))
  rintro b9 cM cN w ⟨_, rfl, hB⟩
  replace hm := hm.give hB; clear hB
  refine gA rfl (gE (gS (gS (gR (gF fo_44_2 rfl (gL hm 4 isAgg42 rfl ?_))))))
  obtain ⟨aO, aP, rfl, cO⟩ := ro_slice h1
  refine gY (yV st_42 rfl) (gM rfl (gE ?_))
  obtain ⟨ba, bb, rfl, cP⟩ := ro_slice (hm.ow_rep 2 rfl)
  obtain ⟨bc, bd, rfl, cQ⟩ := ro_slice (hm.ow_rep 0 rfl)
  refine gBk (gNg (fun aE aw a w => ∃ (bK bL : Value), St 92 [(1, (pV aI)), (2, (pV aJ)), (3, (pV aG)), (4, bL), (19, (nV ((c_.blocks.length : Int)))), (20, (nV aE))] w0 (hp w0) [blk aI [(nV c_.params), (nV c_.regs), (.slice aO c_.blocks.length aP)] 44, blk aJ [(nV 0), (nV 0), (.slice none 0 0)] 44, blk aG [(nV aC.params), (nV aC.regs), bK] 44, ow [bK] aw.1, ow [bL] aw.2] a w) (fun a hf => ⟨(.slice ba aC.blocks.length bb), (.slice bc b9.length bd), hf.sb rfl, hm.pk [4, 3, 1, 2, 0] rfl rfl⟩) ?_ ?_)
  ·
   repeat clear hm
   rintro _ _ aE aw a w ⟨bK, bL, hf, hm⟩ cR cS cT _
   refine gv hf (gS (gR (gB rfl (gE (gS (go _ 21 rfl (decide_eq_true (by omega)) (gct rfl (gSk (gS (gBk (gS (gR (gM rfl (gA rfl (gE (gS (gR (gY (yn (hm.blk_at 0 rfl) isAgg44 sizeOf44 rfl) (gM rfl (gCg rfl call121 (impl_sharpNext_ok _ c_ (.slice aO c_.blocks.length aP) (hm.now h1) aE) ?_))))))))))))))))))))
   rintro aB cU cV w ⟨_, rfl, hB⟩
   replace hm := hm.give hB; clear hB
   obtain ⟨bV, aK, rfl, cW⟩ := ro_slice (hm.ow_rep 0 rfl)
   refine gY (yV st_57 rfl) (gM rfl (gE ?_))
   obtain ⟨be, bf, rfl, cX⟩ := ro_slice (hm.ow_rep 4 rfl)
   obtain ⟨bg, bh, rfl, cY⟩ := ro_slice (hm.ow_rep 5 rfl)
   refine gBk (gNg (fun ap aF a w => ∃ (bM aZ : Value), St 92 [(1, (pV aI)), (2, (pV aJ)), (3, (pV aG)), (4, aZ), (5, (nV aE)), (19, (nV ((c_.blocks.length : Int)))), (20, (nV aE)), (25, (.slice bV aB.length aK)), (26, (nV ((aB.length : Int)))), (27, (nV ap))] w0 (hp w0) [blk aI [(nV c_.params), (nV c_.regs), (.slice aO c_.blocks.length aP)] 44, blk aJ [(nV 0), (nV 0), (.slice none 0 0)] 44, blk aG [(nV aC.params), (nV aC.regs), bM] 44, ow [bM] aF.1, ow [aZ] aF.2, ow [(.slice bV aB.length aK)] aB] a w) (fun a hf => ⟨(.slice be aw.1.length bf), (.slice bg aw.2.length bh), hf.sb rfl, hm.pk [1, 2, 3, 4, 5, 0] rfl rfl⟩) ?_ ?_)
   ·
    repeat clear hm
    rintro _ _ ap aF a w ⟨bM, aZ, hf, hm⟩ cZ c4 c5 _
    refine gv hf (gS (gR (gB rfl (gE (gS (go _ 28 rfl (decide_eq_true (by omega)) (gct rfl (gSk (gS (gBk (gS (gR (gg fun aS bj bN => ?_)))))))))))))
    obtain ⟨aQ, aR, c6, he⟩ := idx_form (hm.ow_rep 5 rfl) bN
    obtain ⟨rfl, _, rfl⟩ := sl3 he
    refine gI st_57 bj (idx_lt bN) rfl (gY (yl isAgg3 ((flat_cells (cs := [(nV aS)]) (hm.ow_rep 5 rfl) bN rfl).cell (j := 0) rfl) rfl) (gA rfl (gE (gS (gR (gF fo_44_2 rfl (gL hm 2 isAgg42 rfl ?_)))))))
    obtain ⟨ae, af, rfl, c7⟩ := ro_slice (hm.ow_rep 3 rfl)
    refine gY (yV st_42 rfl) (gA rfl (gE (gS (gR (gF fo_44_2 rfl (gL hm 2 isAgg42 rfl (gM rfl (gf rfl (fun a hf => e_build (vs := #[(0, (nV aS))]) (cs := [(nV aS)]) et_57 hf hm rfl rfl (by kernel_rfl) rfl rfl) ?_))))))))
    rintro _ w ⟨ag, rfl, hm⟩
    replace hm := hm.lit (xs := ([aS] : List Int)) 0 rfl rfl rfl rfl
    refine gY (yG rfl (y_build (vs := [(2, (nV 1)), (4, (sV ag 0 1 1))]) (cs := #[(.slice none 0 0), (.slice none 0 0), (nV 1), (nV 0), (sV ag 0 1 1)]) rfl rfl (by kernel_rfl))) (gf rfl (fun a hf => e_build (vs := #[(0, (.agg #[(.slice none 0 0), (.slice none 0 0), (nV 1), (nV 0), (sV ag 0 1 1)]))]) (cs := [(.slice none 0 0), (.slice none 0 0), (nV 1), (nV 0), (sV ag 0 1 1)]) et_42 hf hm rfl rfl (by kernel_rfl) rfl rfl) ?_)
    rintro _ w ⟨bB, rfl, hm⟩
    replace hm := hm.els_nil (α := Block_)
    replace hm := hm.nilow (α := Phi_)
    replace hm := hm.nilow (α := Ins_)
    replace hm := (mk_Block_ 1 0 hm 1 0 4 rfl).pk (L' := [ow [(.slice none 0 0), (.slice none 0 0), (nV 1), (nV 0), (sV ag 0 1 1)] ((⟨[], [], 1, 0, ([aS] : List Int)⟩ : Block_) : Block_), els [] ([] : List Block_), blk bB [(.slice none 0 0), (.slice none 0 0), (nV 1), (nV 0), (sV ag 0 1 1)] 59, blk aI [(nV c_.params), (nV c_.regs), (.slice aO c_.blocks.length aP)] 44, blk aJ [(nV 0), (nV 0), (.slice none 0 0)] 44, blk aG [(nV aC.params), (nV aC.regs), (.slice ae aF.1.length af)] 44, ow [(.slice ae aF.1.length af)] aF.1, ow [aZ] aF.2, ow [(sV aQ aR aB.length aK)] aB]) [1, 2, 3, 5, 6, 7, 8, 9, 10] rfl rfl
    replace hm := (hm.els_cons 1 0 (by decide) rfl rfl).pk (L' := [els [(.slice none 0 0), (.slice none 0 0), (nV 1), (nV 0), (sV ag 0 1 1)] ([(⟨[], [], 1, 0, ([aS] : List Int)⟩ : Block_)] : List Block_), blk bB [(.slice none 0 0), (.slice none 0 0), (nV 1), (nV 0), (sV ag 0 1 1)] 59, blk aI [(nV c_.params), (nV c_.regs), (.slice aO c_.blocks.length aP)] 44, blk aJ [(nV 0), (nV 0), (.slice none 0 0)] 44, blk aG [(nV aC.params), (nV aC.regs), (.slice ae aF.1.length af)] 44, ow [(.slice ae aF.1.length af)] aF.1, ow [aZ] aF.2, ow [(sV aQ aR aB.length aK)] aB]) [1, 2, 3, 4, 5, 6, 7, 8] rfl rfl
    replace hm := (hm.lit_els 1 0 (by decide) rfl rfl rfl rfl).pk (L' := [ow [(sV bB 0 1 1)] ([(⟨[], [], 1, 0, ([aS] : List Int)⟩ : Block_)] : List Block_), blk aI [(nV c_.params), (nV c_.regs), (.slice aO c_.blocks.length aP)] 44, blk aJ [(nV 0), (nV 0), (.slice none 0 0)] 44, blk aG [(nV aC.params), (nV aC.regs), (.slice ae aF.1.length af)] 44, ow [(.slice ae aF.1.length af)] aF.1, ow [aZ] aF.2, ow [(sV aQ aR aB.length aK)] aB]) [1, 2, 3, 4, 5, 6, 7] rfl rfl
    refine gb fun aD bk => ?_
    obtain ⟨bl, bm⟩ := appM_some.1 bk
    replace hm := (hm.both 4 0 (by decide) rfl rfl).pk (L' := [blk aI [(nV c_.params), (nV c_.regs), (.slice aO c_.blocks.length aP)] 44, blk aJ [(nV 0), (nV 0), (.slice none 0 0)] 44, blk aG [(nV aC.params), (nV aC.regs), (.slice ae aF.1.length af)] 44, both (ow [(.slice ae aF.1.length af)] aF.1) (ow [(sV bB 0 1 1)] ([(⟨[], [], 1, 0, ([aS] : List Int)⟩ : Block_)] : List Block_)), ow [aZ] aF.2, ow [(sV aQ aR aB.length aK)] aB]) [1, 2, 3, 4, 5, 6] rfl rfl
    refine gf rfl (fun a hf => e_appendD (xs := aF.1) (ys := ([(⟨[], [], 1, 0, ([aS] : List Int)⟩ : Block_)] : List Block_)) 3 et_42 hf hm rfl rfl rfl rfl bl) ?_
    rintro aq w hm
    rw [bm] at hm
    refine gF fo_44_2 rfl (gS1 hm 2 sizeOf42 (rep_one (hm.ow_rep 3 rfl)) rfl fun w hm => gE (gS (gR (gM rfl (gf rfl (fun a hf => e_build (vs := #[(0, (.slice none 0 0))]) (cs := [(.slice none 0 0)]) et_105 hf hm rfl rfl (by kernel_rfl) rfl rfl) ?_)))))
    rintro _ w ⟨bO, rfl, hm⟩
    replace hm := hm.els_nil (α := List (MapS Int))
    replace hm := hm.own0 (c := [(.slice none 0 0)]) (x := ([] : List (MapS Int))) (fun h => (own_list.2 (.inl ⟨rfl, rfl⟩)))
    replace hm := hm.imp (c' := ow [(.slice none 0 0)] ([] : List (MapS Int))) 0 rfl (fun F h0 => h0)
    replace hm := (hm.els_cons 1 0 (by decide) rfl rfl).pk (L' := [els [(.slice none 0 0)] ([[]] : List (List (MapS Int))), blk bO [(.slice none 0 0)] 122, blk aI [(nV c_.params), (nV c_.regs), (.slice aO c_.blocks.length aP)] 44, blk aJ [(nV 0), (nV 0), (.slice none 0 0)] 44, blk aG [(nV aC.params), (nV aC.regs), aq] 44, ow [aq] aD, ow [aZ] aF.2, ow [(sV aQ aR aB.length aK)] aB]) [1, 2, 3, 4, 5, 6, 7, 8] rfl rfl
    replace hm := (hm.lit_els 1 0 (by decide) rfl rfl rfl rfl).pk (L' := [ow [(sV bO 0 1 1)] ([[]] : List (List (MapS Int))), blk aI [(nV c_.params), (nV c_.regs), (.slice aO c_.blocks.length aP)] 44, blk aJ [(nV 0), (nV 0), (.slice none 0 0)] 44, blk aG [(nV aC.params), (nV aC.regs), aq] 44, ow [aq] aD, ow [aZ] aF.2, ow [(sV aQ aR aB.length aK)] aB]) [1, 2, 3, 4, 5, 6, 7] rfl rfl
    refine gb fun aH bo => ?_
    obtain ⟨bp, bq⟩ := appM_some.1 bo
    replace hm := (hm.both 5 0 (by decide) rfl rfl).pk (L' := [blk aI [(nV c_.params), (nV c_.regs), (.slice aO c_.blocks.length aP)] 44, blk aJ [(nV 0), (nV 0), (.slice none 0 0)] 44, blk aG [(nV aC.params), (nV aC.regs), aq] 44, ow [aq] aD, both (ow [aZ] aF.2) (ow [(sV bO 0 1 1)] ([[]] : List (List (MapS Int)))), ow [(sV aQ aR aB.length aK)] aB]) [1, 2, 3, 4, 5, 6] rfl rfl
    refine gf rfl (fun a hf => e_appendD (xs := aF.2) (ys := ([[]] : List (List (MapS Int)))) 4 et_105 hf hm rfl rfl rfl rfl bp) ?_
    rintro c8 w hm
    rw [bq] at hm
    refine gA rfl (gE (gS (gS (gR (gF fo_44_2 rfl (gL hm 2 isAgg42 rfl (gM rfl (gg fun aA bW ar => ?_))))))))
    obtain ⟨aL, aM, aN, he⟩ := idx_form' (hm.ow_rep 3 rfl) ar
    subst he
    obtain ⟨c9, ca, cb, cc, cd, ce, cf⟩ := rk_Block_ (hm.ow_rep 3 rfl) ar
    refine gI st_42 bW (idx_lt ar) rfl (gF fo_59_4 rfl ?_)
    obtain ⟨ah, ai, cg, hm⟩ := pin_Block_ hm 3 rfl ar
    refine gY (yl isAgg57 ((hm.holeE_at 6 rfl).cell (j := 4) rfl) rfl) ?_
    obtain ⟨aj, aX, rfl, cj⟩ := ro_slice (hm.ow_rep 0 rfl)
    refine gY (yV st_57 rfl) (gM rfl (gE ?_))
    obtain ⟨ak, aT, rfl, ck⟩ := ro_slice (hm.ow_rep 7 rfl)
    refine gBk (gNf hm (fun ax bP => [(1, (pV aI)), (2, (pV aJ)), (3, (pV aG)), (4, (.slice ak aH.length aT)), (5, (nV aE)), (7, (nV aS)), (8, (nV ((aF.1.length : Int)))), (19, (nV ((c_.blocks.length : Int)))), (20, (nV aE)), (25, (sV aQ aR aB.length aK)), (26, (nV ((aB.length : Int)))), (27, (nV ap)), (50, (.slice aj aA.next_.length aX)), (51, (nV ((aA.next_.length : Int)))), (52, (nV ax))]) (fun ax bP => [blk aI [(nV c_.params), (nV c_.regs), (.slice aO c_.blocks.length aP)] 44, blk aJ [(nV 0), (nV 0), (.slice none 0 0)] 44, blk aG [(nV aC.params), (nV aC.regs), (sV aL aM aD.length aN)] 44, holeE aL aM aD.length aN (aD : List Block_) (aE).toNat [ah, ai, (nV aA.jump), (nV aA.on), (.slice aj aA.next_.length aX)], ow [ah] aA.phis, ow [ai] aA.ins, ow [(.slice aj aA.next_.length aX)] bP, ow [(.slice ak aH.length aT)] aH, ow [(sV aQ aR aB.length aK)] aB]) [3, 4, 5, 6, 2, 1, 0, 7, 8] rfl ?_ ?_)
    ·
     repeat clear hm
     intro _ _ ax bP w hm cl cm cn _
     refine gS (gR (gB rfl (gE (gS (go _ 53 rfl (decide_eq_true (by omega)) (gct rfl (gSk (gS (gJ hm (fun bC => [(1, (pV aI)), (2, (pV aJ)), (3, (pV aG)), (4, (.slice ak aH.length aT)), (5, (nV aE)), (7, (nV aS)), (8, (nV ((aF.1.length : Int)))), (19, (nV ((c_.blocks.length : Int)))), (20, (nV aE)), (25, (sV aQ aR aB.length aK)), (26, (nV ((aB.length : Int)))), (27, (nV ap)), (50, (.slice aj aA.next_.length aX)), (51, (nV ((aA.next_.length : Int)))), (52, (nV ax))]) (fun bC => [blk aI [(nV c_.params), (nV c_.regs), (.slice aO c_.blocks.length aP)] 44, blk aJ [(nV 0), (nV 0), (.slice none 0 0)] 44, blk aG [(nV aC.params), (nV aC.regs), (sV aL aM aD.length aN)] 44, holeE aL aM aD.length aN (aD : List Block_) (aE).toNat [ah, ai, (nV aA.jump), (nV aA.on), (.slice aj aA.next_.length aX)], ow [ah] aA.phis, ow [ai] aA.ins, ow [(.slice aj aA.next_.length aX)] bC, ow [(.slice ak aH.length aT)] aH, ow [(sV aQ aR aB.length aK)] aB]) (fun bC => ?_) ?_)))))))))
     ·
      refine gBk (gS (gR (gM rfl (gg fun br bX au => ?_))))
      obtain ⟨bQ, bR, co, he⟩ := idx_form (hm.ow_rep 6 rfl) au
      obtain ⟨rfl, _, rfl⟩ := sl3 he
      have hL4_1 := rep_slice_len (hm.ow_rep 6 rfl)
      refine gI st_57 bX (idx_lt2 au hL4_1) rfl (gY (yl isAgg3 ((flat_cells (cs := [(nV br)]) (hm.ow_rep 6 rfl) au rfl).cell (j := 0) rfl) rfl) (gA rfl (gA rfl (gE (gS (gR (gM rfl (gM rfl (gB rfl (gE (gJ hm (fun bD => [(1, (pV aI)), (2, (pV aJ)), (3, (pV aG)), (4, (.slice ak aH.length aT)), (5, (nV aE)), (7, (nV aS)), (8, (nV ((aF.1.length : Int)))), (19, (nV ((c_.blocks.length : Int)))), (20, (nV aE)), (25, (sV aQ aR aB.length aK)), (26, (nV ((aB.length : Int)))), (27, (nV ap)), (50, (sV bQ bR aA.next_.length aX)), (51, (nV ((aA.next_.length : Int)))), (52, (nV ax))]) (fun bD => [blk aI [(nV c_.params), (nV c_.regs), (.slice aO c_.blocks.length aP)] 44, blk aJ [(nV 0), (nV 0), (.slice none 0 0)] 44, blk aG [(nV aC.params), (nV aC.regs), (sV aL aM aD.length aN)] 44, holeE aL aM aD.length aN (aD : List Block_) (aE).toNat [ah, ai, (nV aA.jump), (nV aA.on), (sV bQ bR aA.next_.length aX)], ow [ah] aA.phis, ow [ai] aA.ins, ow [(sV bQ bR aA.next_.length aX)] bD, ow [(.slice ak aH.length aT)] aH, ow [(sV aQ aR aB.length aK)] aB]) (fun bD => ?_) ?_)))))))))))
      ·
       refine gsd 59 rfl (fun bt => ?_) fun bt => ?_
       ·
        refine gct rfl (gR (gF fo_44_2 rfl (gL hm 2 isAgg42 rfl (gM rfl ?_))))
        have hL5_1 := hm.holeE_len 3 rfl
        refine gI st_42 bW (idx_lt2 ar hL5_1) rfl (gF fo_59_4 rfl (gY (yl isAgg57 ((hm.holeE_at 3 rfl).cell (j := 4) rfl) rfl) (gM rfl (gM rfl ?_))))
        have hL5_2 := rep_slice_len (hm.ow_rep 6 rfl)
        refine gI st_57 bX (idx_lt2 au hL5_2) rfl (gf0 rfl (fun a hf => e_setElem (x1 := (aF.1.length : Int)) (j := 0) (vs := [(nV ((aF.1.length : Int)))]) 6 hf hm rfl au rfl sizeOf3 rfl rfl rfl (one_cons rfl one_nil) rfl rfl) ?_)
        rintro _ w hm
        have cq := List.getElem?_set_self (a := (aF.1.length : Int)) (idx_lt au)
        exact gE (gz hm [0, 1, 2, 3, 4, 5, 6, 7, 8] rfl)
       exact gcf rfl (gSk (gz hm [0, 1, 2, 3, 4, 5, 6, 7, 8] rfl))
      repeat clear hm
      intro bD w hm
      exact gz hm [0, 1, 2, 3, 4, 5, 6, 7, 8] rfl
     repeat clear hm
     intro bC w hm
     exact gR (gP (by omega) (by omega) rfl (gM rfl (gE (gze hm [0, 1, 2, 3, 4, 5, 6, 7, 8] rfl))))
    repeat clear hm
    intro cr aY w hm ct cu
    refine gS (gR (gB rfl (gE (gS (go _ 53 rfl (decide_eq_false (by omega)) (gcf rfl (gXt (gHh (gS ?_)))))))))
    replace hm := (mk_Block_ aA.jump aA.on hm 4 5 6 rfl).pk (L' := [blk aI [(nV c_.params), (nV c_.regs), (.slice aO c_.blocks.length aP)] 44, blk aJ [(nV 0), (nV 0), (.slice none 0 0)] 44, blk aG [(nV aC.params), (nV aC.regs), (sV aL aM aD.length aN)] 44, holeE aL aM aD.length aN (aD : List Block_) (aE).toNat [ah, ai, (nV aA.jump), (nV aA.on), (.slice aj aA.next_.length aX)], ow [ah, ai, (nV aA.jump), (nV aA.on), (.slice aj aA.next_.length aX)] ((⟨aA.phis, aA.ins, aA.jump, aA.on, aY⟩ : Block_) : Block_), ow [(.slice ak aH.length aT)] aH, ow [(sV aQ aR aB.length aK)] aB]) [0, 1, 2, 3, 4, 7, 8] rfl rfl
    replace hm := (hm.shutE (y := ((⟨aA.phis, aA.ins, aA.jump, aA.on, aY⟩ : Block_) : Block_)) 3 4 (by decide) rfl rfl).pk (L' := [blk aI [(nV c_.params), (nV c_.regs), (.slice aO c_.blocks.length aP)] 44, blk aJ [(nV 0), (nV 0), (.slice none 0 0)] 44, blk aG [(nV aC.params), (nV aC.regs), (sV aL aM aD.length aN)] 44, ow [(sV aL aM aD.length aN)] (aD.set (aE).toNat (⟨aA.phis, aA.ins, aA.jump, aA.on, aY⟩ : Block_)), ow [(.slice ak aH.length aT)] aH, ow [(sV aQ aR aB.length aK)] aB]) [0, 1, 2, 3, 5, 6] rfl rfl
    have cv := List.getElem?_set_self (a := ((⟨aA.phis, aA.ins, aA.jump, aA.on, aY⟩ : Block_) : Block_)) (idx_lt ar)
    refine gR (gM rfl (gM rfl (gg fun aW bu ay => ?_)))
    obtain ⟨aa, ab, cw, he⟩ := idx_form' (hm.ow_rep 4 rfl) ay
    obtain ⟨rfl, _, rfl⟩ := sl3 he
    obtain ⟨_, _, bY, bv⟩ := ro_get' (hm.ow_rep 4 rfl) ay
    have bS := bv
    obtain ⟨bZ, rfl, -⟩ := id bS
    replace bS : GT.rep (hp _) [bZ] aW := bS
    replace bY : CellsAt (hp _) aa (ab + (aS).toNat * 1) [bZ] := bY
    refine gI st_105 bu (idx_lt ay) rfl ?_
    obtain ⟨_, bw, hm⟩ := hm.openE 4 rfl ay
    have bx := hm.ow_rep 0 rfl
    have bE := bx
    obtain ⟨az, rfl, -⟩ := id bE
    replace bE : GT.rep (hp _) [az] aW := bE
    clear bw bE
    replace hm : Mem w0 (hp w0) _ [ow [az] (aW : List (MapS Int)), blk aI [(nV c_.params), (nV c_.regs), (.slice aO c_.blocks.length aP)] 44, blk aJ [(nV 0), (nV 0), (.slice none 0 0)] 44, blk aG [(nV aC.params), (nV aC.regs), (sV aL aM aD.length aN)] 44, ow [(sV aL aM aD.length aN)] (aD.set (aE).toNat (⟨aA.phis, aA.ins, aA.jump, aA.on, aY⟩ : Block_)), holeE aa ab aH.length aT (aH : List (List (MapS Int))) (aS).toNat [az], ow [(sV aQ aR aB.length aK)] aB] := hm
    replace hm := hm.pk (L' := [ow [az] aW, blk aI [(nV c_.params), (nV c_.regs), (.slice aO c_.blocks.length aP)] 44, blk aJ [(nV 0), (nV 0), (.slice none 0 0)] 44, blk aG [(nV aC.params), (nV aC.regs), (sV aL aM aD.length aN)] 44, ow [(sV aL aM aD.length aN)] (aD.set (aE).toNat (⟨aA.phis, aA.ins, aA.jump, aA.on, aY⟩ : Block_)), holeE aa ab aH.length aT (aH : List (List (MapS Int))) (aS).toNat [az], ow [(sV aQ aR aB.length aK)] aB]) [0, 1, 2, 3, 4, 5, 6] rfl rfl
    refine gY (yl isAgg122 ((hm.holeE_at 5 rfl).cell (j := 0) rfl) rfl) ?_
    obtain ⟨bF, ac, rfl, cx⟩ := ro_slice (hm.ow_rep 0 rfl)
    refine gY (yV st_122 rfl) (gM rfl (gE (gBk (gNf hm (fun al av => [(1, (pV aI)), (2, (pV aJ)), (3, (pV aG)), (4, (sV aa ab aH.length aT)), (5, (nV aE)), (8, (nV ((aF.1.length : Int)))), (19, (nV ((c_.blocks.length : Int)))), (20, (nV aE)), (25, (sV aQ aR aB.length aK)), (26, (nV ((aB.length : Int)))), (27, (nV ap)), (73, (.slice bF aW.length ac)), (74, (nV ((aW.length : Int)))), (75, (nV al))]) (fun al av => [blk aI [(nV c_.params), (nV c_.regs), (.slice aO c_.blocks.length aP)] 44, blk aJ [(nV 0), (nV 0), (.slice none 0 0)] 44, blk aG [(nV aC.params), (nV aC.regs), (sV aL aM aD.length aN)] 44, ow [(sV aL aM aD.length aN)] (aD.set (aE).toNat (⟨aA.phis, aA.ins, aA.jump, aA.on, aY⟩ : Block_)), holeE aa ab aH.length aT (aH : List (List (MapS Int))) (aS).toNat [(.slice bF aW.length ac)], ow [(.slice bF aW.length ac)] av, ow [(sV aQ aR aB.length aK)] aB]) [1, 2, 3, 4, 5, 0, 6] rfl ?_ ?_))))
    ·
     repeat clear hm
     intro _ _ al av w hm cy cz dA _
     refine gS (gR (gB rfl (gE (gS (go _ 76 rfl (decide_eq_true (by omega)) (gct rfl (gSk (gS (gBk (gS (gR (gg fun aV bz bA => ?_))))))))))))
     obtain ⟨am, an, dB, he⟩ := idx_form' (hm.ow_rep 5 rfl) bA
     obtain ⟨rfl, _, rfl⟩ := sl3 he
     obtain ⟨_, _, b6, cA⟩ := ro_get' (hm.ow_rep 5 rfl) bA
     have bT := cA
     obtain ⟨b7, rfl, -⟩ := id bT
     replace bT : GT.rep (hp _) [b7] aV := bT
     replace b6 : CellsAt (hp _) am (an + (al).toNat * 1) [b7] := b6
     have hL3_1 := rep_slice_len (hm.ow_rep 5 rfl)
     refine gI st_122 bz (idx_lt2 bA hL3_1) rfl ?_
     obtain ⟨_, cB, hm⟩ := hm.openE 5 rfl bA
     have cC := hm.ow_rep 0 rfl
     have bG := cC
     obtain ⟨ao, rfl, -⟩ := id bG
     replace bG : GT.rep (hp _) [ao] aV := bG
     clear cB bG
     replace hm : Mem w0 (hp w0) _ [ow [ao] (aV : MapS Int), blk aI [(nV c_.params), (nV c_.regs), (.slice aO c_.blocks.length aP)] 44, blk aJ [(nV 0), (nV 0), (.slice none 0 0)] 44, blk aG [(nV aC.params), (nV aC.regs), (sV aL aM aD.length aN)] 44, ow [(sV aL aM aD.length aN)] (aD.set (aE).toNat (⟨aA.phis, aA.ins, aA.jump, aA.on, aY⟩ : Block_)), holeE aa ab aH.length aT (aH : List (List (MapS Int))) (aS).toNat [(sV am an aW.length ac)], holeE am an aW.length ac (av : List (MapS Int)) (al).toNat [ao], ow [(sV aQ aR aB.length aK)] aB] := hm
     replace hm := hm.pk (L' := [ow [ao] aV, blk aI [(nV c_.params), (nV c_.regs), (.slice aO c_.blocks.length aP)] 44, blk aJ [(nV 0), (nV 0), (.slice none 0 0)] 44, blk aG [(nV aC.params), (nV aC.regs), (sV aL aM aD.length aN)] 44, ow [(sV aL aM aD.length aN)] (aD.set (aE).toNat (⟨aA.phis, aA.ins, aA.jump, aA.on, aY⟩ : Block_)), holeE aa ab aH.length aT (aH : List (List (MapS Int))) (aS).toNat [(sV am an aW.length ac)], holeE am an aW.length ac (av : List (MapS Int)) (al).toNat [ao], ow [(sV aQ aR aB.length aK)] aB]) [0, 1, 2, 3, 4, 5, 6, 7] rfl rfl
     refine gY (yl isAgg123 ((hm.holeE_at 6 rfl).cell (j := 0) rfl) rfl) (gA rfl (gE (gS (gR (gM rfl (gM rfl (gM rfl (gM rfl (gY (yG rfl (y_lookI (key := aE) (m := (aV : MapS Int)) underlying3 underlying123 zeroValue3 (hm.ow_rep 0 rfl) rfl rfl rfl)) (gb fun dC cD => ?_))))))))))
     replace hm := hm.ow_owm 0 rfl cD
     refine gf0 rfl (fun a hf => e_insM (β := Int) (key := (aF.1.length : Int)) (u := ((MapS.get aV aE).getD 0)) (b := false) 0 underlying3 underlying123 hf hm rfl rfl rfl rfl rfl) ?_
     rintro _ w hm
     refine gE (gR (gM rfl (gM rfl (gf0 rfl (fun a hf => e_delM (β := Int) (key := aE) 0 underlying3 underlying123 hf hm rfl rfl rfl rfl rfl) ?_))))
     rintro _ w hm
     refine gE ?_
     have dD := owm_cells hm 0 rfl
     replace hm := hm.imp (c' := ow [ao] ((MapS.del (MapS.ins aV (aF.1.length : Int) ((MapS.get aV aE).getD 0)) aE) : MapS Int)) 0 rfl (fun F h0 => own_owm h0)
     replace hm := hm.imp (c' := ow [ao] ((MapS.del (MapS.ins aV (aF.1.length : Int) ((MapS.get aV aE).getD 0)) aE) : MapS Int)) 0 rfl (fun F h0 => h0)
     replace hm := (hm.shutE (y := ((MapS.del (MapS.ins aV (aF.1.length : Int) ((MapS.get aV aE).getD 0)) aE) : MapS Int)) 6 0 (by decide) rfl rfl).pk (L' := [blk aI [(nV c_.params), (nV c_.regs), (.slice aO c_.blocks.length aP)] 44, blk aJ [(nV 0), (nV 0), (.slice none 0 0)] 44, blk aG [(nV aC.params), (nV aC.regs), (sV aL aM aD.length aN)] 44, ow [(sV aL aM aD.length aN)] (aD.set (aE).toNat (⟨aA.phis, aA.ins, aA.jump, aA.on, aY⟩ : Block_)), holeE aa ab aH.length aT (aH : List (List (MapS Int))) (aS).toNat [(sV am an aW.length ac)], ow [(sV am an aW.length ac)] (av.set (al).toNat (MapS.del (MapS.ins aV (aF.1.length : Int) ((MapS.get aV aE).getD 0)) aE)), ow [(sV aQ aR aB.length aK)] aB]) [1, 2, 3, 4, 5, 6, 7] rfl rfl
     have dE := List.getElem?_set_self (a := ((MapS.del (MapS.ins aV (aF.1.length : Int) ((MapS.get aV aE).getD 0)) aE) : MapS Int)) (idx_lt bA)
     exact gR (gP (by omega) (by omega) rfl (gM rfl (gE (gze hm [0, 1, 2, 3, 4, 5, 6] rfl))))
    repeat clear hm
    intro dF bH w hm dG dH
    refine gS (gR (gB rfl (gE (gS (go _ 76 rfl (decide_eq_false (by omega)) (gcf rfl (gXt (gHh ?_))))))))
    replace hm := hm.imp (c' := ow [(.slice bF aW.length ac)] (bH : List (MapS Int))) 5 rfl (fun F h0 => h0)
    replace hm := (hm.shutE (y := (bH : List (MapS Int))) 4 5 (by decide) rfl rfl).pk (L' := [blk aI [(nV c_.params), (nV c_.regs), (.slice aO c_.blocks.length aP)] 44, blk aJ [(nV 0), (nV 0), (.slice none 0 0)] 44, blk aG [(nV aC.params), (nV aC.regs), (sV aL aM aD.length aN)] 44, ow [(sV aL aM aD.length aN)] (aD.set (aE).toNat (⟨aA.phis, aA.ins, aA.jump, aA.on, aY⟩ : Block_)), ow [(sV aa ab aH.length aT)] (aH.set (aS).toNat bH), ow [(sV aQ aR aB.length aK)] aB]) [0, 1, 2, 3, 4, 6] rfl rfl
    have dI := List.getElem?_set_self (a := (bH : List (MapS Int))) (idx_lt ay)
    exact gR (gP (by omega) (by omega) rfl (gM rfl (gE (gZe fun a hf => ⟨(sV aL aM aD.length aN), (sV aa ab aH.length aT), hf.sb rfl, hm.pk [0, 1, 2, 3, 4, 5] rfl rfl⟩))))
   repeat clear hm
   rintro dJ dK a w ⟨cE, cF, hf, hm⟩ dL dM
   exact gv hf (gS (gR (gB rfl (gE (gS (go _ 28 rfl (decide_eq_false (by omega)) (gcf rfl (gXt (gHh (gR (gP (by omega) (by omega) rfl (gM rfl (gE (gZe fun a hf => ⟨cE, cF, hf.sb rfl, hm.pk [0, 1, 2, 3, 4] rfl rfl⟩))))))))))))))
  repeat clear hm
  rintro dN bJ a w ⟨bU, b8, hf, hm⟩ dO dP
  refine gv hf (gS (gR (gB rfl (gE (gS (go _ 21 rfl (decide_eq_false (by omega)) (gcf rfl (gXt (gHh (gS (gR (gM rfl ?_))))))))))))
  obtain ⟨cG, hle, hm1, hsub, cH⟩ := hm.take2 (L1 := [blk aG [(nV aC.params), (nV aC.regs), bU] 44, ow [bU] bJ.1]) (L2 := [blk aI [(nV c_.params), (nV c_.regs), (.slice aO c_.blocks.length aP)] 44, blk aJ [(nV 0), (nV 0), (.slice none 0 0)] 44, ow [b8] bJ.2]) [2, 3] [0, 1, 4] (by decide) rfl rfl
  refine gCg rfl call122 (impl_settle_ok _ cG (⟨aC.params, aC.regs, bJ.1⟩ : Code_) aG bU bJ.2 b8 (fz_ow (hsub 2 _ rfl)) hm1 ) ?_
  rintro dQ dR dS w ⟨cI, rfl, hB⟩
  replace hm := cH _ _ hB; clear hB
  exact gE (gS (gR (gY (yn (hm.blk_at 0 rfl) isAgg44 sizeOf44 rfl) (gSN hm 3 sizeOf44 (one_cons rfl (one_cons rfl (one_cons (rep_one (hm.ow_rep 1 rfl)) one_nil))) rfl fun w hm => gE (gRt (grc 3 results72 hm rfl isAgg44 sizeOf44 ⟨cI, rfl, hm.pk [1] rfl rfl⟩))))))
theorem impl_onlyValid_ok (w0 : World) (hz : Heap) (u : Unit_) (v1 : Value) (ok : Bool) (hm0 : Mem w0 hz w0 [ow [v1] u.codes]) :
    ConM Tryz.prog 34 [(.agg #[v1]), (.bool (ok))] w0 (impl_onlyValid u ok) fun r v w' => ∃ (x1 : Value), v = (.tuple #[(.agg #[x1]), (.bool (r.2))]) ∧ Mem w0 hz w' [ow [x1] r.1.codes] := by
  unfold impl_onlyValid
  refine gcon func34 rfl fun r => ?_
  have hm := hm0
  refine gS (gR (gBx hm rfl fun aB w hm => gAl hm zeroValue28 rfl fun aC w hm => gA rfl (gE (gS (gS (gJ hm (fun aA => [(2, (pV aB)), (4, (pV aC)), (12, (.bool (aA)))]) (fun aA => [blk aB [v1] 28, ow [v1] u.codes, blk aC [(.slice none 0 0)] 28]) (fun aA => ?_) ?_))))))
  ·
   refine gR (gM rfl (gN rfl (gM rfl (gsn 8 rfl (fun aD => ?_) fun aD => ?_))))
   ·
    exact gO rfl (gO rfl (gO rfl (gKt rfl (gE (gz hm [1, 2, 0] rfl)))))
   exact gY (yn (hm.blk_at 1 rfl) isAgg28 sizeOf28 rfl) (gC hm rfl call48 (impl_UnitValid_ok _ u v1 (hm.ow_rep 2 rfl)) fun aF aG w hm => gN rfl (gKf rfl (gE (gz hm [1, 2, 0] rfl))))
  repeat clear hm
  intro aA w hm
  refine gs 12 rfl (fun aE => ?_) fun aE => ?_
  ·
   refine gct rfl (gS (gR (gY (yG rfl (y_build (vs := []) (cs := #[(.slice none 0 0)]) rfl rfl (by kernel_rfl))) (gSN hm 2 sizeOf28 (one_cons rfl one_nil) rfl fun w hm => gA rfl (gE (gRt ?_))))))
   replace hm := hm.nilow (α := Code_)
   exact grct 3 results34 hm rfl isAgg28 sizeOf28 ⟨(.slice none 0 0), rfl, hm.pk [0] rfl rfl⟩
  exact gcf rfl (gSk (gS (gR (gY (yn (hm.blk_at 0 rfl) isAgg28 sizeOf28 rfl) (gSN hm 2 sizeOf28 (one_cons (rep_one (hm.ow_rep 1 rfl)) one_nil) rfl fun w hm => gA rfl (gE (gRt (grct 2 results34 hm rfl isAgg28 sizeOf28 ⟨v1, rfl, hm.pk [1] rfl rfl⟩))))))))
theorem impl_SplitEdges_ok (w0 : World) (u : Unit_) (v1 : Value) (h1 : GT.rep (hp w0) [v1] u.codes) :
    ConM Tryz.prog 30 [(.agg #[v1])] w0 (impl_SplitEdges u) fun r v w' => ∃ (x1 : Value), v = (.tuple #[(.agg #[x1]), (.bool (r.2))]) ∧ Mem w0 (hp w0) w' [ow [x1] r.1.codes] := by
  unfold impl_SplitEdges
  refine gcon func30 rfl fun r => ?_
  have hm := Mem.start w0
  refine gS (gR (gBx hm rfl fun aC w hm => gAl hm zeroValue28 rfl fun aD w hm => gA rfl (gE (gS (gR (gY (yn (hm.blk_at 1 rfl) isAgg28 sizeOf28 rfl) (gCg rfl call71 (impl_perCode_ok _ u v1 (hm.now h1) (fun y0 => impl_splitCode y0) (.func (.func 72) #[] #[]) (fun w y0 aE aF r hB hq => ⟨72, [], rfl, call72, impl_splitCode_ok w y0 aE aF  r hq⟩)) ?_)))))))
  rintro aA aJ aK w ⟨aB, rfl, hB⟩
  replace hm := hm.give hB; clear hB
  refine gX rfl (gX rfl ?_)
  obtain ⟨aG, hle, hm1, hsub, aH⟩ := hm.take2 (L1 := [ow [aB] aA.1.codes]) (L2 := [blk aD [(.slice none 0 0)] 28, blk aC [v1] 28]) [0] [1, 2] (by decide) rfl rfl
  refine gCg rfl call34 (impl_onlyValid_ok _ aG aA.1 aB aA.2 hm1 ) ?_
  rintro aL aM aN w ⟨aI, rfl, hB⟩
  replace hm := aH _ _ hB; clear hB
  exact gX rfl (gX rfl (gSN hm 1 sizeOf28 (one_cons (rep_one (hm.ow_rep 0 rfl)) one_nil) rfl fun w hm => gA rfl (gE (gRt (grct 1 results30 hm rfl isAgg28 sizeOf28 ⟨aI, rfl, hm.pk [0] rfl rfl⟩)))))
theorem impl_phiCount_ok (w0 : World) (c_ : Code_) (v1 : Value) (h1 : GT.rep (hp w0) [v1] c_.blocks) :
    ConM Tryz.prog 74 [(.agg #[(nV c_.params), (nV c_.regs), v1])] w0 (impl_phiCount c_) fun r v w' => v = (nV r) ∧ Below w0.heap.size w0 w' := by
  unfold impl_phiCount
  refine gcon func74 rfl fun r => ?_
  have hm := Mem.start w0
  refine gS (gR (gBx hm rfl fun aK w hm => gA rfl (gE (gS (gR (gA rfl (gE (gS (gS (gR (gF fo_44_2 rfl (gL hm 0 isAgg42 rfl ?_))))))))))))
  obtain ⟨aE, aF, rfl, aL⟩ := ro_slice h1
  refine gY (yV st_42 rfl) (gM rfl (gE (gBk (gNf hm (fun aA aB => [(3, (nV aB)), (7, (.slice aE c_.blocks.length aF)), (8, (nV ((c_.blocks.length : Int)))), (9, (nV aA))]) (fun aA aB => []) [] rfl ?_ ?_))))
  ·
   repeat clear hm
   intro _ _ aA aB w hm aM aN aO _
   refine gS (gR (gB rfl (gE (gS (go _ 10 rfl (decide_eq_true (by omega)) (gct rfl (gSk (gS (gBk (gS (gR (gg fun aP aG aC => ?_))))))))))))
   obtain ⟨aQ, aR, aS, he⟩ := idx_form' h1 aC
   obtain ⟨rfl, _, rfl⟩ := sl3 he
   obtain ⟨aT, aV, aW, aH, aD, aI, aJ⟩ := rk_Block_ h1 aC
   refine gI st_42 aG (idx_lt aC) rfl (gY (yn (aH.mono hm.lez) isAgg59 sizeOf59 rfl) (gAl hm zeroValue59 rfl fun aX w hm => gSN hm 0 sizeOf59 (one_cons (rep_one aD) (one_cons (rep_one aI) (one_cons rfl (one_cons rfl (one_cons (rep_one aJ) one_nil))))) rfl fun w hm => gE (gR (gM rfl (gF fo_59_0 rfl (gL hm 0 isAgg55 rfl ?_))))))
   obtain ⟨aY, aZ, rfl, aa⟩ := ro_slice aD
   exact gY (yV st_55 rfl) (gB rfl (gA rfl (gE (gR (gP (by omega) (by omega) rfl (gM rfl (gE (gze hm [] rfl))))))))
  repeat clear hm
  intro ab ac w hm ae af
  exact gS (gR (gB rfl (gE (gS (go _ 10 rfl (decide_eq_false (by omega)) (gcf rfl (gXt (gHh (gS (gR (gM rfl (gA rfl (gE (gRt (gr1 results74 rfl ⟨rfl, hm.below⟩)))))))))))))))
theorem impl_mapped_impl_Phi_S_int_ok (w0 : World) (list : List Phi_) (v1 : Value) (h1 : GT.rep (hp w0) [v1] list) (f : Phi_ → Option (List Int)) (fv1 : Value) (hfn1 : ∀ (w : World) (y0 : Phi_) (z1 : Value) (_ : GT.rep (hp w) [z1] y0.args) (r : (List Int)), Below w0.heap.size w0 w → f y0 = some r → FnOk Tryz.prog fv1 [(.agg #[(nV y0.to), z1])] w (fun v w' => ∃ (x1 : Value), v = x1 ∧ Mem w (hp w) w' [ow [x1] r])) :
    ConM Tryz.prog 76 [v1, fv1] w0 (impl_mapped_impl_Phi_S_int list f) fun r v w' => ∃ (x1 : Value), v = x1 ∧ Mem w0 (hp w0) w' [ow [x1] r] := by
  unfold impl_mapped_impl_Phi_S_int
  refine gcon func76 rfl fun r => ?_
  have hm := Mem.start w0
  refine gS (gR (gA rfl (gE (gS (gR (gA rfl (gE (gS (gS (gR (gM rfl ?_)))))))))))
  obtain ⟨aM, aN, rfl, aX⟩ := ro_slice h1
  refine gY (yV st_55 rfl) (gM rfl (gE (gBk ?_)))
  replace hm := hm.nilow (α := List Int)
  refine gNg (fun aK aB a w => ∃ (aC : Value), St 22 [(1, fv1), (5, aC), (8, (.slice aM list.length aN)), (9, (nV ((list.length : Int)))), (10, (nV aK))] w0 (hp w0) [ow [aC] aB] a w) (fun a hf => ⟨(.slice none 0 0), hf.sb rfl, hm.pk [0] rfl rfl⟩) ?_ ?_
  ·
   repeat clear hm
   rintro _ _ aK aB a w ⟨aC, hf, hm⟩ aY aZ aa _
   refine gv hf (gS (gR (gB rfl (gE (gS (go _ 11 rfl (decide_eq_true (by omega)) (gct rfl (gSk (gS (gBk (gS (gR (gg fun aF aO aH => ?_)))))))))))))
   obtain ⟨ab, ac, ae, he⟩ := idx_form' h1 aH
   obtain ⟨rfl, _, rfl⟩ := sl3 he
   obtain ⟨aG, aP, aL⟩ := rk_Phi_ h1 aH
   refine gI st_55 aO (idx_lt aH) rfl (gY (yn (aP.mono hm.lez) isAgg87 sizeOf87 rfl) (gAl hm zeroValue87 rfl fun aI w hm => gSN hm 0 sizeOf87 (one_cons rfl (one_cons (rep_one aL) one_nil)) rfl fun w hm => gE (gR (gM rfl (gM rfl (gY (yn (hm.blk_at 0 rfl) isAgg87 sizeOf87 rfl) (gb fun aA aQ => gf rfl (fun a hf => e_callv hf rfl rfl rfl (hfn1 _ aF aG (hm.now aL) _ hm.below aQ)) ?_)))))))
   rintro af w ⟨_, rfl, hB⟩
   replace hm := hm.give hB; clear hB
   obtain ⟨aD, aE, rfl, ag⟩ := ro_slice (hm.ow_rep 0 rfl)
   refine gf rfl (fun a hf => e_build (vs := #[(0, (.slice aD aA.length aE))]) (cs := [(.slice aD aA.length aE)]) et_64 hf hm rfl rfl (by kernel_rfl) rfl rfl) ?_
   rintro _ w ⟨aJ, rfl, hm⟩
   replace hm := hm.els_nil (α := List Int)
   replace hm := hm.imp (c' := ow [(.slice aD aA.length aE)] (aA : List Int)) 2 rfl (fun F h0 => h0)
   replace hm := (hm.els_cons 0 2 (by decide) rfl rfl).pk (L' := [els [(.slice aD aA.length aE)] ([aA] : List (List Int)), blk aJ [(.slice aD aA.length aE)] 57, blk aI [(nV aF.to), aG] 87, ow [aC] aB]) [0, 1, 3, 4] rfl rfl
   replace hm := (hm.lit_els 1 0 (by decide) rfl rfl rfl rfl).pk (L' := [ow [(sV aJ 0 1 1)] ([aA] : List (List Int)), blk aI [(nV aF.to), aG] 87, ow [aC] aB]) [1, 2, 3] rfl rfl
   refine gb fun ah aR => ?_
   obtain ⟨aS, aT⟩ := appM_some.1 aR
   replace hm := (hm.both 2 0 (by decide) rfl rfl).pk (L' := [blk aI [(nV aF.to), aG] 87, both (ow [aC] aB) (ow [(sV aJ 0 1 1)] ([aA] : List (List Int)))]) [1, 2] rfl rfl
   refine gf rfl (fun a hf => e_appendD (xs := aB) (ys := ([aA] : List (List Int))) 1 et_64 hf hm rfl rfl rfl rfl aS) ?_
   rintro aV w hm
   rw [aT] at hm
   exact gA rfl (gE (gR (gP (by omega) (by omega) rfl (gM rfl (gE (gZe fun a hf => ⟨aV, hf.sb rfl, hm.pk [1] rfl rfl⟩))))))
  repeat clear hm
  rintro ai aj a w ⟨aW, hf, hm⟩ ak al
  exact gv hf (gS (gR (gB rfl (gE (gS (go _ 11 rfl (decide_eq_false (by omega)) (gcf rfl (gXt (gHh (gS (gR (gM rfl (gA rfl (gE (gRt (gr1 results76 rfl ⟨aW, rfl, hm.pk [0] rfl rfl⟩))))))))))))))))
theorem impl_plain_1_ok (w0 : World) (f : Phi_) (v1 : Value) (h1 : GT.rep (hp w0) [v1] f.args) :
    ConM Tryz.prog 77 [(.agg #[(nV f.to), v1])] w0 (impl_plain_1 f) fun r v w' => ∃ (x1 : Value), v = x1 ∧ Mem w0 (hp w0) w' [ow [x1] r] := by
  unfold impl_plain_1
  refine gcon func77 rfl fun r => ?_
  have hm := Mem.start w0
  refine gS (gR (gBx hm rfl fun aB w hm => gA rfl (gE (gS (gR (gF fo_87_0 rfl (gL hm 0 isAgg3 rfl (gf rfl (fun a hf => e_build (vs := #[(0, (nV f.to)), (1, (nV 0))]) (cs := [(nV f.to), (nV 0)]) et_57 hf hm rfl rfl (by kernel_rfl) rfl rfl) ?_))))))))
  rintro _ w ⟨aA, rfl, hm⟩
  replace hm := hm.lit (xs := ([f.to, 0] : List Int)) 0 rfl rfl rfl rfl
  exact gA rfl (gE (gRt (gr1 results77 rfl ⟨(sV aA 0 2 2), rfl, hm.pk [0] rfl rfl⟩)))
theorem impl_atOnce_ok (w0 : World) (list : List (List Int)) (v1 : Value) (h1 : GT.rep (hp w0) [v1] list) :
    ConM Tryz.prog 75 [v1] w0 (impl_atOnce list) fun r v w' => v = (.bool (r)) ∧ Below w0.heap.size w0 w' := by
  unfold impl_atOnce
  refine gcon func75 rfl fun r => ?_
  have hm := Mem.start w0
  refine gS (gR (gA rfl (gE (gS (gR (gf rfl (fun a hf => e_mkM (β := Bool) hm rfl) ?_))))))
  rintro aG w hm
  refine gA rfl (gE (gS (gS (gR (gM rfl ?_)))))
  obtain ⟨aH, aI, rfl, aS⟩ := ro_slice h1
  refine gY (yV st_64 rfl) (gM rfl (gE (gBk (gNf hm (fun aB aC => [(0, (.slice aH list.length aI)), (3, aG), (7, (.slice aH list.length aI)), (8, (nV ((list.length : Int)))), (9, (nV aB))]) (fun aB aC => [owm aG aC]) [0] rfl ?_ ?_))))
  ·
   repeat clear hm
   intro _ _ aB aC w hm aT aV aW _
   refine gS (gR (gB rfl (gE (gS (go _ 10 rfl (decide_eq_true (by omega)) (gct rfl (gSk (gS (gBk (gS (gR (gg fun aL aM aD => ?_))))))))))))
   obtain ⟨aN, aO, aX, he⟩ := idx_form' h1 aD
   obtain ⟨rfl, _, rfl⟩ := sl3 he
   obtain ⟨_, _, aE, aP⟩ := ro_get' h1 aD
   have aA := aP
   obtain ⟨aJ, rfl, -⟩ := id aA
   replace aA : GT.rep (hp w0) [aJ] aL := aA
   replace aE : CellsAt (hp w0) aN (aO + (aB).toNat * 1) [aJ] := aE
   refine gI st_64 aM (idx_lt aD) rfl (gY (yl isAgg57 ((aE.mono hm.lez).cell (j := 0) rfl) rfl) (gA rfl (gE (gR (gM rfl (gM rfl (gg fun aK aQ aF => ?_)))))))
   obtain ⟨aY, aZ, aa, he⟩ := idx_form aA aF
   subst he
   refine gI st_57 aQ (idx_lt aF) rfl (gY (yl isAgg3 ((flat_cells (cs := [(nV aK)]) (hm.now aA) aF rfl).cell (j := 0) rfl) rfl) (gf0 rfl (fun a hf => e_insM (β := Bool) (key := aK) (u := true) (b := false) 0 underlying3 underlying110 hf hm rfl rfl rfl rfl rfl) ?_))
   rintro _ w hm
   exact gE (gR (gP (by omega) (by omega) rfl (gM rfl (gE (gze hm [0] rfl)))))
  repeat clear hm
  intro ab aR w hm ac ae
  exact gS (gR (gB rfl (gE (gS (go _ 10 rfl (decide_eq_false (by omega)) (gcf rfl (gXt (gHh (gS (gR (gM rfl (gY (yG rfl (y_lenS (m := (aR : MapS Bool)) underlying110 (hm.owm_rep 0 rfl) rfl rfl)) (gM rfl (gY (yV st_64 rfl) (gB rfl (gA rfl (gE (gRt (gr1 results75 rfl ⟨rfl, hm.below⟩)))))))))))))))))))
theorem impl_plain_2_ok (w0 : World) (f : Phi_) (v1 : Value) (h1 : GT.rep (hp w0) [v1] f.args) (c0_ : Int) (bf0 : Nat) (hbf0 : w0.heap[bf0]? = some (.cells ([(nV c0_)] : List Value).toArray 3 (0, 0))) :
    ConM Tryz.prog 79 [(.agg #[(nV f.to), v1]), (pV bf0)] w0 (impl_plain_2 f c0_) fun r v w' => ∃ (x1 : Value), v = x1 ∧ Mem w0 (hp w0) w' [ow [x1] r] := by
  unfold impl_plain_2
  refine gcon func79 rfl fun r => ?_
  have hm := Mem.start w0
  refine gS (gR (gBx hm rfl fun aC w hm => gA rfl (gE (gS (gW (.p 0 (.p 2 (.q 1 (.q 3 (.e 4 (.p 5 (.e 6 (.e 7 (.p 8 .fin) .nil) .nil)) .nil))))) [1, 3, 4, 6] [0, 2, 5, 8] hm [0] [blk aC [(nV f.to), v1] 87] rfl mxo (by kernel_rfl) (fun _ _ _ h => h.2) fun w hm hS => tP rfl (fun w => yF fo_87_0 rfl) (tP rfl (fun w => yF fo_87_1 rfl) (tQ rfl hS (fun w hm => yL hm 0 isAgg3 rfl) (tQ rfl hS (fun w hm => yL hm 0 isAgg57 rfl) (tO (tY rfl (yl isAgg3 (hm.old_cell hbf0 rfl) rfl) (tAs hS (gg fun aA aD aB => ?_))))))))))))
  obtain ⟨aF, aG, aH, he⟩ := idx_form h1 aB
  subst he
  refine tP rfl (fun w => yI st_57 aD (idx_lt aB) rfl) (tO (tY rfl (yl isAgg3 ((flat_cells (cs := [(nV aA)]) (hm.now h1) aB rfl).cell (j := 0) rfl) rfl) (tAs hS (tO (tf rfl rfl (fun a hf => e_build (vs := #[(0, (nV f.to)), (1, (nV aA))]) (cs := [(nV f.to), (nV aA)]) et_57 hf hm rfl rfl (by kernel_rfl) rfl rfl) ?_)))))
  rintro _ w ⟨aE, rfl, hm⟩
  replace hm := hm.lit (xs := ([f.to, aA] : List Int)) 0 rfl rfl rfl rfl
  exact tAn rfl (tP rfl (fun w => yA rfl) (tE (gRt (gr1 results79 rfl ⟨(sV aE 0 2 2), rfl, hm.pk [0] rfl rfl⟩))))
theorem slices_IndexFunc_S_S_int_S_int_ok (w0 : World) (s_ : List (List Int)) (v1 : Value) (h1 : GT.rep (hp w0) [v1] s_) (f : (List Int) → Option Bool) (fv1 : Value) (hfn1 : ∀ (w : World) (y0 : List Int) (z1 : Value) (_ : GT.rep (hp w) [z1] y0) (r : Bool), Below w0.heap.size w0 w → f y0 = some r → FnOk Tryz.prog fv1 [z1] w (fun v w' => v = (.bool (r)) ∧ Below w.heap.size w w')) :
    ConM Tryz.prog 50 [v1, fv1] w0 (slices_IndexFunc_S_S_int_S_int s_ f) fun r v w' => v = (nV r) ∧ Below w0.heap.size w0 w' := by
  unfold slices_IndexFunc_S_S_int_S_int
  refine gcon func50 rfl fun r => ?_
  have hm := Mem.start w0
  refine gS (gR (gA rfl (gE (gS (gS (gR (gM rfl ?_)))))))
  obtain ⟨aH, aI, rfl, aR⟩ := ro_slice h1
  refine gY (yV st_64 rfl) (gM rfl (gE (gBk (gNf hm (fun aA aF => [(0, (.slice aH s_.length aI)), (1, fv1), (7, (nV ((s_.length : Int)))), (8, (nV aA))]) (fun aA aF => []) [] rfl ?_ ?_))))
  ·
   repeat clear hm
   intro aS aJ aA aF w hm aT aV aW aK
   refine gS (gR (gB rfl (gE (gS (go _ 9 rfl (decide_eq_true (by omega)) (gct rfl (gSk (gS (gBk (gS (gR (gM rfl (gA rfl (gE (gS (gR (gM rfl (gM rfl (gM rfl (gg fun aG aL aC => ?_))))))))))))))))))))
   obtain ⟨aM, aN, aX, he⟩ := idx_form' h1 aC
   obtain ⟨rfl, _, rfl⟩ := sl3 he
   obtain ⟨_, _, aD, aO⟩ := ro_get' h1 aC
   have aB := aO
   obtain ⟨aE, rfl, -⟩ := id aB
   replace aB : GT.rep (hp w0) [aE] aG := aB
   replace aD : CellsAt (hp w0) aM (aN + (aA).toNat * 1) [aE] := aD
   refine gI st_64 aL (idx_lt aC) rfl (gY (yl isAgg57 ((aD.mono hm.lez).cell (j := 0) rfl) rfl) (gb fun aY aP => gf rfl (fun a hf => e_callv hf rfl rfl rfl (hfn1 _ aG aE (hm.now aB) _ hm.below aP)) ?_))
   rintro aZ w ⟨rfl, hB⟩
   replace hm := hm.below' hB; clear hB
   refine gE (gs 16 rfl (fun aQ => ?_) fun aQ => ?_)
   ·
    exact gct rfl (gS (gR (gM rfl (gA rfl (gE (gRt (gLr aK aJ (gr1 results50 rfl ⟨rfl, hm.below⟩))))))))
   exact gcf rfl (gSk (gR (gP (by omega) (by omega) rfl (gM rfl (gE (gze hm [] rfl))))))
  repeat clear hm
  intro aa ab w hm ac ae
  exact gS (gR (gB rfl (gE (gS (go _ 9 rfl (decide_eq_false (by omega)) (gcf rfl (gXt (gHh (gS (gR (gA rfl (gE (gRt (gr1 results50 rfl ⟨rfl, hm.below⟩))))))))))))))
theorem slices_ContainsFunc_S_S_int_S_int_ok (w0 : World) (s_ : List (List Int)) (v1 : Value) (h1 : GT.rep (hp w0) [v1] s_) (f : (List Int) → Option Bool) (fv1 : Value) (hfn1 : ∀ (w : World) (y0 : List Int) (z1 : Value) (_ : GT.rep (hp w) [z1] y0) (r : Bool), Below w0.heap.size w0 w → f y0 = some r → FnOk Tryz.prog fv1 [z1] w (fun v w' => v = (.bool (r)) ∧ Below w.heap.size w w')) :
    ConM Tryz.prog 197 [v1, fv1] w0 (slices_ContainsFunc_S_S_int_S_int s_ f) fun r v w' => v = (.bool (r)) ∧ Below w0.heap.size w0 w' := by
  unfold slices_ContainsFunc_S_S_int_S_int
  refine gcon func197 rfl fun r => ?_
  have hm := Mem.start w0
  exact gS (gR (gA rfl (gE (gS (gR (gM rfl (gM rfl (gC hm rfl call50 (slices_IndexFunc_S_S_int_S_int_ok _ s_ v1 (hm.now h1) f fv1 (fun w y0 aA aB r hB hq => hfn1 w y0 aA aB r (hm.below.trans (hB.mono hm.below.size)) hq)) fun aC aD w hm => gB rfl (gA rfl (gE (gRt (gr1 results197 rfl ⟨rfl, hm.below⟩))))))))))))
theorem impl_areMoves_1_ok (w0 : World) (m : List Int) (v1 : Value) (h1 : GT.rep (hp w0) [v1] m) :
    ConM Tryz.prog 251 [v1] w0 (impl_areMoves_1 m) fun r v w' => v = (.bool (r)) ∧ Below w0.heap.size w0 w' := by
  unfold impl_areMoves_1
  refine gcon func251 rfl fun r => ?_
  have hm := Mem.start w0
  refine gS (gR (gA rfl (gE (gS (gJ hm (fun aA => [(2, (.bool (aA)))]) (fun aA => []) (fun aA => ?_) ?_)))))
  ·
   refine gR (gM rfl ?_)
   obtain ⟨aJ, aK, rfl, aL⟩ := ro_slice h1
   refine gY (yV st_57 rfl) (gB rfl (gM rfl (gsd 6 rfl (fun aF => ?_) fun aF => ?_)))
   ·
    exact gO rfl (gO rfl (gO rfl (gO rfl (gO rfl (gKt rfl (gM rfl (gO rfl (gO rfl (gO rfl (gO rfl (gO rfl (gKt rfl (gA rfl (gE (gz hm [] rfl)))))))))))))))
   refine gM rfl (gg fun aC aG aB => ?_)
   obtain ⟨aM, aN, aO, he⟩ := idx_form h1 aB
   obtain ⟨rfl, _, rfl⟩ := sl3 he
   refine gI st_57 aG (idx_lt aB) rfl (gY (yl isAgg3 ((flat_cells (cs := [(nV aC)]) (hm.now h1) aB rfl).cell (j := 0) rfl) rfl) (gC hm rfl call43 (impl_within_ok _ aC 0 299) fun aP aQ w hm => gN rfl (gKf rfl (gM rfl (gsn 13 rfl (fun aH => ?_) fun aH => ?_)))))
   ·
    exact gO rfl (gO rfl (gO rfl (gO rfl (gO rfl (gKt rfl (gA rfl (gE (gz hm [] rfl))))))))
   exact gM rfl (gg fun aD aI aE => gI st_57 aI (idx_lt aE) rfl (gY (yl isAgg3 ((flat_cells (cs := [(nV aD)]) (hm.now h1) aE rfl).cell (j := 0) rfl) rfl) (gC hm rfl call43 (impl_within_ok _ aD 0 299) fun aR aS w hm => gN rfl (gKf rfl (gA rfl (gE (gz hm [] rfl)))))))
  repeat clear hm
  intro aA w hm
  exact gRt (gr1 results251 rfl ⟨rfl, hm.below⟩)
theorem impl_areMoves_ok (w0 : World) (list : List (List Int)) (v1 : Value) (h1 : GT.rep (hp w0) [v1] list) :
    ConM Tryz.prog 194 [v1] w0 (impl_areMoves list) fun r v w' => v = (.bool (r)) ∧ Below w0.heap.size w0 w' := by
  unfold impl_areMoves
  refine gcon func194 rfl fun r => ?_
  have hm := Mem.start w0
  refine gS (gR (gA rfl (gE (gS (gJ hm (fun aA => [(2, (.bool (aA)))]) (fun aA => []) (fun aA => ?_) ?_)))))
  ·
   refine gR (gM rfl ?_)
   obtain ⟨aB, aC, rfl, aG⟩ := ro_slice h1
   refine gY (yV st_64 rfl) (gB rfl (gM rfl (gsd 6 rfl (fun aD => ?_) fun aD => ?_)))
   ·
    exact gM rfl (gC hm rfl call197 (slices_ContainsFunc_S_S_int_S_int_ok _ list (.slice aB list.length aC) (hm.now h1) (fun y0 => impl_areMoves_1 y0) (.func (.func 251) #[] #[]) (fun w y0 aE aF r hB hq => ⟨251, [], rfl, call251, impl_areMoves_1_ok w y0 aE aF  r hq⟩)) fun aH aI w hm => gN rfl (gKt rfl (gA rfl (gE (gz hm [] rfl)))))
   exact gO rfl (gO rfl (gO rfl (gKf rfl (gA rfl (gE (gz hm [] rfl))))))
  repeat clear hm
  intro aA w hm
  exact gRt (gr1 results194 rfl ⟨rfl, hm.below⟩)
theorem impl_namesReg_1_ok (w0 : World) (m : List Int) (v1 : Value) (h1 : GT.rep (hp w0) [v1] m) (c0_ : Int) (bf0 : Nat) (hbf0 : w0.heap[bf0]? = some (.cells ([(nV c0_)] : List Value).toArray 3 (0, 0))) :
    ConM Tryz.prog 252 [v1, (pV bf0)] w0 (impl_namesReg_1 m c0_) fun r v w' => v = (.bool (r)) ∧ Below w0.heap.size w0 w' := by
  unfold impl_namesReg_1
  refine gcon func252 rfl fun r => ?_
  have hm := Mem.start w0
  exact gS (gR (gA rfl (gE (gS (gR (gM rfl (gY (yl isAgg3 (hm.old_cell hbf0 rfl) rfl) (gC hm rfl call125 (slices_Contains_S_int_int_ok _ m v1 (hm.now h1) c0_) fun aA aB w hm => gA rfl (gE (gRt (gr1 results252 rfl ⟨rfl, hm.below⟩)))))))))))
theorem impl_namesReg_ok (w0 : World) (list : List (List Int)) (v1 : Value) (h1 : GT.rep (hp w0) [v1] list) (r_ : Int) :
    ConM Tryz.prog 195 [v1, (nV r_)] w0 (impl_namesReg list r_) fun r v w' => v = (.bool (r)) ∧ Below w0.heap.size w0 w' := by
  unfold impl_namesReg
  refine gcon func195 rfl fun r => ?_
  have hm := Mem.start w0
  exact gS (gR (gBx hm rfl fun aA w hm => gA rfl (gE (gS (gR (gM rfl (gY (yU rfl) (gC hm rfl call197 (slices_ContainsFunc_S_S_int_S_int_ok _ list v1 (hm.now h1) (fun y0 => impl_namesReg_1 y0 r_) (.func (.func 252) #[] #[(pV aA)]) (fun w y0 aB aC r hB hq => ⟨252, [(pV aA)], rfl, call252, impl_namesReg_1_ok w y0 aB aC r_ aA (hm.blk_later 0 rfl hB) r hq⟩)) fun aD aE w hm => gA rfl (gE (gRt (gr1 results195 rfl ⟨rfl, hm.below⟩)))))))))))
theorem impl_OrderMoves_1_1_ok (w0 : World) (o_ : List Int) (v1 : Value) (h1 : GT.rep (hp w0) [v1] o_) (c0_ : List Int) (v2 : Value) (h2 : GT.rep (hp w0) [v2] c0_) (bf0 : Nat) (hbf0 : w0.heap[bf0]? = some (.cells ([v2] : List Value).toArray 57 (0, 0))) :
    ConM Tryz.prog 198 [v1, (pV bf0)] w0 (impl_OrderMoves_1_1 o_ c0_) fun r v w' => v = (.bool (r)) ∧ Below w0.heap.size w0 w' := by
  unfold impl_OrderMoves_1_1
  refine gcon func198 rfl fun r => ?_
  have hm := Mem.start w0
  refine gS (gR (gA rfl (gE (gS (gW (.p 0 (.p 1 (.q 2 (.e 3 (.p 4 (.e 5 (.p 6 (.p 7 .fin)) .nil)) .nil)))) [3, 5] [0, 1, 4, 6, 7] hm [] [] rfl mxo (by kernel_rfl) (fun _ _ _ h => h.2) fun w hm hS => tP rfl (fun w => yM rfl) (gg fun aC aD aA => ?_))))))
  obtain ⟨aG, aH, aI, he⟩ := idx_form h1 aA
  subst he
  refine tP rfl (fun w => yI st_57 aD (idx_lt aA) rfl) (tQ rfl hS (fun w hm => yl isAgg3 ((flat_cells (cs := [(nV aC)]) (hm.now h1) aA rfl).cell (j := 0) rfl) rfl) (tO (tY rfl (yl isAgg57 (hm.old_cell hbf0 rfl) rfl) (tAs hS (gg fun aE aF aB => ?_)))))
  obtain ⟨aJ, aK, aL, he⟩ := idx_form h2 aB
  subst he
  exact tP rfl (fun w => yI st_57 aF (idx_lt aB) rfl) (tO (tY rfl (yl isAgg3 ((flat_cells (cs := [(nV aE)]) (hm.now h2) aB rfl).cell (j := 0) rfl) rfl) (tAs hS (tP rfl (fun w => yB rfl) (tP rfl (fun w => yA rfl) (tE (gRt (gr1 results198 rfl ⟨rfl, hm.below⟩))))))))
theorem impl_OrderMoves_1_ok (w0 : World) (m : List Int) (v1 : Value) (h1 : GT.rep (hp w0) [v1] m) (c0_ : List (List Int)) (v2 : Value) (h2 : GT.rep (hp w0) [v2] c0_) (bf0 : Nat) (hbf0 : w0.heap[bf0]? = some (.cells ([v2] : List Value).toArray 64 (0, 0))) :
    ConM Tryz.prog 196 [v1, (pV bf0)] w0 (impl_OrderMoves_1 m c0_) fun r v w' => v = (.bool (r)) ∧ Below w0.heap.size w0 w' := by
  unfold impl_OrderMoves_1
  refine gcon func196 rfl fun r => ?_
  have hm := Mem.start w0
  refine gS (gR ?_)
  obtain ⟨aB, aC, rfl, aF⟩ := ro_slice h1
  exact gBx hm rfl fun aA w hm => gA rfl (gE (gS (gR (gY (yl isAgg64 (hm.old_cell hbf0 rfl) rfl) (gY (yU rfl) (gC hm rfl call197 (slices_ContainsFunc_S_S_int_S_int_ok _ c0_ v2 (hm.now h2) (fun y0 => impl_OrderMoves_1_1 y0 m) (.func (.func 198) #[] #[(pV aA)]) (fun w y0 aD aE r hB hq => ⟨198, [(pV aA)], rfl, call198, impl_OrderMoves_1_1_ok w y0 aD aE m (.slice aB m.length aC) (rep_later (hm.now h1) hB) aA (hm.blk_later 0 rfl hB) r hq⟩)) fun aG aH w hm => gN rfl (gA rfl (gE (gRt (gr1 results196 rfl ⟨rfl, hm.below⟩))))))))))
theorem slices_Delete_S_S_int_S_int_ok (w0 : World) (hz : Heap) {b off len cap : Nat} {ys zs : List (List Int)} {i j : Int} (hm : Mem w0 hz w0 [gap b off len cap ys zs]) (h0 : 0 ≤ i) (hi : i.toNat = ys.length) (hj : j = i + 1) (hl : ys.length + zs.length + 1 = len) :
    ConM Tryz.prog 199 [(sV b off len cap), (nV i), (nV j)] w0 (slices_Delete_S_S_int_S_int ys zs) fun r v w' => Mem w0 hz w' [ow [v] r] := by
  unfold slices_Delete_S_S_int_S_int
  refine gcon func199 rfl fun r => ?_
  obtain ⟨⟨_, hcap⟩, hmax⟩ := hm.gap_max 0 rfl
  subst hj
  refine gS (gR (gA rfl (gE (gS (gR (gM rfl (gM rfl (gM rfl (gM rfl (gY (yV st_64 rfl) (gY (yG rfl (y_subCI (α := List Int) st_64 rfl rfl rfl rfl rfl h0 (by omega) (by omega) hcap rfl)) (gE ?_))))))))))))
  refine gS (gS (gR (gM rfl (gM rfl (gB rfl (gE (go _ 16 rfl (decide_eq_false (by omega)) (gcf rfl (gSk ?_)))))))))
  refine gS (gR (gM rfl (gY (yV st_64 rfl) (gA rfl (gE ?_)))))
  refine gS (gW (.p 0 (.p 1 (.p 2 (.p 3 (.p 4 (.p 5 (.e 6 (.p 7 .fin) .nil))))))) [] [0, 1, 2, 3, 4, 5, 7] hm [0] [gap b off len cap ys zs] rfl mxo (by kernel_rfl) (fun _ _ _ h => h.2) fun w hm hS => tP rfl (fun w => yM rfl) (tP rfl (fun w => yM rfl) (tP rfl (fun w => yG rfl (y_subHI (α := List Int) (n := ys.length) st_64 rfl rfl rfl h0 (by omega) hcap hi.symm)) (tP rfl (fun w => yM rfl) (tP rfl (fun w => yM rfl) (tP rfl (fun w => yG rfl (y_subLI (α := List Int) (n := len - zs.length) st_64 rfl rfl rfl (by omega) (by omega) hcap (by omega))) (tO (gb fun q hq => tf rfl rfl (fun a hf => e_delG (ys := ys) (zs := zs) 0 et_64 hf hm rfl rfl rfl rfl rfl) ?_))))))))
  rintro _ w ⟨rfl, hm⟩
  refine tAn rfl (tP rfl (fun w => yA rfl) (tE ?_))
  refine gS (gR (gM rfl (gM rfl (gY (yV st_64 rfl) (gM rfl (gY (yG rfl (y_subX (α := List Int) (m := (ys ++ zs).length) (n := (ys ++ zs).length) (len := len) st_64 rfl rfl rfl rfl (by simp; omega) hcap)) (gf0 rfl (fun a hf => e_clearS (α := List Int) 0 hf hm rfl rfl underlying64 zeroValue57 rfl (fun u hu => by simp [Value.cells] at hu; subst hu; rfl) rfl) ?_)))))))
  rintro _ w ⟨rfl, hm⟩
  obtain ⟨_, rfl⟩ := appM_some.1 hq
  replace hm := hm.gap_shut 0 rfl
  exact gE (gS (gR (gM rfl (gA rfl (gE (gRt (gr1 results199 rfl hm)))))))
end Go.Proofs.YtcfdnpmajkhokaaGreat
