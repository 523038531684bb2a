/- A part of the proof of FnExactColourUnitSaid. -/
import Derived.Test.YtabgclojkbijbaaGreatCoWalksA
namespace Go.Proofs.YtabgclojkbijbaaGreat
open Go Go.Wk Go.RowKit
set_option maxRecDepth 4000
set_option maxHeartbeats 4000000
open Tryz
theorem spec_l7Each_ok (w0 : World) (c_ : Code_) (v1 : Value) (h1 : GT.rep (hp w0) [v1] c_.blocks) (to : List Int) (v2 : Value) (h2 : GT.rep (hp w0) [v2] to) :
    ConM Tryz.prog 91 [(.agg #[nV c_.params, nV c_.regs, v1]), v2] w0 (spec_l7Each c_ to) fun r v w' => ∃ (x1 : Value), v = (.agg #[nV r.params, nV r.regs, x1]) ∧ Mem w0 (hp w0) w' [ow [x1] r.blocks] := by
  unfold spec_l7Each
  refine gcon func91 rfl fun r => ?_
  have hm := Mem.start w0
  refine gS (gR (gBx hm rfl fun cX w hm => gAl hm zeroValue49 rfl fun aI w hm => gE (gS (gR (gY (yn (hm.blk_at 1 rfl) isAgg49 sizeOf49 rfl) (gCg rfl call106 (spec_l7Copy_ok _ c_ v1 (hm.now h1)) ?_))))))
  rintro aA cY cZ w ⟨c5, rfl, hB⟩
  replace hm := hm.give hB; clear hB
  refine gAl hm zeroValue49 rfl fun aJ w hm => gSN hm 0 sizeOf49 (one_cons rfl (one_cons rfl (one_cons (rep_one (hm.ow_rep 1 rfl)) one_nil))) rfl fun w hm => gE (gS (gS (gR (gA rfl (gE ?_)))))
  obtain ⟨aw, aE, rfl, c6⟩ := ro_slice (hm.ow_rep 1 rfl)
  refine gBk (gNf hm (fun aH aO => [(1, v2), (4, (pV aI)), (5, (pV aJ)), (6, (nV aH))]) (fun aH aO => [blk aI [nV 0, nV 0, .slice none 0 0] 49, blk aJ [nV aA.params, nV aA.regs, .slice aw aA.blocks.length aE] 49, ow [.slice aw aA.blocks.length aE] aO]) [2, 0, 1] rfl ?_ ?_)
  ·repeat clear hm
   intro _ _ aH aO w hm c7 c8 c9 _
   refine gS (gS (gR (gM rfl (gF fo_49_2 rfl (gL hm 1 isAgg47 rfl ?_)))))
   have ca := rep_len (hm.ow_rep 2 rfl)
   refine gY (yV st_47 rfl) (gB rfl (gE (go _ 18 rfl (decide_eq_true (by omega)) (gct rfl (gSk (gS (gJ hm (fun ay => [(1, v2), (4, (pV aI)), (5, (pV aJ)), (6, (nV aH))]) (fun ay => [blk aI [nV 0, nV 0, .slice none 0 0] 49, blk aJ [nV aA.params, nV aA.regs, .slice aw aA.blocks.length aE] 49, ow [.slice aw aA.blocks.length aE] ay]) (fun ay => ?_) ?_)))))))
   ·refine gBk (gS (gR (gF fo_49_2 rfl (gL hm 1 isAgg47 rfl (gM rfl (gg fun aB bv an => ?_))))))
    obtain ⟨aC, aD, cb, he⟩ := idx_form' (hm.ow_rep 2 rfl) an
    obtain ⟨rfl, _, rfl⟩ := sl3 he
    obtain ⟨cd, ce, cf, cg, ci, cj, ck⟩ := rk_Block_ (hm.ow_rep 2 rfl) an
    have hL2_1 := rep_slice_len (hm.ow_rep 2 rfl)
    refine gI st_47 bv (idx_lt2 an hL2_1) rfl (gA rfl (gE ?_))
    obtain ⟨aM, aN, aG, hm⟩ := pin_Block_ hm 2 rfl an
    refine gS (gS (gR (gA rfl (gE (gJ hm (fun aT => [(1, v2), (4, (pV aI)), (5, (pV aJ)), (6, (nV aH)), (7, (.pointer (some ⟨aC, aD + (aH).toNat * 5, none⟩)))]) (fun aT => [blk aI [nV 0, nV 0, .slice none 0 0] 49, blk aJ [nV aA.params, nV aA.regs, sV aC aD aA.blocks.length aE] 49, holeE aC aD aA.blocks.length aE (aO : List Block_) (aH).toNat [aM, aN, nV aB.jump, nV aB.on, aG], ow [aM] aT, ow [aN] aB.ins, ow [aG] aB.next_]) (fun aT => ?_) ?_)))))
    ·refine gBk (gMf hm (fun aL => [(1, v2), (4, (pV aI)), (5, (pV aJ)), (6, (nV aH)), (7, (.pointer (some ⟨aC, aD + (aH).toNat * 5, none⟩))), (8, (nV aL.2))]) (fun aL => [blk aI [nV 0, nV 0, .slice none 0 0] 49, blk aJ [nV aA.params, nV aA.regs, sV aC aD aA.blocks.length aE] 49, holeE aC aD aA.blocks.length aE (aO : List Block_) (aH).toNat [aM, aN, nV aB.jump, nV aB.on, aG], ow [aM] aL.1, ow [aN] aB.ins, ow [aG] aB.next_]) [3, 4, 5, 2, 1, 0] rfl ?_)
     repeat clear hm
     intro cl bx aL w hm cm bz
     refine gS (gS (gR (gM rfl (gM rfl (gY (yG rfl (y_nilptr rfl rfl)) (gF fo_63_0 rfl (gY (yl isAgg60 ((hm.holeE_at 2 rfl).cell (j := 0) rfl) rfl) ?_)))))))
     obtain ⟨cn, aV, rfl, co⟩ := ro_slice (hm.ow_rep 3 rfl)
     refine gY (yV st_60 rfl) (gB rfl (gE (gsd 31 rfl (fun cA => ?_) fun cA => ?_)))
     ·refine gct rfl (gSk (gS (gBk (gS (gg fun al bV ax => ?_)))))
      obtain ⟨aW, aX, cq, he⟩ := idx_form' (hm.ow_rep 3 rfl) ax
      obtain ⟨rfl, _, rfl⟩ := sl3 he
      obtain ⟨ao, hm⟩ := pin_Phi_ hm 3 rfl ax
      refine gW (.p 0 (.p 1 (.p 2 (.p 4 (.p 5 (.p 6 (.p 7 (.p 8 (.p 10 (.q 3 (.e 9 (.p 11 (.p 12 (.e 13 (.p 14 (.e 15 (.p 16 (.p 17 (.e 18 .fin .nil))) .nil)) .nil))) .nil))))))))))) [9, 13, 15] [0, 1, 2, 4, 5, 6, 7, 8, 10, 11, 12, 14, 16, 17] hm [0, 1, 2, 3, 4, 5, 6] [ow [ao] al.args, blk aI [nV 0, nV 0, .slice none 0 0] 49, blk aJ [nV aA.params, nV aA.regs, sV aC aD aA.blocks.length aE] 49, holeE aC aD aA.blocks.length aE (aO : List Block_) (aH).toNat [sV aW aX aL.1.length aV, aN, nV aB.jump, nV aB.on, aG], holeE aW aX aL.1.length aV (aL.1 : List Phi_) (aL.2).toNat [nV al.to, ao], ow [aN] aB.ins, ow [aG] aB.next_] rfl mxo (by kernel_rfl) (fun _ _ _ h => h.2) fun w hm hS => tP rfl (fun w => yM rfl) (tP rfl (fun w => yG rfl (y_nilptr rfl rfl)) (tP rfl (fun w => yF fo_63_0 rfl) (tP rfl (fun w => yM rfl) (tP rfl (fun w => yM rfl) (tP rfl (fun w => yM rfl) (tP rfl (fun w => yG rfl (y_nilptr rfl rfl)) (tP rfl (fun w => yF fo_63_0 rfl) (tP rfl (fun w => yM rfl) (tQ rfl hS (fun w hm => yl isAgg60 ((hm.holeE_at 3 rfl).cell (j := 0) rfl) rfl) (tO (tY rfl (yl isAgg60 ((hm.holeE_at 3 rfl).cell (j := 0) rfl) rfl) (tAs hS ?_))))))))))))
      have hL4_1 := hm.holeE_len 4 rfl
      refine tP rfl (fun w => yI st_60 bV (idx_lt2 ax hL4_1) rfl) (tP rfl (fun w => yF fo_127_0 rfl) (tO (tY rfl (yl isAgg3 ((hm.holeE_at 4 rfl).cell (j := 0) rfl) rfl) (tAs hS (gg fun af cB bK => ?_)))))
      obtain ⟨bL, bM, bN, he⟩ := idx_form h2 bK
      subst he
      refine tP rfl (fun w => yI st_43 cB (idx_lt bK) rfl) (tO (tY rfl (yl isAgg3 ((flat_cells (cs := [nV af]) (hm.now h2) bK rfl).cell (j := 0) rfl) rfl) (tAs hS ?_)))
      have hL4_2 := hm.holeE_len 4 rfl
      refine tP rfl (fun w => yI st_60 bV (idx_lt2 ax hL4_2) rfl) (tP rfl (fun w => yF fo_127_0 rfl) (tO ?_))
      have cC : ∀ u ∈ ([nV af] : List Value), u.oneCell' = true := (one_cons rfl one_nil)
      refine tf0 rfl rfl (fun a hf => e_storeH (j := 0) (vs := [nV af]) 4 hf hm rfl rfl rfl sizeOf3 rfl rfl rfl cC rfl) ?_
      rintro _ w hm
      replace hm : Mem w0 (hp w0) _ [ow [ao] al.args, blk aI [nV 0, nV 0, .slice none 0 0] 49, blk aJ [nV aA.params, nV aA.regs, sV aC aD aA.blocks.length aE] 49, holeE aC aD aA.blocks.length aE (aO : List Block_) (aH).toNat [sV aW aX aL.1.length aV, aN, nV aB.jump, nV aB.on, aG], holeE aW aX aL.1.length aV (aL.1 : List Phi_) (aL.2).toNat [nV af, ao], ow [aN] aB.ins, ow [aG] aB.next_] := hm
      refine tAn rfl (tE (gS ?_))
      replace hm : Mem w0 (hp w0) _ [ow [nV af, ao] ((⟨af, al.args⟩ : Phi_) : Phi_), blk aI [nV 0, nV 0, .slice none 0 0] 49, blk aJ [nV aA.params, nV aA.regs, sV aC aD aA.blocks.length aE] 49, holeE aC aD aA.blocks.length aE (aO : List Block_) (aH).toNat [sV aW aX aL.1.length aV, aN, nV aB.jump, nV aB.on, aG], holeE aW aX aL.1.length aV (aL.1 : List Phi_) (aL.2).toNat [nV af, ao], ow [aN] aB.ins, ow [aG] aB.next_] := mk_Phi_ af hm 0 rfl
      replace hm := (hm.shutE (y := ((⟨af, al.args⟩ : Phi_) : Phi_)) 4 0 (by decide) rfl rfl).pk (L' := [blk aI [nV 0, nV 0, .slice none 0 0] 49, blk aJ [nV aA.params, nV aA.regs, sV aC aD aA.blocks.length aE] 49, holeE aC aD aA.blocks.length aE (aO : List Block_) (aH).toNat [sV aW aX aL.1.length aV, aN, nV aB.jump, nV aB.on, aG], ow [sV aW aX aL.1.length aV] (aL.1.set (aL.2).toNat (⟨af, al.args⟩ : Phi_)), ow [aN] aB.ins, ow [aG] aB.next_]) [1, 2, 3, 4, 5, 6] rfl rfl
      have cr := List.getElem?_set_self (a := ((⟨af, al.args⟩ : Phi_) : Phi_)) (idx_lt ax)
      refine gR (gA rfl (gE (gJ hm (fun az => [(1, (sV bL bM to.length bN)), (4, (pV aI)), (5, (pV aJ)), (6, (nV aH)), (7, (.pointer (some ⟨aC, aD + (aH).toNat * 5, none⟩))), (8, (nV aL.2))]) (fun az => [blk aI [nV 0, nV 0, .slice none 0 0] 49, blk aJ [nV aA.params, nV aA.regs, sV aC aD aA.blocks.length aE] 49, holeE aC aD aA.blocks.length aE (aO : List Block_) (aH).toNat [sV aW aX aL.1.length aV, aN, nV aB.jump, nV aB.on, aG], ow [sV aW aX aL.1.length aV] az, ow [aN] aB.ins, ow [aG] aB.next_]) (fun az => ?_) ?_)))
      ·refine gBk (gMf hm (fun aZ => [(1, (sV bL bM to.length bN)), (4, (pV aI)), (5, (pV aJ)), (6, (nV aH)), (7, (.pointer (some ⟨aC, aD + (aH).toNat * 5, none⟩))), (8, (nV aL.2)), (9, (nV aZ.2))]) (fun aZ => [blk aI [nV 0, nV 0, .slice none 0 0] 49, blk aJ [nV aA.params, nV aA.regs, sV aC aD aA.blocks.length aE] 49, holeE aC aD aA.blocks.length aE (aO : List Block_) (aH).toNat [sV aW aX aL.1.length aV, aN, nV aB.jump, nV aB.on, aG], ow [sV aW aX aL.1.length aV] aZ.1, ow [aN] aB.ins, ow [aG] aB.next_]) [0, 1, 2, 3, 4, 5] rfl ?_)
       repeat clear hm
       intro ct cD aZ w hm cu cE
       refine gS (gS (gR (gM rfl (gM rfl (gY (yG rfl (y_nilptr rfl rfl)) (gF fo_63_0 rfl (gY (yl isAgg60 ((hm.holeE_at 2 rfl).cell (j := 0) rfl) rfl) (gM rfl (gg fun aP bO aj => ?_)))))))))
       obtain ⟨cv, cw, cx⟩ := rk_Phi_ (hm.ow_rep 3 rfl) aj
       have hL6_1 := rep_slice_len (hm.ow_rep 3 rfl)
       refine gI st_60 bO (idx_lt2 aj hL6_1) rfl (gF fo_127_1 rfl ?_)
       obtain ⟨cy, hm⟩ := pin_Phi_ hm 3 rfl aj
       refine gY (yl isAgg43 ((hm.holeE_at 4 rfl).cell (j := 1) rfl) rfl) ?_
       obtain ⟨bA, bB, rfl, cz⟩ := ro_slice (hm.ow_rep 0 rfl)
       refine gY (yV st_43 rfl) (gB rfl (gE (gsd 62 rfl (fun cF => ?_) fun cF => ?_)))
       ·refine gct rfl (gSk (gS (gBk ?_)))
        replace hm : Mem w0 (hp w0) _ [ow [nV aP.to, .slice bA aP.args.length bB] (aP : Phi_), blk aI [nV 0, nV 0, .slice none 0 0] 49, blk aJ [nV aA.params, nV aA.regs, sV aC aD aA.blocks.length aE] 49, holeE aC aD aA.blocks.length aE (aO : List Block_) (aH).toNat [sV aW aX aL.1.length aV, aN, nV aB.jump, nV aB.on, aG], holeE aW aX aL.1.length aV (aZ.1 : List Phi_) (aL.2).toNat [nV aP.to, .slice bA aP.args.length bB], ow [aN] aB.ins, ow [aG] aB.next_] := mk_Phi_ aP.to hm 0 rfl
        replace hm := (hm.shutE (y := (aP : Phi_)) 4 0 (by decide) rfl rfl).pk (L' := [blk aI [nV 0, nV 0, .slice none 0 0] 49, blk aJ [nV aA.params, nV aA.regs, sV aC aD aA.blocks.length aE] 49, holeE aC aD aA.blocks.length aE (aO : List Block_) (aH).toNat [sV aW aX aL.1.length aV, aN, nV aB.jump, nV aB.on, aG], ow [sV aW aX aL.1.length aV] (aZ.1.set (aL.2).toNat aP), ow [aN] aB.ins, ow [aG] aB.next_]) [1, 2, 3, 4, 5, 6] rfl rfl
        rw [set_same aj] at hm
        obtain ⟨bW, hm⟩ := pin_Phi_ hm 3 rfl aj
        refine gJ hm (fun bC => [(1, (sV bL bM to.length bN)), (4, (pV aI)), (5, (pV aJ)), (6, (nV aH)), (7, (.pointer (some ⟨aC, aD + (aH).toNat * 5, none⟩))), (8, (nV aL.2)), (9, (nV aZ.2))]) (fun bC => [blk aI [nV 0, nV 0, .slice none 0 0] 49, blk aJ [nV aA.params, nV aA.regs, sV aC aD aA.blocks.length aE] 49, holeE aC aD aA.blocks.length aE (aO : List Block_) (aH).toNat [sV aW aX aL.1.length aV, aN, nV aB.jump, nV aB.on, aG], ow [sV aW aX aL.1.length aV] bC, ow [aN] aB.ins, ow [aG] aB.next_]) (fun bC => ?_) ?_
        ·refine gW (.p 0 (.p 1 (.p 2 (.p 4 (.p 8 (.p 9 (.p 10 (.p 11 (.p 12 (.p 14 (.p 18 (.q 3 (.p 5 (.p 6 (.q 13 (.p 15 (.p 16 (.e 7 (.e 17 (.p 19 (.e 20 (.p 21 (.e 22 (.p 23 (.e 24 .fin .nil)) .nil)) .nil)) .nil) (.e 17 (.p 19 (.q 20 (.p 21 (.q 22 (.e 7 (.p 23 (.e 24 .fin .nil)) .nil))))) .nil))))))))))))))))))) [3, 7, 13, 17, 20, 22] [0, 1, 2, 4, 5, 6, 8, 9, 10, 11, 12, 14, 15, 16, 18, 19, 21, 23] hm [0, 1, 2, 3, 4, 5, 6] [ow [bW] aP.args, blk aI [nV 0, nV 0, .slice none 0 0] 49, blk aJ [nV aA.params, nV aA.regs, sV aC aD aA.blocks.length aE] 49, holeE aC aD aA.blocks.length aE (aO : List Block_) (aH).toNat [sV aW aX aL.1.length aV, aN, nV aB.jump, nV aB.on, aG], holeE aW aX aL.1.length aV (aZ.1 : List Phi_) (aL.2).toNat [nV aP.to, bW], ow [aN] aB.ins, ow [aG] aB.next_] rfl mxo (by kernel_rfl) (fun _ _ _ h => h.2) fun w hm hS => tP rfl (fun w => yM rfl) (tP rfl (fun w => yG rfl (y_nilptr rfl rfl)) (tP rfl (fun w => yF fo_63_0 rfl) (tP rfl (fun w => yM rfl) (tP rfl (fun w => yM rfl) (tP rfl (fun w => yM rfl) (tP rfl (fun w => yM rfl) (tP rfl (fun w => yG rfl (y_nilptr rfl rfl)) (tP rfl (fun w => yF fo_63_0 rfl) (tP rfl (fun w => yM rfl) (tP rfl (fun w => yM rfl) (tQ rfl hS (fun w hm => yl isAgg60 ((hm.holeE_at 3 rfl).cell (j := 0) rfl) rfl) ?_)))))))))))
         have hL7_1 := hm.holeE_len 4 rfl
         refine tP rfl (fun w => yI st_60 bO (idx_lt2 aj hL7_1) rfl) (tP rfl (fun w => yF fo_127_1 rfl) (tQ rfl hS (fun w hm => yl isAgg60 ((hm.holeE_at 3 rfl).cell (j := 0) rfl) rfl) ?_))
         have hL7_2 := hm.holeE_len 4 rfl
         refine tP rfl (fun w => yI st_60 bO (idx_lt2 aj hL7_2) rfl) (tP rfl (fun w => yF fo_127_1 rfl) (gb fun bX bY => gb fun ab bZ => tMo ?_ ?_))
         ·refine tY rfl (yl isAgg43 ((hm.holeE_at 4 rfl).cell (j := 1) rfl) rfl) (tAs hS (tO (tY rfl (yl isAgg43 ((hm.holeE_at 4 rfl).cell (j := 1) rfl) rfl) (tAs hS ?_))))
          obtain ⟨b6, ap⟩ := getI_some.1 bY
          obtain ⟨b7, b8, b9, he⟩ := idx_form (hm.ow_rep 0 rfl) ap
          subst he
          refine tP rfl (fun w => yI st_43 b6 (idx_lt ap) rfl) (tO (tY rfl (yl isAgg3 ((flat_cells (cs := [nV bX]) (hm.ow_rep 0 rfl) ap rfl).cell (j := 0) rfl) rfl) (tAs hS ?_)))
          obtain ⟨cG, ba⟩ := getI_some.1 bZ
          refine tP rfl (fun w => yI st_43 cG (idx_lt ba) rfl) (tO (tY rfl (yl isAgg3 ((flat_cells (cs := [nV ab]) (hm.now h2) ba rfl).cell (j := 0) rfl) rfl) (tAs hS (tP rfl (fun w => yI st_43 b6 (idx_lt ap) rfl) (tO (tf0 rfl rfl (fun a hf => e_setElem (x1 := ab) (j := 0) (vs := [nV ab]) 0 hf hm rfl ap rfl sizeOf3 rfl rfl rfl (one_cons rfl one_nil) rfl rfl) ?_))))))
          rintro _ w hm
          have dA := List.getElem?_set_self (a := ab) (idx_lt ap)
          refine tAn rfl (tE ?_)
          replace hm : Mem w0 (hp w0) _ [ow [nV aP.to, sV b7 b8 aP.args.length b9] ((⟨aP.to, (aP.args.set (aZ.2).toNat ab)⟩ : Phi_) : Phi_), blk aI [nV 0, nV 0, .slice none 0 0] 49, blk aJ [nV aA.params, nV aA.regs, sV aC aD aA.blocks.length aE] 49, holeE aC aD aA.blocks.length aE (aO : List Block_) (aH).toNat [sV aW aX aL.1.length aV, aN, nV aB.jump, nV aB.on, aG], holeE aW aX aL.1.length aV (aZ.1 : List Phi_) (aL.2).toNat [nV aP.to, sV b7 b8 aP.args.length b9], ow [aN] aB.ins, ow [aG] aB.next_] := mk_Phi_ aP.to hm 0 rfl
          replace hm := (hm.shutE (y := ((⟨aP.to, (aP.args.set (aZ.2).toNat ab)⟩ : Phi_) : Phi_)) 4 0 (by decide) rfl rfl).pk (L' := [blk aI [nV 0, nV 0, .slice none 0 0] 49, blk aJ [nV aA.params, nV aA.regs, sV aC aD aA.blocks.length aE] 49, holeE aC aD aA.blocks.length aE (aO : List Block_) (aH).toNat [sV aW aX aL.1.length aV, aN, nV aB.jump, nV aB.on, aG], ow [sV aW aX aL.1.length aV] (aZ.1.set (aL.2).toNat (⟨aP.to, (aP.args.set (aZ.2).toNat ab)⟩ : Phi_)), ow [aN] aB.ins, ow [aG] aB.next_]) [1, 2, 3, 4, 5, 6] rfl rfl
          have dB := List.getElem?_set_self (a := ((⟨aP.to, (aP.args.set (aZ.2).toNat ab)⟩ : Phi_) : Phi_)) (idx_lt aj)
          exact gz hm [0, 1, 2, 3, 4, 5] rfl
         refine tO (tY rfl (yl isAgg43 ((hm.holeE_at 4 rfl).cell (j := 1) rfl) rfl) (tAs hS ?_))
         obtain ⟨bc, aq⟩ := getI_some.1 bY
         obtain ⟨bd, be, bf, he⟩ := idx_form (hm.ow_rep 0 rfl) aq
         subst he
         refine tP rfl (fun w => yI st_43 bc (idx_lt aq) rfl) (tQ rfl hS (fun w hm => yl isAgg3 ((flat_cells (cs := [nV bX]) (hm.ow_rep 0 rfl) aq rfl).cell (j := 0) rfl) rfl) ?_)
         obtain ⟨cH, bg⟩ := getI_some.1 bZ
         refine tP rfl (fun w => yI st_43 cH (idx_lt bg) rfl) (tQ rfl hS (fun w hm => yl isAgg3 ((flat_cells (cs := [nV ab]) (hm.now h2) bg rfl).cell (j := 0) rfl) rfl) (tO (tY rfl (yl isAgg43 ((hm.holeE_at 4 rfl).cell (j := 1) rfl) rfl) (tAs hS (tP rfl (fun w => yI st_43 bc (idx_lt aq) rfl) (tO (tf0 rfl rfl (fun a hf => e_setElem (x1 := ab) (j := 0) (vs := [nV ab]) 0 hf hm rfl aq rfl sizeOf3 rfl rfl rfl (one_cons rfl one_nil) rfl rfl) ?_)))))))
         rintro _ w hm
         have dC := List.getElem?_set_self (a := ab) (idx_lt aq)
         refine tAn rfl (tE ?_)
         replace hm : Mem w0 (hp w0) _ [ow [nV aP.to, sV bd be aP.args.length bf] ((⟨aP.to, (aP.args.set (aZ.2).toNat ab)⟩ : Phi_) : Phi_), blk aI [nV 0, nV 0, .slice none 0 0] 49, blk aJ [nV aA.params, nV aA.regs, sV aC aD aA.blocks.length aE] 49, holeE aC aD aA.blocks.length aE (aO : List Block_) (aH).toNat [sV aW aX aL.1.length aV, aN, nV aB.jump, nV aB.on, aG], holeE aW aX aL.1.length aV (aZ.1 : List Phi_) (aL.2).toNat [nV aP.to, sV bd be aP.args.length bf], ow [aN] aB.ins, ow [aG] aB.next_] := mk_Phi_ aP.to hm 0 rfl
         replace hm := (hm.shutE (y := ((⟨aP.to, (aP.args.set (aZ.2).toNat ab)⟩ : Phi_) : Phi_)) 4 0 (by decide) rfl rfl).pk (L' := [blk aI [nV 0, nV 0, .slice none 0 0] 49, blk aJ [nV aA.params, nV aA.regs, sV aC aD aA.blocks.length aE] 49, holeE aC aD aA.blocks.length aE (aO : List Block_) (aH).toNat [sV aW aX aL.1.length aV, aN, nV aB.jump, nV aB.on, aG], ow [sV aW aX aL.1.length aV] (aZ.1.set (aL.2).toNat (⟨aP.to, (aP.args.set (aZ.2).toNat ab)⟩ : Phi_)), ow [aN] aB.ins, ow [aG] aB.next_]) [1, 2, 3, 4, 5, 6] rfl rfl
         have dD := List.getElem?_set_self (a := ((⟨aP.to, (aP.args.set (aZ.2).toNat ab)⟩ : Phi_) : Phi_)) (idx_lt aj)
         exact gz hm [0, 1, 2, 3, 4, 5] rfl
        repeat clear hm
        intro bC w hm
        exact gR (gM rfl (gB rfl (gA rfl (gE (gze hm [0, 1, 2, 3, 4, 5] rfl)))))
       refine gcf rfl (gXt (gHh ?_))
       replace hm : Mem w0 (hp w0) _ [ow [nV aP.to, .slice bA aP.args.length bB] (aP : Phi_), blk aI [nV 0, nV 0, .slice none 0 0] 49, blk aJ [nV aA.params, nV aA.regs, sV aC aD aA.blocks.length aE] 49, holeE aC aD aA.blocks.length aE (aO : List Block_) (aH).toNat [sV aW aX aL.1.length aV, aN, nV aB.jump, nV aB.on, aG], holeE aW aX aL.1.length aV (aZ.1 : List Phi_) (aL.2).toNat [nV aP.to, .slice bA aP.args.length bB], ow [aN] aB.ins, ow [aG] aB.next_] := mk_Phi_ aP.to hm 0 rfl
       replace hm := (hm.shutE (y := (aP : Phi_)) 4 0 (by decide) rfl rfl).pk (L' := [blk aI [nV 0, nV 0, .slice none 0 0] 49, blk aJ [nV aA.params, nV aA.regs, sV aC aD aA.blocks.length aE] 49, holeE aC aD aA.blocks.length aE (aO : List Block_) (aH).toNat [sV aW aX aL.1.length aV, aN, nV aB.jump, nV aB.on, aG], ow [sV aW aX aL.1.length aV] (aZ.1.set (aL.2).toNat aP), ow [aN] aB.ins, ow [aG] aB.next_]) [1, 2, 3, 4, 5, 6] rfl rfl
       rw [set_same aj] at hm
       exact gLp cE cD (gz hm [0, 1, 2, 3, 4, 5] rfl)
      repeat clear hm
      intro az w hm
      exact gR (gM rfl (gB rfl (gA rfl (gE (gze hm [0, 1, 2, 3, 4, 5] rfl)))))
     exact gcf rfl (gXt (gHh (gLp bz bx (gz hm [0, 1, 2, 3, 4, 5] rfl))))
    repeat clear hm
    intro aT w hm
    refine gS (gS (gR (gA rfl (gE (gJ hm (fun ae => [(1, v2), (4, (pV aI)), (5, (pV aJ)), (6, (nV aH)), (7, (.pointer (some ⟨aC, aD + (aH).toNat * 5, none⟩)))]) (fun ae => [blk aI [nV 0, nV 0, .slice none 0 0] 49, blk aJ [nV aA.params, nV aA.regs, sV aC aD aA.blocks.length aE] 49, holeE aC aD aA.blocks.length aE (aO : List Block_) (aH).toNat [aM, aN, nV aB.jump, nV aB.on, aG], ow [aM] aT, ow [aN] ae, ow [aG] aB.next_]) (fun ae => ?_) ?_)))))
    ·refine gBk (gMf hm (fun aK => [(1, v2), (4, (pV aI)), (5, (pV aJ)), (6, (nV aH)), (7, (.pointer (some ⟨aC, aD + (aH).toNat * 5, none⟩))), (10, (nV aK.2))]) (fun aK => [blk aI [nV 0, nV 0, .slice none 0 0] 49, blk aJ [nV aA.params, nV aA.regs, sV aC aD aA.blocks.length aE] 49, holeE aC aD aA.blocks.length aE (aO : List Block_) (aH).toNat [aM, aN, nV aB.jump, nV aB.on, aG], ow [aM] aT, ow [aN] aK.1, ow [aG] aB.next_]) [0, 1, 2, 3, 4, 5] rfl ?_)
     repeat clear hm
     intro dE cI aK w hm dF cJ
     refine gS (gS (gR (gM rfl (gM rfl (gY (yG rfl (y_nilptr rfl rfl)) (gF fo_63_1 rfl (gY (yl isAgg61 ((hm.holeE_at 2 rfl).cell (j := 1) rfl) rfl) ?_)))))))
     obtain ⟨dG, aQ, rfl, dH⟩ := ro_slice (hm.ow_rep 4 rfl)
     refine gY (yV st_61 rfl) (gB rfl (gE (gsd 95 rfl (fun cK => ?_) fun cK => ?_)))
     ·refine gct rfl (gSk (gS (gBk (gS (gS (gR (gM rfl (gY (yG rfl (y_nilptr rfl rfl)) (gF fo_63_1 rfl (gY (yl isAgg61 ((hm.holeE_at 2 rfl).cell (j := 1) rfl) rfl) (gM rfl (gg fun aY bP am => ?_))))))))))))
      obtain ⟨aR, aS, dI, he⟩ := idx_form' (hm.ow_rep 4 rfl) am
      obtain ⟨rfl, _, rfl⟩ := sl3 he
      obtain ⟨dJ, cL, dK⟩ := rk_Ins_ (hm.ow_rep 4 rfl) am
      refine gI st_61 bP (idx_lt am) rfl (gF fo_65_0 rfl (gY (yl isAgg3 (cL.cell (j := 0) rfl) rfl) (gC hm rfl call89 (spec_l7Makes_ok _ aY.op) fun dL dM w hm => gE (gJ hm (fun bD => [(1, v2), (4, (pV aI)), (5, (pV aJ)), (6, (nV aH)), (7, (.pointer (some ⟨aC, aD + (aH).toNat * 5, none⟩))), (10, (nV aK.2))]) (fun bD => [blk aI [nV 0, nV 0, .slice none 0 0] 49, blk aJ [nV aA.params, nV aA.regs, sV aC aD aA.blocks.length aE] 49, holeE aC aD aA.blocks.length aE (aO : List Block_) (aH).toNat [aM, sV aR aS aK.1.length aQ, nV aB.jump, nV aB.on, aG], ow [aM] aT, ow [sV aR aS aK.1.length aQ] bD, ow [aG] aB.next_]) (fun bD => ?_) ?_))))
      ·refine gs 106 rfl (fun cM => ?_) fun cM => ?_
       ·refine gct rfl ?_
        obtain ⟨ar, hm⟩ := pin_Ins_ hm 4 rfl am
        refine gW (.p 0 (.p 1 (.p 2 (.p 4 (.p 5 (.p 6 (.p 7 (.p 8 (.p 10 (.q 3 (.e 9 (.p 11 (.p 12 (.e 13 (.p 14 (.e 15 (.p 16 (.p 17 (.e 18 .fin .nil))) .nil)) .nil))) .nil))))))))))) [9, 13, 15] [0, 1, 2, 4, 5, 6, 7, 8, 10, 11, 12, 14, 16, 17] hm [0, 1, 2, 3, 4, 5, 6] [ow [ar] aY.args, blk aI [nV 0, nV 0, .slice none 0 0] 49, blk aJ [nV aA.params, nV aA.regs, sV aC aD aA.blocks.length aE] 49, holeE aC aD aA.blocks.length aE (aO : List Block_) (aH).toNat [aM, sV aR aS aK.1.length aQ, nV aB.jump, nV aB.on, aG], ow [aM] aT, holeE aR aS aK.1.length aQ (aK.1 : List Ins_) (aK.2).toNat [nV aY.op, nV aY.to, ar, nV aY.n_], ow [aG] aB.next_] rfl mxo (by kernel_rfl) (fun _ _ _ h => h.2) fun w hm hS => tP rfl (fun w => yM rfl) (tP rfl (fun w => yG rfl (y_nilptr rfl rfl)) (tP rfl (fun w => yF fo_63_1 rfl) (tP rfl (fun w => yM rfl) (tP rfl (fun w => yM rfl) (tP rfl (fun w => yM rfl) (tP rfl (fun w => yG rfl (y_nilptr rfl rfl)) (tP rfl (fun w => yF fo_63_1 rfl) (tP rfl (fun w => yM rfl) (tQ rfl hS (fun w hm => yl isAgg61 ((hm.holeE_at 3 rfl).cell (j := 1) rfl) rfl) (tO (tY rfl (yl isAgg61 ((hm.holeE_at 3 rfl).cell (j := 1) rfl) rfl) (tAs hS ?_))))))))))))
        have hL5_1 := hm.holeE_len 5 rfl
        refine tP rfl (fun w => yI st_61 bP (idx_lt2 am hL5_1) rfl) (tP rfl (fun w => yF fo_65_1 rfl) (tO (tY rfl (yl isAgg3 ((hm.holeE_at 5 rfl).cell (j := 1) rfl) rfl) (tAs hS (gg fun ah cN bQ => ?_)))))
        obtain ⟨dN, dO, dP, he⟩ := idx_form h2 bQ
        subst he
        refine tP rfl (fun w => yI st_43 cN (idx_lt bQ) rfl) (tO (tY rfl (yl isAgg3 ((flat_cells (cs := [nV ah]) (hm.now h2) bQ rfl).cell (j := 0) rfl) rfl) (tAs hS ?_)))
        have hL5_2 := hm.holeE_len 5 rfl
        refine tP rfl (fun w => yI st_61 bP (idx_lt2 am hL5_2) rfl) (tP rfl (fun w => yF fo_65_1 rfl) (tO ?_))
        have cO : ∀ u ∈ ([nV ah] : List Value), u.oneCell' = true := (one_cons rfl one_nil)
        refine tf0 rfl rfl (fun a hf => e_storeH (j := 1) (vs := [nV ah]) 5 hf hm rfl rfl rfl sizeOf3 rfl rfl rfl cO rfl) ?_
        rintro _ w hm
        replace hm : Mem w0 (hp w0) _ [ow [ar] aY.args, blk aI [nV 0, nV 0, .slice none 0 0] 49, blk aJ [nV aA.params, nV aA.regs, sV aC aD aA.blocks.length aE] 49, holeE aC aD aA.blocks.length aE (aO : List Block_) (aH).toNat [aM, sV aR aS aK.1.length aQ, nV aB.jump, nV aB.on, aG], ow [aM] aT, holeE aR aS aK.1.length aQ (aK.1 : List Ins_) (aK.2).toNat [nV aY.op, nV ah, ar, nV aY.n_], ow [aG] aB.next_] := hm
        refine tAn rfl (tE ?_)
        replace hm : Mem w0 (hp w0) _ [ow [nV aY.op, nV ah, ar, nV aY.n_] ((⟨aY.op, ah, aY.args, aY.n_⟩ : Ins_) : Ins_), blk aI [nV 0, nV 0, .slice none 0 0] 49, blk aJ [nV aA.params, nV aA.regs, sV aC aD aA.blocks.length aE] 49, holeE aC aD aA.blocks.length aE (aO : List Block_) (aH).toNat [aM, sV aR aS aK.1.length aQ, nV aB.jump, nV aB.on, aG], ow [aM] aT, holeE aR aS aK.1.length aQ (aK.1 : List Ins_) (aK.2).toNat [nV aY.op, nV ah, ar, nV aY.n_], ow [aG] aB.next_] := mk_Ins_ aY.op ah aY.n_ hm 0 rfl
        replace hm := (hm.shutE (y := ((⟨aY.op, ah, aY.args, aY.n_⟩ : Ins_) : Ins_)) 5 0 (by decide) rfl rfl).pk (L' := [blk aI [nV 0, nV 0, .slice none 0 0] 49, blk aJ [nV aA.params, nV aA.regs, sV aC aD aA.blocks.length aE] 49, holeE aC aD aA.blocks.length aE (aO : List Block_) (aH).toNat [aM, sV aR aS aK.1.length aQ, nV aB.jump, nV aB.on, aG], ow [aM] aT, ow [sV aR aS aK.1.length aQ] (aK.1.set (aK.2).toNat (⟨aY.op, ah, aY.args, aY.n_⟩ : Ins_)), ow [aG] aB.next_]) [1, 2, 3, 4, 5, 6] rfl rfl
        have dQ := List.getElem?_set_self (a := ((⟨aY.op, ah, aY.args, aY.n_⟩ : Ins_) : Ins_)) (idx_lt am)
        exact gz hm [0, 1, 2, 3, 4, 5] rfl
       exact gcf rfl (gSk (gz hm [0, 1, 2, 3, 4, 5] rfl))
      repeat clear hm
      intro bD w hm
      refine gS (gR (gA rfl (gE (gJ hm (fun bE => [(1, v2), (4, (pV aI)), (5, (pV aJ)), (6, (nV aH)), (7, (.pointer (some ⟨aC, aD + (aH).toNat * 5, none⟩))), (10, (nV aK.2))]) (fun bE => [blk aI [nV 0, nV 0, .slice none 0 0] 49, blk aJ [nV aA.params, nV aA.regs, sV aC aD aA.blocks.length aE] 49, holeE aC aD aA.blocks.length aE (aO : List Block_) (aH).toNat [aM, sV aR aS aK.1.length aQ, nV aB.jump, nV aB.on, aG], ow [aM] aT, ow [sV aR aS aK.1.length aQ] bE, ow [aG] aB.next_]) (fun bE => ?_) ?_))))
      ·refine gBk (gMf hm (fun aa => [(1, v2), (4, (pV aI)), (5, (pV aJ)), (6, (nV aH)), (7, (.pointer (some ⟨aC, aD + (aH).toNat * 5, none⟩))), (10, (nV aK.2)), (11, (nV aa.2))]) (fun aa => [blk aI [nV 0, nV 0, .slice none 0 0] 49, blk aJ [nV aA.params, nV aA.regs, sV aC aD aA.blocks.length aE] 49, holeE aC aD aA.blocks.length aE (aO : List Block_) (aH).toNat [aM, sV aR aS aK.1.length aQ, nV aB.jump, nV aB.on, aG], ow [aM] aT, ow [sV aR aS aK.1.length aQ] aa.1, ow [aG] aB.next_]) [0, 1, 2, 3, 4, 5] rfl ?_)
       repeat clear hm
       intro dR cP aa w hm dS cQ
       refine gS (gS (gR (gM rfl (gM rfl (gY (yG rfl (y_nilptr rfl rfl)) (gF fo_63_1 rfl (gY (yl isAgg61 ((hm.holeE_at 2 rfl).cell (j := 1) rfl) rfl) (gM rfl (gg fun aF bR ak => ?_)))))))))
       obtain ⟨dT, dU, dV⟩ := rk_Ins_ (hm.ow_rep 4 rfl) ak
       have hL6_2 := rep_slice_len (hm.ow_rep 4 rfl)
       refine gI st_61 bR (idx_lt2 ak hL6_2) rfl (gF fo_65_2 rfl ?_)
       obtain ⟨dW, hm⟩ := pin_Ins_ hm 4 rfl ak
       refine gY (yl isAgg43 ((hm.holeE_at 5 rfl).cell (j := 2) rfl) rfl) ?_
       obtain ⟨bF, bG, rfl, dX⟩ := ro_slice (hm.ow_rep 0 rfl)
       refine gY (yV st_43 rfl) (gB rfl (gE (gsd 135 rfl (fun cR => ?_) fun cR => ?_)))
       ·refine gct rfl (gSk (gS (gBk ?_)))
        replace hm : Mem w0 (hp w0) _ [ow [nV aF.op, nV aF.to, .slice bF aF.args.length bG, nV aF.n_] (aF : Ins_), blk aI [nV 0, nV 0, .slice none 0 0] 49, blk aJ [nV aA.params, nV aA.regs, sV aC aD aA.blocks.length aE] 49, holeE aC aD aA.blocks.length aE (aO : List Block_) (aH).toNat [aM, sV aR aS aK.1.length aQ, nV aB.jump, nV aB.on, aG], ow [aM] aT, holeE aR aS aK.1.length aQ (aa.1 : List Ins_) (aK.2).toNat [nV aF.op, nV aF.to, .slice bF aF.args.length bG, nV aF.n_], ow [aG] aB.next_] := mk_Ins_ aF.op aF.to aF.n_ hm 0 rfl
        replace hm := (hm.shutE (y := (aF : Ins_)) 5 0 (by decide) rfl rfl).pk (L' := [blk aI [nV 0, nV 0, .slice none 0 0] 49, blk aJ [nV aA.params, nV aA.regs, sV aC aD aA.blocks.length aE] 49, holeE aC aD aA.blocks.length aE (aO : List Block_) (aH).toNat [aM, sV aR aS aK.1.length aQ, nV aB.jump, nV aB.on, aG], ow [aM] aT, ow [sV aR aS aK.1.length aQ] (aa.1.set (aK.2).toNat aF), ow [aG] aB.next_]) [1, 2, 3, 4, 5, 6] rfl rfl
        rw [set_same ak] at hm
        obtain ⟨bh, hm⟩ := pin_Ins_ hm 4 rfl ak
        refine gJ hm (fun bH => [(1, v2), (4, (pV aI)), (5, (pV aJ)), (6, (nV aH)), (7, (.pointer (some ⟨aC, aD + (aH).toNat * 5, none⟩))), (10, (nV aK.2)), (11, (nV aa.2))]) (fun bH => [blk aI [nV 0, nV 0, .slice none 0 0] 49, blk aJ [nV aA.params, nV aA.regs, sV aC aD aA.blocks.length aE] 49, holeE aC aD aA.blocks.length aE (aO : List Block_) (aH).toNat [aM, sV aR aS aK.1.length aQ, nV aB.jump, nV aB.on, aG], ow [aM] aT, ow [sV aR aS aK.1.length aQ] bH, ow [aG] aB.next_]) (fun bH => ?_) ?_
        ·refine gW (.p 0 (.p 1 (.p 2 (.p 4 (.p 8 (.p 9 (.p 10 (.p 11 (.p 12 (.p 14 (.p 18 (.q 3 (.p 5 (.p 6 (.q 13 (.p 15 (.p 16 (.e 7 (.e 17 (.p 19 (.e 20 (.p 21 (.e 22 (.p 23 (.e 24 .fin .nil)) .nil)) .nil)) .nil) (.e 17 (.p 19 (.q 20 (.p 21 (.q 22 (.e 7 (.p 23 (.e 24 .fin .nil)) .nil))))) .nil))))))))))))))))))) [3, 7, 13, 17, 20, 22] [0, 1, 2, 4, 5, 6, 8, 9, 10, 11, 12, 14, 15, 16, 18, 19, 21, 23] hm [0, 1, 2, 3, 4, 5, 6] [ow [bh] aF.args, blk aI [nV 0, nV 0, .slice none 0 0] 49, blk aJ [nV aA.params, nV aA.regs, sV aC aD aA.blocks.length aE] 49, holeE aC aD aA.blocks.length aE (aO : List Block_) (aH).toNat [aM, sV aR aS aK.1.length aQ, nV aB.jump, nV aB.on, aG], ow [aM] aT, holeE aR aS aK.1.length aQ (aa.1 : List Ins_) (aK.2).toNat [nV aF.op, nV aF.to, bh, nV aF.n_], ow [aG] aB.next_] rfl mxo (by kernel_rfl) (fun _ _ _ h => h.2) fun w hm hS => tP rfl (fun w => yM rfl) (tP rfl (fun w => yG rfl (y_nilptr rfl rfl)) (tP rfl (fun w => yF fo_63_1 rfl) (tP rfl (fun w => yM rfl) (tP rfl (fun w => yM rfl) (tP rfl (fun w => yM rfl) (tP rfl (fun w => yM rfl) (tP rfl (fun w => yG rfl (y_nilptr rfl rfl)) (tP rfl (fun w => yF fo_63_1 rfl) (tP rfl (fun w => yM rfl) (tP rfl (fun w => yM rfl) (tQ rfl hS (fun w hm => yl isAgg61 ((hm.holeE_at 3 rfl).cell (j := 1) rfl) rfl) ?_)))))))))))
         have hL7_3 := hm.holeE_len 5 rfl
         refine tP rfl (fun w => yI st_61 bR (idx_lt2 ak hL7_3) rfl) (tP rfl (fun w => yF fo_65_2 rfl) (tQ rfl hS (fun w hm => yl isAgg61 ((hm.holeE_at 3 rfl).cell (j := 1) rfl) rfl) ?_))
         have hL7_4 := hm.holeE_len 5 rfl
         refine tP rfl (fun w => yI st_61 bR (idx_lt2 ak hL7_4) rfl) (tP rfl (fun w => yF fo_65_2 rfl) (gb fun bi bj => gb fun ac bk => tMo ?_ ?_))
         ·refine tY rfl (yl isAgg43 ((hm.holeE_at 5 rfl).cell (j := 2) rfl) rfl) (tAs hS (tO (tY rfl (yl isAgg43 ((hm.holeE_at 5 rfl).cell (j := 2) rfl) rfl) (tAs hS ?_))))
          obtain ⟨bm, au⟩ := getI_some.1 bj
          obtain ⟨bo, bp, bq, he⟩ := idx_form (hm.ow_rep 0 rfl) au
          subst he
          refine tP rfl (fun w => yI st_43 bm (idx_lt au) rfl) (tO (tY rfl (yl isAgg3 ((flat_cells (cs := [nV bi]) (hm.ow_rep 0 rfl) au rfl).cell (j := 0) rfl) rfl) (tAs hS ?_)))
          obtain ⟨cS, bS⟩ := getI_some.1 bk
          obtain ⟨dY, dZ, d4, he⟩ := idx_form h2 bS
          subst he
          refine tP rfl (fun w => yI st_43 cS (idx_lt bS) rfl) (tO (tY rfl (yl isAgg3 ((flat_cells (cs := [nV ac]) (hm.now h2) bS rfl).cell (j := 0) rfl) rfl) (tAs hS (tP rfl (fun w => yI st_43 bm (idx_lt au) rfl) (tO (tf0 rfl rfl (fun a hf => e_setElem (x1 := ac) (j := 0) (vs := [nV ac]) 0 hf hm rfl au rfl sizeOf3 rfl rfl rfl (one_cons rfl one_nil) rfl rfl) ?_))))))
          rintro _ w hm
          have d5 := List.getElem?_set_self (a := ac) (idx_lt au)
          refine tAn rfl (tE ?_)
          replace hm : Mem w0 (hp w0) _ [ow [nV aF.op, nV aF.to, sV bo bp aF.args.length bq, nV aF.n_] ((⟨aF.op, aF.to, (aF.args.set (aa.2).toNat ac), aF.n_⟩ : Ins_) : Ins_), blk aI [nV 0, nV 0, .slice none 0 0] 49, blk aJ [nV aA.params, nV aA.regs, sV aC aD aA.blocks.length aE] 49, holeE aC aD aA.blocks.length aE (aO : List Block_) (aH).toNat [aM, sV aR aS aK.1.length aQ, nV aB.jump, nV aB.on, aG], ow [aM] aT, holeE aR aS aK.1.length aQ (aa.1 : List Ins_) (aK.2).toNat [nV aF.op, nV aF.to, sV bo bp aF.args.length bq, nV aF.n_], ow [aG] aB.next_] := mk_Ins_ aF.op aF.to aF.n_ hm 0 rfl
          replace hm := (hm.shutE (y := ((⟨aF.op, aF.to, (aF.args.set (aa.2).toNat ac), aF.n_⟩ : Ins_) : Ins_)) 5 0 (by decide) rfl rfl).pk (L' := [blk aI [nV 0, nV 0, .slice none 0 0] 49, blk aJ [nV aA.params, nV aA.regs, sV aC aD aA.blocks.length aE] 49, holeE aC aD aA.blocks.length aE (aO : List Block_) (aH).toNat [aM, sV aR aS aK.1.length aQ, nV aB.jump, nV aB.on, aG], ow [aM] aT, ow [sV aR aS aK.1.length aQ] (aa.1.set (aK.2).toNat (⟨aF.op, aF.to, (aF.args.set (aa.2).toNat ac), aF.n_⟩ : Ins_)), ow [aG] aB.next_]) [1, 2, 3, 4, 5, 6] rfl rfl
          have d6 := List.getElem?_set_self (a := ((⟨aF.op, aF.to, (aF.args.set (aa.2).toNat ac), aF.n_⟩ : Ins_) : Ins_)) (idx_lt ak)
          exact gz hm [0, 1, 2, 3, 4, 5] rfl
         refine tO (tY rfl (yl isAgg43 ((hm.holeE_at 5 rfl).cell (j := 2) rfl) rfl) (tAs hS ?_))
         obtain ⟨br, av⟩ := getI_some.1 bj
         obtain ⟨bs, bt, bu, he⟩ := idx_form (hm.ow_rep 0 rfl) av
         subst he
         refine tP rfl (fun w => yI st_43 br (idx_lt av) rfl) (tQ rfl hS (fun w hm => yl isAgg3 ((flat_cells (cs := [nV bi]) (hm.ow_rep 0 rfl) av rfl).cell (j := 0) rfl) rfl) ?_)
         obtain ⟨cT, bT⟩ := getI_some.1 bk
         obtain ⟨d7, d8, d9, he⟩ := idx_form h2 bT
         subst he
         refine tP rfl (fun w => yI st_43 cT (idx_lt bT) rfl) (tQ rfl hS (fun w hm => yl isAgg3 ((flat_cells (cs := [nV ac]) (hm.now h2) bT rfl).cell (j := 0) rfl) rfl) (tO (tY rfl (yl isAgg43 ((hm.holeE_at 5 rfl).cell (j := 2) rfl) rfl) (tAs hS (tP rfl (fun w => yI st_43 br (idx_lt av) rfl) (tO (tf0 rfl rfl (fun a hf => e_setElem (x1 := ac) (j := 0) (vs := [nV ac]) 0 hf hm rfl av rfl sizeOf3 rfl rfl rfl (one_cons rfl one_nil) rfl rfl) ?_)))))))
         rintro _ w hm
         have da := List.getElem?_set_self (a := ac) (idx_lt av)
         refine tAn rfl (tE ?_)
         replace hm : Mem w0 (hp w0) _ [ow [nV aF.op, nV aF.to, sV bs bt aF.args.length bu, nV aF.n_] ((⟨aF.op, aF.to, (aF.args.set (aa.2).toNat ac), aF.n_⟩ : Ins_) : Ins_), blk aI [nV 0, nV 0, .slice none 0 0] 49, blk aJ [nV aA.params, nV aA.regs, sV aC aD aA.blocks.length aE] 49, holeE aC aD aA.blocks.length aE (aO : List Block_) (aH).toNat [aM, sV aR aS aK.1.length aQ, nV aB.jump, nV aB.on, aG], ow [aM] aT, holeE aR aS aK.1.length aQ (aa.1 : List Ins_) (aK.2).toNat [nV aF.op, nV aF.to, sV bs bt aF.args.length bu, nV aF.n_], ow [aG] aB.next_] := mk_Ins_ aF.op aF.to aF.n_ hm 0 rfl
         replace hm := (hm.shutE (y := ((⟨aF.op, aF.to, (aF.args.set (aa.2).toNat ac), aF.n_⟩ : Ins_) : Ins_)) 5 0 (by decide) rfl rfl).pk (L' := [blk aI [nV 0, nV 0, .slice none 0 0] 49, blk aJ [nV aA.params, nV aA.regs, sV aC aD aA.blocks.length aE] 49, holeE aC aD aA.blocks.length aE (aO : List Block_) (aH).toNat [aM, sV aR aS aK.1.length aQ, nV aB.jump, nV aB.on, aG], ow [aM] aT, ow [sV aR aS aK.1.length aQ] (aa.1.set (aK.2).toNat (⟨aF.op, aF.to, (aF.args.set (aa.2).toNat ac), aF.n_⟩ : Ins_)), ow [aG] aB.next_]) [1, 2, 3, 4, 5, 6] rfl rfl
         have db := List.getElem?_set_self (a := ((⟨aF.op, aF.to, (aF.args.set (aa.2).toNat ac), aF.n_⟩ : Ins_) : Ins_)) (idx_lt ak)
         exact gz hm [0, 1, 2, 3, 4, 5] rfl
        repeat clear hm
        intro bH w hm
        exact gR (gM rfl (gB rfl (gA rfl (gE (gze hm [0, 1, 2, 3, 4, 5] rfl)))))
       refine gcf rfl (gXt (gHh ?_))
       replace hm : Mem w0 (hp w0) _ [ow [nV aF.op, nV aF.to, .slice bF aF.args.length bG, nV aF.n_] (aF : Ins_), blk aI [nV 0, nV 0, .slice none 0 0] 49, blk aJ [nV aA.params, nV aA.regs, sV aC aD aA.blocks.length aE] 49, holeE aC aD aA.blocks.length aE (aO : List Block_) (aH).toNat [aM, sV aR aS aK.1.length aQ, nV aB.jump, nV aB.on, aG], ow [aM] aT, holeE aR aS aK.1.length aQ (aa.1 : List Ins_) (aK.2).toNat [nV aF.op, nV aF.to, .slice bF aF.args.length bG, nV aF.n_], ow [aG] aB.next_] := mk_Ins_ aF.op aF.to aF.n_ hm 0 rfl
       replace hm := (hm.shutE (y := (aF : Ins_)) 5 0 (by decide) rfl rfl).pk (L' := [blk aI [nV 0, nV 0, .slice none 0 0] 49, blk aJ [nV aA.params, nV aA.regs, sV aC aD aA.blocks.length aE] 49, holeE aC aD aA.blocks.length aE (aO : List Block_) (aH).toNat [aM, sV aR aS aK.1.length aQ, nV aB.jump, nV aB.on, aG], ow [aM] aT, ow [sV aR aS aK.1.length aQ] (aa.1.set (aK.2).toNat aF), ow [aG] aB.next_]) [1, 2, 3, 4, 5, 6] rfl rfl
       rw [set_same ak] at hm
       exact gLp cQ cP (gz hm [0, 1, 2, 3, 4, 5] rfl)
      repeat clear hm
      intro bE w hm
      exact gR (gM rfl (gB rfl (gA rfl (gE (gze hm [0, 1, 2, 3, 4, 5] rfl)))))
     exact gcf rfl (gXt (gHh (gLp cJ cI (gz hm [0, 1, 2, 3, 4, 5] rfl))))
    repeat clear hm
    intro ae w hm
    refine gS (gR (gM rfl (gY (yG rfl (y_nilptr rfl rfl)) (gF fo_63_2 rfl (gY (yl isAgg3 ((hm.holeE_at 2 rfl).cell (j := 2) rfl) rfl) (gB rfl (gE (gJ hm (fun bJ => [(1, v2), (4, (pV aI)), (5, (pV aJ)), (6, (nV aH))]) (fun bJ => [blk aI [nV 0, nV 0, .slice none 0 0] 49, blk aJ [nV aA.params, nV aA.regs, sV aC aD aA.blocks.length aE] 49, ow [sV aC aD aA.blocks.length aE] bJ]) (fun bJ => ?_) ?_))))))))
    ·refine gsd 166 rfl (fun cU => ?_) fun cU => ?_
     ·refine gct rfl (gR (gM rfl (gM rfl (gM rfl (gY (yG rfl (y_nilptr rfl rfl)) (gF fo_63_3 rfl (gY (yl isAgg3 ((hm.holeE_at 2 rfl).cell (j := 3) rfl) rfl) (gg fun ai cV bU => ?_))))))))
      obtain ⟨dc, dd, de, he⟩ := idx_form h2 bU
      subst he
      refine gI st_43 cV (idx_lt bU) rfl (gY (yl isAgg3 ((flat_cells (cs := [nV ai]) (hm.now h2) bU rfl).cell (j := 0) rfl) rfl) (gY (yG rfl (y_nilptr rfl rfl)) (gF fo_63_3 rfl ?_)))
      have cW : ∀ u ∈ ([nV ai] : List Value), u.oneCell' = true := (one_cons rfl one_nil)
      refine gf0 rfl (fun a hf => e_storeH (j := 3) (vs := [nV ai]) 2 hf hm rfl rfl rfl sizeOf3 rfl rfl rfl cW rfl) ?_
      rintro _ w hm
      replace hm : Mem w0 (hp w0) _ [blk aI [nV 0, nV 0, .slice none 0 0] 49, blk aJ [nV aA.params, nV aA.regs, sV aC aD aA.blocks.length aE] 49, holeE aC aD aA.blocks.length aE (aO : List Block_) (aH).toNat [aM, aN, nV aB.jump, nV ai, aG], ow [aM] aT, ow [aN] ae, ow [aG] aB.next_] := hm
      refine gE ?_
      replace hm := (mk_Block_ aB.jump ai hm 3 4 5 rfl).pk (L' := [blk aI [nV 0, nV 0, .slice none 0 0] 49, blk aJ [nV aA.params, nV aA.regs, sV aC aD aA.blocks.length aE] 49, holeE aC aD aA.blocks.length aE (aO : List Block_) (aH).toNat [aM, aN, nV aB.jump, nV ai, aG], ow [aM, aN, nV aB.jump, nV ai, aG] ((⟨aT, ae, aB.jump, ai, aB.next_⟩ : Block_) : Block_)]) [0, 1, 2, 3] rfl rfl
      replace hm := (hm.shutE (y := ((⟨aT, ae, aB.jump, ai, aB.next_⟩ : Block_) : Block_)) 2 3 (by decide) rfl rfl).pk (L' := [blk aI [nV 0, nV 0, .slice none 0 0] 49, blk aJ [nV aA.params, nV aA.regs, sV aC aD aA.blocks.length aE] 49, ow [sV aC aD aA.blocks.length aE] (aO.set (aH).toNat (⟨aT, ae, aB.jump, ai, aB.next_⟩ : Block_))]) [0, 1, 2] rfl rfl
      have df := List.getElem?_set_self (a := ((⟨aT, ae, aB.jump, ai, aB.next_⟩ : Block_) : Block_)) (idx_lt an)
      exact gz hm [0, 1, 2] rfl
     refine gcf rfl (gSk ?_)
     replace hm := (mk_Block_ aB.jump aB.on hm 3 4 5 rfl).pk (L' := [blk aI [nV 0, nV 0, .slice none 0 0] 49, blk aJ [nV aA.params, nV aA.regs, sV aC aD aA.blocks.length aE] 49, holeE aC aD aA.blocks.length aE (aO : List Block_) (aH).toNat [aM, aN, nV aB.jump, nV aB.on, aG], ow [aM, aN, nV aB.jump, nV aB.on, aG] ((⟨aT, ae, aB.jump, aB.on, aB.next_⟩ : Block_) : Block_)]) [0, 1, 2, 3] rfl rfl
     replace hm := (hm.shutE (y := ((⟨aT, ae, aB.jump, aB.on, aB.next_⟩ : Block_) : Block_)) 2 3 (by decide) rfl rfl).pk (L' := [blk aI [nV 0, nV 0, .slice none 0 0] 49, blk aJ [nV aA.params, nV aA.regs, sV aC aD aA.blocks.length aE] 49, ow [sV aC aD aA.blocks.length aE] (aO.set (aH).toNat (⟨aT, ae, aB.jump, aB.on, aB.next_⟩ : Block_))]) [0, 1, 2] rfl rfl
     have dg := List.getElem?_set_self (a := ((⟨aT, ae, aB.jump, aB.on, aB.next_⟩ : Block_) : Block_)) (idx_lt an)
     exact gz hm [0, 1, 2] rfl
    repeat clear hm
    intro bJ w hm
    exact gz hm [0, 1, 2] rfl
   repeat clear hm
   intro ay w hm
   exact gR (gM rfl (gP (by omega) (by omega) rfl (gA rfl (gE (gze hm [0, 1, 2] rfl)))))
  repeat clear hm
  intro dh di w hm dk dl
  refine gS (gS (gR (gM rfl (gF fo_49_2 rfl (gL hm 1 isAgg47 rfl ?_)))))
  have dm := rep_len (hm.ow_rep 2 rfl)
  exact gY (yV st_47 rfl) (gB rfl (gE (go _ 18 rfl (decide_eq_false (by omega)) (gcf rfl (gXt (gHh (gS (gR (gY (yn (hm.blk_at 1 rfl) isAgg49 sizeOf49 rfl) (gSN hm 0 sizeOf49 (one_cons rfl (one_cons rfl (one_cons rfl one_nil))) rfl fun w hm => gE (gRt (grc 0 results91 hm rfl isAgg49 sizeOf49 ⟨.slice aw aA.blocks.length aE, rfl, hm.pk [2] rfl rfl⟩))))))))))))
theorem spec_l7Insert_ok (w0 : World) (hz : Heap) (list : List Int) (v1 : Value) (n_ : Int) (hm0 : Mem w0 hz w0 [ow [v1] list]) :
    ConM Tryz.prog 235 [v1, nV n_] w0 (spec_l7Insert list n_) fun r v w' => ∃ (x1 : Value), v = x1 ∧ Mem w0 hz w' [ow [x1] r] := by
  unfold spec_l7Insert
  refine gcon func235 rfl fun r => ?_
  have hm := hm0
  refine gS (gR (gA rfl (gE (gS (gR (gA rfl (gE (gS ?_))))))))
  obtain ⟨aA, aB, rfl, ar⟩ := ro_slice (hm.ow_rep 0 rfl)
  refine gJ hm (fun aC => [(0, (.slice aA list.length aB)), (1, (nV n_)), (5, (nV aC))]) (fun aC => [ow [.slice aA list.length aB] list]) (fun aC => ?_) ?_
  ·refine gBk (gMf hm (fun aD => [(0, (.slice aA list.length aB)), (1, (nV n_)), (5, (nV aD))]) (fun aD => [ow [.slice aA list.length aB] list]) [0] rfl ?_)
   repeat clear hm
   intro au aM aD w hm av aN
   refine gS (gS (gJ hm (fun aE => [(0, (.slice aA list.length aB)), (1, (nV n_)), (5, (nV aD)), (18, (.bool (aE)))]) (fun aE => [ow [.slice aA list.length aB] list]) (fun aE => ?_) ?_))
   ·refine gR (gM rfl (gM rfl (gY (yV st_43 rfl) (gB rfl (gM rfl (gsd 11 rfl (fun aO => ?_) fun aO => ?_))))))
    ·refine gM rfl (gM rfl (gg fun aP aQ aG => ?_))
     obtain ⟨aw, ax, ay, he⟩ := idx_form (hm.ow_rep 0 rfl) aG
     obtain ⟨rfl, _, rfl⟩ := sl3 he
     exact gI st_43 aQ (idx_lt aG) rfl (gY (yl isAgg3 ((flat_cells (cs := [nV aP]) (hm.ow_rep 0 rfl) aG rfl).cell (j := 0) rfl) rfl) (gM rfl (gB rfl (gKt rfl (gE (gz hm [0] rfl))))))
    exact gO rfl (gO rfl (gO rfl (gO rfl (gO rfl (gO rfl (gKf rfl (gE (gz hm [0] rfl))))))))
   repeat clear hm
   intro aE w hm
   refine gs 18 rfl (fun aR => ?_) fun aR => ?_
   ·exact gct rfl (gSk (gBk (gR (gM rfl (gB rfl (gA rfl (gE (gze hm [0] rfl))))))))
   exact gcf rfl (gXt (gHh (gLp aN aM (gz hm [0] rfl))))
  repeat clear hm
  intro aC w hm
  refine gS (gS (gJ hm (fun aF => [(0, (.slice aA list.length aB)), (1, (nV n_)), (5, (nV aC)), (32, (.bool (aF)))]) (fun aF => [ow [.slice aA list.length aB] list]) (fun aF => ?_) ?_))
  ·refine gR (gM rfl (gM rfl (gY (yV st_43 rfl) (gB rfl (gM rfl (gsd 25 rfl (fun aS => ?_) fun aS => ?_))))))
   ·refine gM rfl (gM rfl (gg fun aT aV aH => ?_))
    obtain ⟨az, bA, bB, he⟩ := idx_form (hm.ow_rep 0 rfl) aH
    obtain ⟨rfl, _, rfl⟩ := sl3 he
    exact gI st_43 aV (idx_lt aH) rfl (gY (yl isAgg3 ((flat_cells (cs := [nV aT]) (hm.ow_rep 0 rfl) aH rfl).cell (j := 0) rfl) rfl) (gM rfl (gB rfl (gKt rfl (gE (gz hm [0] rfl))))))
   exact gO rfl (gO rfl (gO rfl (gO rfl (gO rfl (gO rfl (gKf rfl (gE (gz hm [0] rfl))))))))
  repeat clear hm
  intro aF w hm
  refine gs 32 rfl (fun aW => ?_) fun aW => ?_
  ·exact gct rfl (gS (gR (gM rfl (gA rfl (gE (gRt (gr1 results235 rfl ⟨.slice aA list.length aB, rfl, hm.pk [0] rfl rfl⟩)))))))
  refine gcf rfl (gSk (gS (gR (gf rfl (fun a hf => e_build0 (α := Int) et_43 hm rfl) ?_))))
  rintro bC w hm
  refine gM rfl (gM rfl (gb fun bD aX => ?_))
  obtain ⟨aI, aY⟩ := subM_some.1 aX
  have aZ := (hm.ow_rep 1 rfl)
  obtain ⟨bE, aJ⟩ : ∃ nv, nv = subV (GT.sz (Int)) (.slice aA list.length aB) (0 : Int).toNat (aC : Int).toNat := ⟨_, rfl⟩
  refine gY (yG rfl (yl_eq aJ (y_slcH (α := Int) st_43 aZ rfl rfl rfl aI _))) (gb fun aa ab => ?_)
  obtain ⟨ac, ae⟩ := appM_some.1 ab
  refine gf rfl (fun a hf => e_append 0 et_43 hf hm rfl (view_rep aJ aY aI (hm.ow_rep 1 rfl)) rfl rfl rfl ac) ?_
  rintro af w hm
  rw [ae] at hm
  refine gA rfl (gE (gS (gW (.p 0 (.p 1 (.p 4 (.p 5 (.p 6 (.e 2 (.e 3 (.e 7 (.p 8 .fin) .nil) .nil) .nil)))))) [] [0, 1, 4, 5, 6, 8] hm [0, 1] [ow [af] aa, ow [.slice aA list.length aB] list] rfl mxo (by kernel_rfl) (fun _ _ _ h => h.2) fun w hm hS => tP rfl (fun w => yM rfl) (tP rfl (fun w => yM rfl) (tP rfl (fun w => yM rfl) (tP rfl (fun w => yM rfl) (gb fun bF ah => ?_)))))))
  obtain ⟨aK, ai⟩ := subM_some.1 ah
  have aj := (hm.ow_rep 1 rfl)
  obtain ⟨bG, aL⟩ : ∃ nv, nv = subV (GT.sz (Int)) (.slice aA list.length aB) (aC : Int).toNat ((list.length : Int) : Int).toNat := ⟨_, rfl⟩
  refine tP rfl (fun w => yG rfl (yl_eq aL (y_slcL (α := Int) st_43 aj rfl rfl rfl aK _))) (tO (tf rfl rfl (fun a hf => e_build (vs := #[(0, (nV n_))]) (cs := [nV n_]) et_43 hf hm rfl rfl (by kernel_rfl) rfl rfl) ?_))
  rintro _ w ⟨bH, rfl, hm⟩
  replace hm := hm.lit (xs := ([n_] : List Int)) 0 rfl rfl rfl rfl
  refine tAn rfl (tO (gb fun bJ ak => ?_))
  obtain ⟨al, am⟩ := appM_some.1 ak
  refine tf rfl rfl (fun a hf => e_append 1 et_43 hf hm rfl (hm.ow_rep 0 rfl) rfl rfl rfl al) ?_
  rintro bK w hm
  rw [am] at hm
  refine tAn rfl (tO (gb fun bL an => ?_))
  obtain ⟨ao, ap⟩ := appM_some.1 an
  refine tf rfl rfl (fun a hf => e_append 1 et_43 hf hm rfl (view_rep aL ai aK (hm.ow_rep 2 rfl)) rfl rfl rfl ao) ?_
  rintro aq w hm
  rw [ap] at hm
  exact tAn rfl (tP rfl (fun w => yA rfl) (tE (gRt (gr1 results235 rfl ⟨aq, rfl, hm.pk [1] rfl rfl⟩))))
theorem spec_l21Kinds_ok (w0 : World) (list : List Int) (v1 : Value) (h1 : GT.rep (hp w0) [v1] list) (below : Bool) :
    ConM Tryz.prog 156 [v1, (.bool (below))] w0 (spec_l21Kinds list below) fun r v w' => v = (nV r) ∧ Below w0.heap.size w0 w' := by
  unfold spec_l21Kinds
  refine gcon func156 rfl fun r => ?_
  have hm := Mem.start w0
  refine gS (gR (gA rfl (gE (gS (gR (gf rfl (fun a hf => e_build0 (α := Int) et_43 hm rfl) ?_))))))
  rintro aV w hm
  refine gA rfl (gE (gS (gS (gR (gA rfl (gE ?_))))))
  obtain ⟨aL, aM, rfl, aW⟩ := ro_slice (hm.ow_rep 0 rfl)
  refine gBk (gNg (fun aC aD a w => ∃ (aA : Value), St 29 [(0, v1), (1, (.bool (below))), (5, aA), (6, (nV aC))] w0 (hp w0) [ow [aA] aD] a w) (fun a hf => ⟨.slice aL ([] : List Int).length aM, hf.sb rfl, hm.pk [0] rfl rfl⟩) ?_ ?_)
  ·repeat clear hm
   rintro _ _ aC aD a w ⟨aA, hf, hm⟩ aX aY aZ _
   refine gv hf (gS (gS (gR (gM rfl (gM rfl ?_)))))
   obtain ⟨aN, aJ, rfl, aa⟩ := ro_slice h1
   refine gY (yV st_43 rfl) (gB rfl (gE (go _ 11 rfl (decide_eq_true (by omega)) (gct rfl (gSk (gS (gJg (fun aG a w => ∃ (aE : Value), St 29 [(0, (.slice aN list.length aJ)), (1, (.bool (below))), (5, aE), (6, (nV aC))] w0 (hp w0) [ow [aE] aG] a w) (fun aG => ?_) ?_)))))))
   ·refine gBk (gS (gR (gM rfl (gM rfl (gg fun aH aK aB => ?_)))))
    obtain ⟨aO, aP, ab, he⟩ := idx_form h1 aB
    obtain ⟨rfl, _, rfl⟩ := sl3 he
    refine gI st_43 aK (idx_lt aB) rfl (gY (yl isAgg3 ((flat_cells (cs := [nV aH]) (hm.now h1) aB rfl).cell (j := 0) rfl) rfl) (gB rfl (gM rfl (gY (yG rfl (y_eqlb underlying4 rfl rfl rfl)) (gE (gJg (fun aI a w => ∃ (aF : Value), St 29 [(0, (sV aO aP list.length aJ)), (1, (.bool (below))), (5, aF), (6, (nV aC))] w0 (hp w0) [ow [aF] aI] a w) (fun aI => ?_) ?_))))))
    ·refine gsd 20 rfl (fun aQ => ?_) fun aQ => ?_
     ·refine gct rfl (gR (gM rfl (gM rfl (gM rfl (gI st_43 aK (idx_lt aB) rfl (gY (yl isAgg3 ((flat_cells (cs := [nV aH]) (hm.now h1) aB rfl).cell (j := 0) rfl) rfl) ?_))))))
      obtain ⟨aR, hle, hm1, hsub, aS⟩ := hm.take2 (L1 := [ow [aA] aD]) (L2 := []) [0] [] (by decide) rfl rfl
      refine gCg rfl call235 (spec_l7Insert_ok _ aR aD aA aH hm1 ) ?_
      rintro ac ae aT w ⟨_, rfl, hB⟩
      replace hm := aS _ _ hB; clear hB
      exact gA rfl (gE (gZ fun a hf => ⟨aT, hf.sb rfl, hm.pk [0] rfl rfl⟩))
     exact gcf rfl (gSk (gZ fun a hf => ⟨aA, hf.sb rfl, hm.pk [0] rfl rfl⟩))
    repeat clear hm
    rintro aI a w ⟨aF, hf, hm⟩
    exact gv hf (gZ fun a hf => ⟨aF, hf.sb rfl, hm.pk [0] rfl rfl⟩)
   repeat clear hm
   rintro aG a w ⟨aE, hf, hm⟩
   exact gv hf (gR (gM rfl (gP (by omega) (by omega) rfl (gA rfl (gE (gZe fun a hf => ⟨aE, hf.sb rfl, hm.pk [0] rfl rfl⟩))))))
  repeat clear hm
  rintro af ah a w ⟨ai, hf, hm⟩ aj ak
  refine gv hf (gS (gS (gR (gM rfl (gM rfl ?_)))))
  obtain ⟨al, am, rfl, an⟩ := ro_slice h1
  refine gY (yV st_43 rfl) (gB rfl (gE (go _ 11 rfl (decide_eq_false (by omega)) (gcf rfl (gXt (gHh (gS (gR (gM rfl ?_)))))))))
  obtain ⟨ao, ap, rfl, aq⟩ := ro_slice (hm.ow_rep 0 rfl)
  exact gY (yV st_43 rfl) (gA rfl (gE (gRt (gr1 results156 rfl ⟨rfl, hm.below⟩))))
theorem spec_ColoursUsed_ok (w0 : World) (list : List Int) (v1 : Value) (h1 : GT.rep (hp w0) [v1] list) :
    ConM Tryz.prog 92 [v1] w0 (spec_ColoursUsed list) fun r v w' => v = (nV r) ∧ Below w0.heap.size w0 w' := by
  unfold spec_ColoursUsed
  refine gcon func92 rfl fun r => ?_
  have hm := Mem.start w0
  exact gS (gR (gA rfl (gE (gS (gR (gM rfl (gC hm rfl call156 (spec_l21Kinds_ok _ list v1 (hm.now h1) false) fun aA aB w hm => gA rfl (gE (gRt (gr1 results92 rfl ⟨rfl, hm.below⟩))))))))))
theorem spec_l21Paint_ok (w0 : World) (c_ : Code_) (v1 : Value) (h1 : GT.rep (hp w0) [v1] c_.blocks) (list : List Int) (v2 : Value) (h2 : GT.rep (hp w0) [v2] list) :
    ConM Tryz.prog 44 [(.agg #[nV c_.params, nV c_.regs, v1]), v2] w0 (spec_l21Paint c_ list) fun r v w' => ∃ (x1 : Value), v = (.agg #[nV r.params, nV r.regs, x1]) ∧ Mem w0 (hp w0) w' [ow [x1] r.blocks] := by
  unfold spec_l21Paint
  refine gcon func44 rfl fun r => ?_
  have hm := Mem.start w0
  refine gS (gR (gBx hm rfl fun aD w hm => gAl hm zeroValue49 rfl fun aE w hm => gE (gS (gR (gf rfl (fun a hf => e_build0 (α := Int) et_43 hm rfl) ?_)))))
  rintro be w hm
  refine gA rfl (gE (gS (gS (gR (gA rfl (gE ?_))))))
  obtain ⟨bB, bC, rfl, bf⟩ := ro_slice (hm.ow_rep 0 rfl)
  refine gBk (gb fun _ an => ?_)
  replace an := fitI_some.1 an
  refine gNg (fun ao ac a w => ∃ (aW : Value), St 78 [(1, v2), (2, (pV aD)), (4, (pV aE)), (5, aW), (6, (nV ao))] w0 (hp w0) [blk aD [nV c_.params, nV c_.regs, v1] 49, blk aE [nV 0, nV 0, .slice none 0 0] 49, ow [aW] ac] a w) (fun a hf => ⟨.slice bB ([] : List Int).length bC, hf.sb rfl, hm.pk [2, 1, 0] rfl rfl⟩) ?_ ?_
  ·repeat clear hm
   rintro _ _ ao ac a w ⟨aW, hf, hm⟩ bg bh bi _
   refine gv hf (gS (gS (gR (gM rfl (gF fo_49_1 rfl (gL hm 0 isAgg3 rfl (gB rfl (gE (go _ 15 rfl (decide_eq_true (by omega)) (gct rfl (gSk (gS (gBk (gW (.p 0 (.p 1 (.p 3 (.p 4 (.p 5 (.q 2 (.e 6 (.p 7 (.e 8 (.e 9 (.p 10 .fin) .nil) .nil)) .nil))))))) [6] [0, 1, 3, 4, 5, 7, 10] hm [0, 1, 2] [blk aD [nV c_.params, nV c_.regs, v1] 49, blk aE [nV 0, nV 0, .slice none 0 0] 49, ow [aW] ac] rfl mxo (by kernel_rfl) (fun _ _ _ h => h.2) fun w hm hS => tP rfl (fun w => yM rfl) (tP rfl (fun w => yF fo_49_0 rfl) (tP rfl (fun w => yM rfl) (tP rfl (fun w => yM rfl) (gg fun aX bD ae => ?_))))))))))))))))))
   obtain ⟨bj, bk, bm, he⟩ := idx_form h2 ae
   subst he
   refine tP rfl (fun w => yI st_43 bD (idx_lt ae) rfl) (tQ rfl hS (fun w hm => yL hm 0 isAgg3 rfl) (tO (tY rfl (yl isAgg3 ((flat_cells (cs := [nV aX]) (hm.now h2) ae rfl).cell (j := 0) rfl) rfl) (tAs hS (tP rfl (fun w => yB rfl) (tO (tf rfl rfl (fun a hf => e_build (vs := #[(0, (nV (w64 (c_.params + aX))))]) (cs := [nV (w64 (c_.params + aX))]) et_43 hf hm rfl rfl (by kernel_rfl) rfl rfl) ?_)))))))
   rintro _ w ⟨bo, rfl, hm⟩
   replace hm := hm.lit (xs := ([w64 (c_.params + aX)] : List Int)) 0 rfl rfl rfl rfl
   refine tAn rfl (tO (gb fun bp bE => ?_))
   obtain ⟨bF, bG⟩ := appM_some.1 bE
   refine tf rfl rfl (fun a hf => e_append 3 et_43 hf hm rfl (hm.ow_rep 0 rfl) rfl rfl rfl bF) ?_
   rintro bH w hm
   rw [bG] at hm
   exact tAn rfl (tP rfl (fun w => yA rfl) (tE (gR (gM rfl (gP (by omega) (by omega) rfl (gA rfl (gE (gZe fun a hf => ⟨bH, hf.sb rfl, hm.pk [1, 2, 3] rfl rfl⟩))))))))
  repeat clear hm
  rintro bq ap a w ⟨aq, hf, hm⟩ br bs
  refine gv hf (gS (gS (gR (gM rfl (gF fo_49_1 rfl (gL hm 0 isAgg3 rfl (gB rfl (gE (go _ 15 rfl (decide_eq_false (by omega)) (gcf rfl (gXt (gHh (gS (gR (gY (yn (hm.blk_at 0 rfl) isAgg49 sizeOf49 rfl) (gM rfl (gCg rfl call91 (spec_l7Each_ok _ c_ v1 (hm.now h1) ap aq (hm.ow_rep 2 rfl)) ?_)))))))))))))))))
  rintro aA bt bu w ⟨ar, rfl, hB⟩
  replace hm := hm.give hB; clear hB
  refine gAl hm zeroValue49 rfl fun aF w hm => gSN hm 0 sizeOf49 (one_cons rfl (one_cons rfl (one_cons (rep_one (hm.ow_rep 1 rfl)) one_nil))) rfl fun w hm => gE (gS (gR (gY (yn (hm.blk_at 2 rfl) isAgg49 sizeOf49 rfl) (gCg rfl call88 (spec_l12Live_ok _ c_ v1 (hm.now h1)) ?_))))
  rintro au bv bx w ⟨bJ, bK, rfl, hB⟩
  replace hm := hm.give hB; clear hB
  refine gY (yG rfl (y_field1 underlying93 rfl rfl isAgg45 rfl rfl rfl)) ?_
  obtain ⟨aM, af, hz_r0_1, hmf⟩ := hm.freeze 0 rfl
  replace hm := hmf.pk (L' := [ow [bK] au.outs, blk aF [nV aA.params, nV aA.regs, ar] 49, ow [ar] aA.blocks, blk aD [nV c_.params, nV c_.regs, v1] 49, blk aE [nV 0, nV 0, .slice none 0 0] 49, ow [aq] ap]) [1, 2, 3, 4, 5, 6] rfl rfl
  clear hmf
  replace hz_r0_1 : GT.rep aM [bJ] au.ins := fz_ow hz_r0_1
  refine gg fun av bL ah => ?_
  obtain ⟨bM, bN, bz, he⟩ := idx_form' hz_r0_1 ah
  subst he
  obtain ⟨_, _, ai, bO⟩ := ro_get' hz_r0_1 ah
  have aV := bO
  obtain ⟨aY, rfl, -⟩ := id aV
  replace aV : GT.rep aM [aY] av := aV
  replace ai : CellsAt aM bM (bN + (0 : Int).toNat * 1) [aY] := ai
  refine gI st_45 bL (idx_lt ah) rfl (gY (yl isAgg90 ((ai.mono hm.lez).cell (j := 0) rfl) rfl) (gA rfl (gE (gS (gR (gf rfl (fun a hf => e_build0 (α := Ins_) et_61 hm rfl) ?_))))))
  rintro cA w hm
  refine gA rfl (gE (gS (gS (gR (gA rfl (gE ?_))))))
  obtain ⟨aG, aC, rfl, cB⟩ := ro_slice (hm.ow_rep 3 rfl)
  obtain ⟨bP, bQ, rfl, cC⟩ := ro_slice (hm.ow_rep 0 rfl)
  refine gBk (gb fun _ aw => ?_)
  replace aw := fitI_some.1 aw
  refine gNg (fun aI aN a w => ∃ (aL : Value), St 78 [(1, v2), (2, (pV aD)), (4, (pV aE)), (7, (pV aF)), (8, aY), (9, aL), (10, (nV aI))] w0 aM [blk aD [nV c_.params, nV c_.regs, v1] 49, blk aE [nV 0, nV 0, .slice none 0 0] 49, blk aF [nV aA.params, nV aA.regs, .slice aG aA.blocks.length aC] 49, ow [.slice aG aA.blocks.length aC] aA.blocks, ow [aL] aN] a w) (fun a hf => ⟨.slice bP ([] : List Ins_).length bQ, hf.sb rfl, hm.pk [4, 5, 2, 3, 0] rfl rfl⟩) ?_ ?_
  ·repeat clear hm
   rintro _ _ aI aN a w ⟨aL, hf, hm⟩ cD cE cF _
   refine gv hf (gS (gS (gR (gM rfl (gF fo_49_0 rfl (gL hm 0 isAgg3 rfl (gB rfl (gE (go _ 40 rfl (decide_eq_true (by omega)) (gct rfl (gSk (gS (gJg (fun aj a w => ∃ (aZ : Value), St 78 [(1, v2), (2, (pV aD)), (4, (pV aE)), (7, (pV aF)), (8, aY), (9, aZ), (10, (nV aI))] w0 aM [blk aD [nV c_.params, nV c_.regs, v1] 49, blk aE [nV 0, nV 0, .slice none 0 0] 49, blk aF [nV aA.params, nV aA.regs, .slice aG aA.blocks.length aC] 49, ow [.slice aG aA.blocks.length aC] aA.blocks, ow [aZ] aj] a w) (fun aj => ?_) ?_)))))))))))))
   ·refine gBk (gS (gR (gM rfl (gM rfl (gg fun bR bS ak => ?_)))))
    obtain ⟨bT, bU, bV, he⟩ := idx_form aV ak
    subst he
    refine gI st_90 bS (idx_lt ak) rfl (gY (yl isAgg4 ((flat_cells (cs := [(.bool (bR))]) (hm.now aV) ak rfl).cell (j := 0) rfl) rfl) (gE (gJg (fun al a w => ∃ (aa : Value), St 78 [(1, v2), (2, (pV aD)), (4, (pV aE)), (7, (pV aF)), (8, (sV bT bU av.length bV)), (9, aa), (10, (nV aI))] w0 aM [blk aD [nV c_.params, nV c_.regs, v1] 49, blk aE [nV 0, nV 0, .slice none 0 0] 49, blk aF [nV aA.params, nV aA.regs, .slice aG aA.blocks.length aC] 49, ow [.slice aG aA.blocks.length aC] aA.blocks, ow [aa] al] a w) (fun al => ?_) ?_)))
    ·refine gs 46 rfl (fun bW => ?_) fun bW => ?_
     ·refine gct rfl (gW (.p 0 (.p 1 (.p 3 (.p 4 (.p 5 (.p 8 (.q 2 (.q 6 (.p 7 (.e 9 (.p 10 (.e 11 (.e 12 (.p 13 .fin) .nil) .nil)) .nil)))))))))) [2, 6, 9] [0, 1, 3, 4, 5, 7, 8, 10, 13] hm [0, 1, 2, 3, 4] [blk aD [nV c_.params, nV c_.regs, v1] 49, blk aE [nV 0, nV 0, .slice none 0 0] 49, blk aF [nV aA.params, nV aA.regs, .slice aG aA.blocks.length aC] 49, ow [.slice aG aA.blocks.length aC] aA.blocks, ow [aL] aN] rfl mxo (by kernel_rfl) (fun _ _ _ h => h.2) fun w hm hS => tP rfl (fun w => yM rfl) (tP rfl (fun w => yF fo_49_0 rfl) (tP rfl (fun w => yM rfl) (tP rfl (fun w => yM rfl) (gg fun aH bX am => ?_)))))
      obtain ⟨cG, cH, cI, he⟩ := idx_form h2 am
      subst he
      refine tP rfl (fun w => yI st_43 bX (idx_lt am) rfl) (tP rfl (fun w => yM rfl) (tQ rfl hS (fun w hm => yL hm 0 isAgg3 rfl) (tQ rfl hS (fun w hm => yl isAgg3 ((flat_cells (cs := [nV aH]) (hm.now (GT.mono af h2)) am rfl).cell (j := 0) rfl) rfl) (tP rfl (fun w => yB rfl) (tO (tf rfl rfl (fun a hf => e_build (vs := #[(0, (nV aI))]) (cs := [nV aI]) et_43 hf hm rfl rfl (by kernel_rfl) rfl rfl) ?_))))))
      rintro _ w ⟨aO, rfl, hm⟩
      replace hm := hm.lit (xs := ([aI] : List Int)) 0 rfl rfl rfl rfl
      refine tAk hm [1, 2, 3, 4, 5] rfl fun hS => tP rfl (fun w => yG rfl (y_build (vs := [(0, (nV 2)), (1, (nV (w64 (c_.params + aH)))), (2, (sV aO 0 1 1))]) (cs := #[nV 2, nV (w64 (c_.params + aH)), sV aO 0 1 1, nV 0]) rfl rfl (by kernel_rfl))) (tO (tf rfl rfl (fun a hf => e_build (vs := #[(0, (.agg #[nV 2, nV (w64 (c_.params + aH)), sV aO 0 1 1, nV 0]))]) (cs := [nV 2, nV (w64 (c_.params + aH)), sV aO 0 1 1, nV 0]) et_61 hf hm rfl rfl (by kernel_rfl) rfl rfl) ?_))
      rintro _ w ⟨ab, rfl, hm⟩
      replace hm := hm.els_nil (α := Ins_)
      replace hm : Mem w0 aM _ [els [] ([] : List Ins_), blk ab [nV 2, nV (w64 (c_.params + aH)), sV aO 0 1 1, nV 0] 65, ow [nV 2, nV (w64 (c_.params + aH)), sV aO 0 1 1, nV 0] ((⟨2, w64 (c_.params + aH), ([aI] : List Int), 0⟩ : Ins_) : Ins_), blk aD [nV c_.params, nV c_.regs, v1] 49, blk aE [nV 0, nV 0, .slice none 0 0] 49, blk aF [nV aA.params, nV aA.regs, .slice aG aA.blocks.length aC] 49, ow [.slice aG aA.blocks.length aC] aA.blocks, ow [aL] aN] := mk_Ins_ 2 (w64 (c_.params + aH)) 0 hm 2 rfl
      replace hm := (hm.els_cons 0 2 (by decide) rfl rfl).pk (L' := [els [nV 2, nV (w64 (c_.params + aH)), sV aO 0 1 1, nV 0] ([(⟨2, w64 (c_.params + aH), ([aI] : List Int), 0⟩ : Ins_)] : List Ins_), blk ab [nV 2, nV (w64 (c_.params + aH)), sV aO 0 1 1, nV 0] 65, blk aD [nV c_.params, nV c_.regs, v1] 49, blk aE [nV 0, nV 0, .slice none 0 0] 49, blk aF [nV aA.params, nV aA.regs, .slice aG aA.blocks.length aC] 49, ow [.slice aG aA.blocks.length aC] aA.blocks, ow [aL] aN]) [0, 1, 3, 4, 5, 6, 7] rfl rfl
      replace hm := (hm.lit_els 1 0 (by decide) rfl rfl rfl rfl).pk (L' := [ow [sV ab 0 1 1] ([(⟨2, w64 (c_.params + aH), ([aI] : List Int), 0⟩ : Ins_)] : List Ins_), blk aD [nV c_.params, nV c_.regs, v1] 49, blk aE [nV 0, nV 0, .slice none 0 0] 49, blk aF [nV aA.params, nV aA.regs, .slice aG aA.blocks.length aC] 49, ow [.slice aG aA.blocks.length aC] aA.blocks, ow [aL] aN]) [1, 2, 3, 4, 5, 6] rfl rfl
      refine tAn rfl (tO (gb fun cJ bY => ?_))
      obtain ⟨bZ, b6⟩ := appM_some.1 bY
      replace hm := (hm.both 5 0 (by decide) rfl rfl).pk (L' := [blk aD [nV c_.params, nV c_.regs, v1] 49, blk aE [nV 0, nV 0, .slice none 0 0] 49, blk aF [nV aA.params, nV aA.regs, .slice aG aA.blocks.length aC] 49, ow [.slice aG aA.blocks.length aC] aA.blocks, both (ow [aL] aN) (ow [sV ab 0 1 1] ([(⟨2, w64 (c_.params + aH), ([aI] : List Int), 0⟩ : Ins_)] : List Ins_))]) [1, 2, 3, 4, 5] rfl rfl
      refine tf rfl rfl (fun a hf => e_appendD (xs := aN) (ys := ([(⟨2, w64 (c_.params + aH), ([aI] : List Int), 0⟩ : Ins_)] : List Ins_)) 4 et_61 hf hm rfl rfl rfl rfl bZ) ?_
      rintro b7 w hm
      rw [b6] at hm
      exact tAn rfl (tP rfl (fun w => yA rfl) (tE (gZ fun a hf => ⟨b7, hf.sb rfl, hm.pk [0, 1, 2, 3, 4] rfl rfl⟩)))
     exact gcf rfl (gSk (gZ fun a hf => ⟨aL, hf.sb rfl, hm.pk [0, 1, 2, 3, 4] rfl rfl⟩))
    repeat clear hm
    rintro al a w ⟨aa, hf, hm⟩
    exact gv hf (gZ fun a hf => ⟨aa, hf.sb rfl, hm.pk [0, 1, 2, 3, 4] rfl rfl⟩)
   repeat clear hm
   rintro aj a w ⟨aZ, hf, hm⟩
   exact gv hf (gR (gM rfl (gP (by omega) (by omega) rfl (gA rfl (gE (gZe fun a hf => ⟨aZ, hf.sb rfl, hm.pk [0, 1, 2, 3, 4] rfl rfl⟩))))))
  repeat clear hm
  rintro cK ax a w ⟨b8, hf, hm⟩ cL cM
  refine gv hf (gS (gS (gR (gM rfl (gF fo_49_0 rfl (gL hm 0 isAgg3 rfl (gB rfl (gE (go _ 40 rfl (decide_eq_false (by omega)) (gcf rfl (gXt (gHh (gS (gW (.p 0 (.p 2 (.p 3 (.q 1 (.e 4 (.p 5 (.p 6 (.e 7 (.e 8 (.p 9 (.p 10 (.e 11 .fin .nil))) .nil) .nil))) .nil))))) [4, 7, 8] [0, 2, 3, 5, 6, 9, 10] hm [0, 1, 2] [blk aD [nV c_.params, nV c_.regs, v1] 49, blk aE [nV 0, nV 0, .slice none 0 0] 49, blk aF [nV aA.params, nV aA.regs, .slice aG aA.blocks.length aC] 49] rfl mxo (by kernel_rfl) (fun _ _ _ h => h.2) fun w hm hS => tP rfl (fun w => yF fo_49_2 rfl) (tP rfl (fun w => yM rfl) (tP rfl (fun w => yF fo_49_2 rfl) (tQ rfl hS (fun w hm => yL hm 2 isAgg47 rfl) (tO (tY rfl (yL hm 2 isAgg47 rfl) (tAs hS (gg fun aB ay aP => ?_)))))))))))))))))))))
  obtain ⟨aJ, aK, cN, he⟩ := idx_form' (hm.ow_rep 3 rfl) aP
  obtain ⟨rfl, _, rfl⟩ := sl3 he
  obtain ⟨cO, cP, cQ, cR, cS, cT, cU⟩ := rk_Block_ (hm.ow_rep 3 rfl) aP
  refine tP rfl (fun w => yI st_47 ay (idx_lt aP) rfl) (tP rfl (fun w => yF fo_63_1 rfl) (tO ?_))
  obtain ⟨aQ, az, aR, hm⟩ := pin_Block_ hm 3 rfl aP
  refine tY rfl (yl isAgg61 ((hm.holeE_at 6 rfl).cell (j := 1) rfl) rfl) (tAk hm [3, 4, 5] rfl fun hS => tO (gb fun aS b9 => ?_))
  obtain ⟨ba, bc⟩ := appM_some.1 b9
  replace hm := (hm.both 7 1 (by decide) rfl rfl).pk (L' := [ow [aR] aB.next_, ow [aQ] aB.phis, blk aD [nV c_.params, nV c_.regs, v1] 49, blk aE [nV 0, nV 0, .slice none 0 0] 49, blk aF [nV aA.params, nV aA.regs, sV aJ aK aA.blocks.length aC] 49, holeE aJ aK aA.blocks.length aC (aA.blocks : List Block_) (0 : Int).toNat [aQ, az, nV aB.jump, nV aB.on, aR], both (ow [b8] ax) (ow [az] aB.ins)]) [0, 2, 3, 4, 5, 6, 7] rfl rfl
  refine tf rfl rfl (fun a hf => e_appendD (xs := ax) (ys := aB.ins) 6 et_61 hf hm rfl rfl rfl rfl ba) ?_
  rintro aT w hm
  rw [bc] at hm
  refine tAk hm [2, 3, 4] rfl fun hS => ?_
  have hL0_1 := hm.holeE_len 5 rfl
  refine tP rfl (fun w => yI st_47 ay (idx_lt2 aP hL0_1) rfl) (tP rfl (fun w => yF fo_63_1 rfl) (tO ?_))
  have bA : ∀ u ∈ ([aT] : List Value), u.oneCell' = true := (one_cons (rep_one (hm.ow_rep 6 rfl)) one_nil)
  refine tf0 rfl rfl (fun a hf => e_storeH (j := 1) (vs := [aT]) 5 hf hm rfl rfl rfl sizeOf61 rfl rfl (cells_one (bA _ (List.mem_singleton.2 rfl))) bA rfl) ?_
  rintro _ w hm
  replace hm : Mem w0 aM _ [ow [aR] aB.next_, ow [aQ] aB.phis, blk aD [nV c_.params, nV c_.regs, v1] 49, blk aE [nV 0, nV 0, .slice none 0 0] 49, blk aF [nV aA.params, nV aA.regs, sV aJ aK aA.blocks.length aC] 49, holeE aJ aK aA.blocks.length aC (aA.blocks : List Block_) (0 : Int).toNat [aQ, aT, nV aB.jump, nV aB.on, aR], ow [aT] aS] := hm
  refine tAn rfl (tE (gS ?_))
  replace hm := (mk_Block_ aB.jump aB.on hm 1 6 0 rfl).pk (L' := [ow [aQ, aT, nV aB.jump, nV aB.on, aR] ((⟨aB.phis, aS, aB.jump, aB.on, aB.next_⟩ : Block_) : Block_), blk aD [nV c_.params, nV c_.regs, v1] 49, blk aE [nV 0, nV 0, .slice none 0 0] 49, blk aF [nV aA.params, nV aA.regs, sV aJ aK aA.blocks.length aC] 49, holeE aJ aK aA.blocks.length aC (aA.blocks : List Block_) (0 : Int).toNat [aQ, aT, nV aB.jump, nV aB.on, aR]]) [1, 2, 3, 4, 5] rfl rfl
  replace hm := (hm.shutE (y := ((⟨aB.phis, aS, aB.jump, aB.on, aB.next_⟩ : Block_) : Block_)) 4 0 (by decide) rfl rfl).pk (L' := [blk aD [nV c_.params, nV c_.regs, v1] 49, blk aE [nV 0, nV 0, .slice none 0 0] 49, blk aF [nV aA.params, nV aA.regs, sV aJ aK aA.blocks.length aC] 49, ow [sV aJ aK aA.blocks.length aC] (aA.blocks.set (0 : Int).toNat (⟨aB.phis, aS, aB.jump, aB.on, aB.next_⟩ : Block_))]) [1, 2, 3, 4] rfl rfl
  have cV := List.getElem?_set_self (a := ((⟨aB.phis, aS, aB.jump, aB.on, aB.next_⟩ : Block_) : Block_)) (idx_lt aP)
  refine gW (.p 0 (.p 2 (.q 1 (.e 3 (.p 4 (.p 5 (.e 6 .fin .nil))) .nil)))) [3] [0, 2, 4, 5] hm [0, 1, 2, 3] [blk aD [nV c_.params, nV c_.regs, v1] 49, blk aE [nV 0, nV 0, .slice none 0 0] 49, blk aF [nV aA.params, nV aA.regs, sV aJ aK aA.blocks.length aC] 49, ow [sV aJ aK aA.blocks.length aC] (aA.blocks.set (0 : Int).toNat (⟨aB.phis, aS, aB.jump, aB.on, aB.next_⟩ : Block_))] rfl mxo (by kernel_rfl) (fun _ _ _ h => h.2) fun w hm hS => tP rfl (fun w => yF fo_49_0 rfl) (tP rfl (fun w => yM rfl) (tQ rfl hS (fun w hm => yL hm 0 isAgg3 rfl) (tO (gb fun cW bd => tf rfl rfl (fun a hf => e_call hf rfl call92 rfl (spec_ColoursUsed_ok _ list v2 (hm.now (GT.mono af h2)) _ bd)) ?_))))
  rintro cX w ⟨rfl, hB⟩
  replace hm := hm.below' hB; clear hB
  refine tAk hm [0, 1, 2, 3] rfl fun hS => tP rfl (fun w => yB rfl) (tP rfl (fun w => yF fo_49_1 rfl) (tO (tf0 rfl rfl (fun a hf => e_store1 2 hf hm rfl sizeOf3 rfl rfl rfl rfl rfl) ?_)))
  rintro _ w hm
  refine tAn rfl (tE (gS (gR (gY (yn (hm.blk_at 2 rfl) isAgg49 sizeOf49 rfl) (gSN hm 1 sizeOf49 (one_cons rfl (one_cons rfl (one_cons rfl one_nil))) rfl fun w hm => gE (gRt ?_))))))
  replace hm := hm.thaw af
  exact grc 1 results44 hm rfl isAgg49 sizeOf49 ⟨sV aJ aK aA.blocks.length aC, rfl, hm.pk [3] rfl rfl⟩
theorem spec_ColourUnit_ok (w0 : World) (u : Unit_) (v1 : Value) (h1 : GT.rep (hp w0) [v1] u.codes) (most : Int) :
    ConM Tryz.prog 14 [(.agg #[v1]), nV most] w0 (spec_ColourUnit u most) fun r v w' => ∃ (x1 : Value), v = (.tuple #[(.agg #[x1]), (.bool (r.2))]) ∧ Mem w0 (hp w0) w' [ow [x1] r.1.codes] := by
  unfold spec_ColourUnit
  refine gcon func14 rfl fun r => ?_
  have hm := Mem.start w0
  refine gS (gR (gBx hm rfl fun aF w hm => gAl hm zeroValue28 rfl fun aG w hm => gA rfl (gE (gS (gS (gJ hm (fun aO => [(1, (nV most)), (2, (pV aF)), (4, (pV aG)), (22, (.bool (aO)))]) (fun aO => [blk aF [v1] 28, blk aG [.slice none 0 0] 28]) (fun aO => ?_) ?_))))))
  ·refine gR (gY (yn (hm.blk_at 1 rfl) isAgg28 sizeOf28 rfl) (gC hm rfl call39 (spec_UnitValid_ok _ u v1 (hm.now h1)) fun bA bB w hm => gN rfl (gM rfl (gsn 13 rfl (fun ae => ?_) fun ae => ?_))))
   ·exact gO rfl (gO rfl (gO rfl (gKt rfl (gM rfl (gO rfl (gO rfl (gO rfl (gKt rfl (gE (gz hm [1, 0] rfl))))))))))
   refine gY (yn (hm.blk_at 1 rfl) isAgg28 sizeOf28 rfl) (gC hm rfl call40 (spec_PhiCount_ok _ u v1 (hm.now h1)) fun bC bD w hm => gB rfl (gKf rfl (gM rfl (gsd 18 rfl (fun af => ?_) fun af => ?_))))
   ·exact gO rfl (gO rfl (gO rfl (gKt rfl (gE (gz hm [1, 0] rfl)))))
   exact gM rfl (gC hm rfl call41 (spec_l1In_ok _ most 1 16) fun bE bF w hm => gN rfl (gKf rfl (gE (gz hm [1, 0] rfl))))
  repeat clear hm
  intro aO w hm
  refine gs 22 rfl (fun ah => ?_) fun ah => ?_
  ·refine gct rfl (gS (gR (gY (yG rfl (y_build (vs := []) (cs := #[.slice none 0 0]) rfl rfl (by kernel_rfl))) (gSN hm 1 sizeOf28 (one_cons rfl one_nil) rfl fun w hm => gA rfl (gE (gRt ?_))))))
   replace hm := hm.nilow (α := Code_)
   exact grct 2 results14 hm rfl isAgg28 sizeOf28 ⟨.slice none 0 0, rfl, hm.pk [0] rfl rfl⟩
  refine gcf rfl (gSk (gS (gR (gY (yG rfl (y_build (vs := []) (cs := #[.slice none 0 0]) rfl rfl (by kernel_rfl))) (gAl hm zeroValue28 rfl fun aH w hm => gSN hm 0 sizeOf28 (one_cons rfl one_nil) rfl fun w hm => gE (gS (gS (gR (gA rfl (gE (gBk ?_)))))))))))
  replace hm := hm.nilow (α := Code_)
  refine gNg (fun aR aA a w => ∃ (aS : Value), St 69 [(1, (nV most)), (2, (pV aF)), (4, (pV aG)), (6, (pV aH)), (7, (nV aR))] w0 (hp w0) [blk aF [v1] 28, blk aG [.slice none 0 0] 28, blk aH [aS] 28, ow [aS] aA] a w) (fun a hf => ⟨.slice none 0 0, hf.sb rfl, hm.pk [2, 3, 1, 0] rfl rfl⟩) ?_ ?_
  ·repeat clear hm
   rintro bG ai aR aA a w ⟨aS, hf, hm⟩ bH bJ bK aj
   refine gv hf (gS (gS (gR (gM rfl (gF fo_28_0 rfl (gL hm 0 isAgg26 rfl ?_))))))
   obtain ⟨bL, aK, rfl, bM⟩ := ro_slice h1
   refine gY (yV st_26 rfl) (gB rfl (gE (go _ 29 rfl (decide_eq_true (by omega)) (gct rfl (gSk (gS (gBk (gS (gR (gF fo_28_0 rfl (gL hm 0 isAgg26 rfl (gM rfl (gg fun aW aX aP => ?_)))))))))))))
   obtain ⟨aL, aM, bN, he⟩ := idx_form' h1 aP
   obtain ⟨rfl, _, rfl⟩ := sl3 he
   obtain ⟨aY, aZ, aa⟩ := rk_Code_ h1 aP
   refine gI st_26 aX (idx_lt aP) rfl (gY (yn (aZ.mono hm.lez) isAgg49 sizeOf49 rfl) (gCg rfl call43 (spec_l21Table_ok _ aW aY (hm.now aa)) ?_))
   rintro ak bO al w ⟨_, rfl, hB⟩
   replace hm := hm.give hB; clear hB
   refine gM rfl (gCg rfl call42 (spec_l21Colours_ok _ ak al (hm.ow_rep 0 rfl) most) ?_)
   rintro aC bP bQ w ⟨_, rfl, hB⟩
   replace hm := hm.give hB; clear hB
   refine gA rfl (gE (gS (gS (gR (gA rfl (gE ?_))))))
   obtain ⟨aD, aE, rfl, bR⟩ := ro_slice (hm.ow_rep 5 rfl)
   obtain ⟨aI, aJ, rfl, bS⟩ := ro_slice (hm.ow_rep 0 rfl)
   refine gBk (gNf hm (fun aT ab => [(1, (nV most)), (2, (pV aF)), (4, (pV aG)), (6, (pV aH)), (7, (nV aR)), (8, (.slice aI aC.length aJ)), (9, (nV aT))]) (fun aT ab => [blk aF [sV aL aM u.codes.length aK] 28, blk aG [.slice none 0 0] 28, blk aH [.slice aD aA.length aE] 28, ow [.slice aD aA.length aE] aA, ow [.slice aI aC.length aJ] aC]) [2, 3, 4, 5, 0] rfl ?_ ?_)
   ·repeat clear hm
    intro bT am aT ab w hm bU bV bW an
    refine gS (gS (gR (gM rfl (gM rfl (gY (yV st_43 rfl) (gB rfl (gE (go _ 43 rfl (decide_eq_true (by omega)) (gct rfl (gSk (gS (gBk (gS (gR (gM rfl (gM rfl (gg fun ao ap aV => ?_)))))))))))))))))
    obtain ⟨bX, bY, bZ, he⟩ := idx_form (hm.ow_rep 4 rfl) aV
    obtain ⟨rfl, _, rfl⟩ := sl3 he
    refine gI st_43 ap (idx_lt aV) rfl (gY (yl isAgg3 ((flat_cells (cs := [nV ao]) (hm.ow_rep 4 rfl) aV rfl).cell (j := 0) rfl) rfl) (gB rfl (gE (gsd 50 rfl (fun aq => ?_) fun aq => ?_))))
    ·refine gct rfl (gS (gR (gY (yG rfl (y_build (vs := []) (cs := #[.slice none 0 0]) rfl rfl (by kernel_rfl))) (gSN hm 1 sizeOf28 (one_cons rfl one_nil) rfl fun w hm => gA rfl (gE (gRt (gLr an am (gLr aj ai ?_))))))))
     replace hm := hm.nilow (α := Code_)
     exact grct 2 results14 hm rfl isAgg28 sizeOf28 ⟨.slice none 0 0, rfl, hm.pk [0] rfl rfl⟩
    exact gcf rfl (gSk (gR (gM rfl (gP (by omega) (by omega) rfl (gA rfl (gE (gze hm [0, 1, 2, 3, 4] rfl)))))))
   repeat clear hm
   intro b6 b7 w hm b8 b9
   refine gS (gS (gR (gM rfl (gM rfl (gY (yV st_43 rfl) (gB rfl (gE (go _ 43 rfl (decide_eq_false (by omega)) (gcf rfl (gXt (gHh (gW (.p 0 (.p 2 (.p 4 (.p 7 (.q 1 (.e 3 (.p 5 (.e 6 (.e 8 (.e 9 (.e 10 (.p 11 (.e 12 .fin .nil)) .nil) .nil) .nil) .nil)) .nil)))))) [3, 6, 8, 9] [0, 2, 4, 5, 7, 11] hm [0, 1, 2, 3, 4] [blk aF [sV aL aM u.codes.length aK] 28, blk aG [.slice none 0 0] 28, blk aH [.slice aD aA.length aE] 28, ow [.slice aD aA.length aE] aA, ow [.slice aI aC.length aJ] aC] rfl mxo (by kernel_rfl) (fun _ _ _ h => h.2) fun w hm hS => tP rfl (fun w => yF fo_28_0 rfl) (tP rfl (fun w => yF fo_28_0 rfl) (tP rfl (fun w => yM rfl) (tP rfl (fun w => yM rfl) (tQ rfl hS (fun w hm => yL hm 2 isAgg26 rfl) (tO (tY rfl (yL hm 0 isAgg26 rfl) (tAs hS (tP rfl (fun w => yI st_26 aX (idx_lt aP) rfl) (tO (tY rfl (yn (aZ.mono hm.lez) isAgg49 sizeOf49 rfl) (tAs hS (tO (gb fun aB ar => tf rfl rfl (fun a hf => e_call hf rfl call44 rfl (spec_l21Paint_ok _ aW aY (hm.now aa) aC (.slice aI aC.length aJ) (hm.ow_rep 4 rfl) _ ar)) ?_)))))))))))))))))))))))))
   rintro ba w ⟨aN, rfl, hB⟩
   replace hm := hm.give hB; clear hB
   refine tAk hm [1, 2, 3, 4, 5] rfl fun hS => tO (tf rfl rfl (fun a hf => e_build (vs := #[(0, (.agg #[nV aB.params, nV aB.regs, aN]))]) (cs := [nV aB.params, nV aB.regs, aN]) et_26 hf hm rfl rfl (by kernel_rfl) rfl rfl) ?_)
   rintro _ w ⟨aQ, rfl, hm⟩
   replace hm := hm.els_nil (α := Code_)
   replace hm : Mem w0 (hp w0) _ [els [] ([] : List Code_), blk aQ [nV aB.params, nV aB.regs, aN] 49, ow [nV aB.params, nV aB.regs, aN] (aB : Code_), blk aF [sV aL aM u.codes.length aK] 28, blk aG [.slice none 0 0] 28, blk aH [.slice aD aA.length aE] 28, ow [.slice aD aA.length aE] aA, ow [.slice aI aC.length aJ] aC] := mk_Code_ aB.params aB.regs hm 2 rfl
   replace hm := (hm.els_cons 0 2 (by decide) rfl rfl).pk (L' := [els [nV aB.params, nV aB.regs, aN] ([aB] : List Code_), blk aQ [nV aB.params, nV aB.regs, aN] 49, blk aF [sV aL aM u.codes.length aK] 28, blk aG [.slice none 0 0] 28, blk aH [.slice aD aA.length aE] 28, ow [.slice aD aA.length aE] aA, ow [.slice aI aC.length aJ] aC]) [0, 1, 3, 4, 5, 6, 7] rfl rfl
   replace hm := (hm.lit_els 1 0 (by decide) rfl rfl rfl rfl).pk (L' := [ow [sV aQ 0 1 1] ([aB] : List Code_), blk aF [sV aL aM u.codes.length aK] 28, blk aG [.slice none 0 0] 28, blk aH [.slice aD aA.length aE] 28, ow [.slice aD aA.length aE] aA, ow [.slice aI aC.length aJ] aC]) [1, 2, 3, 4, 5, 6] rfl rfl
   refine tAk hm [1, 2, 3, 4, 5] rfl fun hS => tO (gb fun bc au => ?_)
   obtain ⟨av, aw⟩ := appM_some.1 au
   replace hm := (hm.both 4 0 (by decide) rfl rfl).pk (L' := [blk aF [sV aL aM u.codes.length aK] 28, blk aG [.slice none 0 0] 28, blk aH [.slice aD aA.length aE] 28, both (ow [.slice aD aA.length aE] aA) (ow [sV aQ 0 1 1] ([aB] : List Code_)), ow [.slice aI aC.length aJ] aC]) [1, 2, 3, 4, 5] rfl rfl
   refine tf rfl rfl (fun a hf => e_appendD (xs := aA) (ys := ([aB] : List Code_)) 3 et_26 hf hm rfl rfl rfl rfl av) ?_
   rintro ax w hm
   rw [aw] at hm
   refine tAn rfl (tP rfl (fun w => yF fo_28_0 rfl) (tO (tf0 rfl rfl (fun a hf => e_store1 2 hf hm rfl sizeOf26 rfl rfl rfl (rep_one (hm.ow_rep 3 rfl)) rfl) ?_)))
   rintro _ w hm
   exact tAn rfl (tE (gR (gM rfl (gP (by omega) (by omega) rfl (gA rfl (gE (gZe fun a hf => ⟨ax, hf.sb rfl, hm.pk [0, 1, 2, 3] rfl rfl⟩)))))))
  repeat clear hm
  rintro bd ay a w ⟨ac, hf, hm⟩ be bf
  refine gv hf (gS (gS (gR (gM rfl (gF fo_28_0 rfl (gL hm 0 isAgg26 rfl ?_))))))
  obtain ⟨bg, bh, rfl, bi⟩ := ro_slice h1
  refine gY (yV st_26 rfl) (gB rfl (gE (go _ 29 rfl (decide_eq_false (by omega)) (gcf rfl (gXt (gHh (gS (gS (gR (gY (yn (hm.blk_at 2 rfl) isAgg28 sizeOf28 rfl) (gC hm rfl call39 (spec_UnitValid_ok _ (⟨ay⟩ : Unit_) ac (hm.ow_rep 3 rfl)) fun bj bk w hm => gN rfl (gE (gsn 66 rfl (fun az => ?_) fun az => ?_)))))))))))))
  ·refine gct rfl (gS (gR (gY (yG rfl (y_build (vs := []) (cs := #[.slice none 0 0]) rfl rfl (by kernel_rfl))) (gSN hm 1 sizeOf28 (one_cons rfl one_nil) rfl fun w hm => gA rfl (gE (gRt ?_))))))
   replace hm := hm.nilow (α := Code_)
   exact grct 2 results14 hm rfl isAgg28 sizeOf28 ⟨.slice none 0 0, rfl, hm.pk [0] rfl rfl⟩
  exact gcf rfl (gSk (gS (gR (gY (yn (hm.blk_at 2 rfl) isAgg28 sizeOf28 rfl) (gSN hm 1 sizeOf28 (one_cons (rep_one (hm.ow_rep 3 rfl)) one_nil) rfl fun w hm => gA rfl (gE (gRt (grct 1 results14 hm rfl isAgg28 sizeOf28 ⟨ac, rfl, hm.pk [3] rfl rfl⟩))))))))
theorem impl_within_ok (w0 : World) (n_ : Int) (low : Int) (high : Int) :
    ConM Tryz.prog 47 [nV n_, nV low, nV high] w0 (impl_within n_ low high) fun r v w' => v = (.bool (r)) ∧ Below w0.heap.size w0 w' := by
  unfold impl_within
  refine gcon func47 rfl fun r => ?_
  have hm := Mem.start w0
  refine gS (gR (gA rfl (gE (gS (gJ hm (fun aA => [(6, (.bool (aA)))]) (fun aA => []) (fun aA => ?_) ?_)))))
  ·refine gR (gM rfl (gM rfl (gB rfl (gM rfl (gsd 10 rfl (fun aB => ?_) fun aB => ?_)))))
   ·exact gM rfl (gM rfl (gB rfl (gKt rfl (gA rfl (gE (gz hm [] rfl))))))
   exact gO rfl (gO rfl (gO rfl (gKf rfl (gA rfl (gE (gz hm [] rfl))))))
  repeat clear hm
  intro aA w hm
  exact gRt (gr1 results47 rfl ⟨rfl, hm.below⟩)
theorem impl_codeOk_1_ok (w0 : World) (r_ : Int) (c0_ : Code_) (v1 : Value) (h1 : GT.rep (hp w0) [v1] c0_.blocks) (bf0 : Nat) (hbf0 : w0.heap[bf0]? = some (.cells ([nV c0_.params, nV c0_.regs, v1] : List Value).toArray 49 (0, 0))) :
    ConM Tryz.prog 179 [nV r_, (pV bf0)] w0 (impl_codeOk_1 r_ c0_) fun r v w' => v = (.bool (r)) ∧ Below w0.heap.size w0 w' := by
  unfold impl_codeOk_1
  refine gcon func179 rfl fun r => ?_
  have hm := Mem.start w0
  exact gS (gR (gA rfl (gE (gS (gR (gM rfl (gF fo_49_1 rfl (gY (yl isAgg3 (hm.old_cell hbf0 rfl) rfl) (gB rfl (gC hm rfl call47 (impl_within_ok _ r_ 0 (w64 (c0_.regs - 1))) fun aA aB w hm => gA rfl (gE (gRt (gr1 results179 rfl ⟨rfl, hm.below⟩)))))))))))))
theorem impl_nextCount_ok (w0 : World) (jump : Int) :
    ConM Tryz.prog 180 [nV jump] w0 (impl_nextCount jump) fun r v w' => v = (nV r) ∧ Below w0.heap.size w0 w' := by
  unfold impl_nextCount
  refine gcon func180 rfl fun r => ?_
  have hm := Mem.start w0
  refine gS (gR (gA rfl (gE (gS (gS (gR (gM rfl (gE (gBk (gS (gR (gB rfl (gA rfl (gE (gsd 4 rfl (fun aA => ?_) fun aA => ?_)))))))))))))))
  ·exact gct rfl (gS (gR (gA rfl (gE (gRt (gr1 results180 rfl ⟨rfl, hm.below⟩))))))
  refine gcf rfl (gS (gR (gB rfl (gA rfl (gE (gsd 6 rfl (fun aB => ?_) fun aB => ?_))))))
  ·exact gct rfl (gS (gR (gA rfl (gE (gRt (gr1 results180 rfl ⟨rfl, hm.below⟩))))))
  refine gcf rfl (gS (gR (gB rfl (gA rfl (gE (gsd 8 rfl (fun aC => ?_) fun aC => ?_))))))
  ·exact gct rfl (gS (gR (gA rfl (gE (gRt (gr1 results180 rfl ⟨rfl, hm.below⟩))))))
  exact gcf rfl (gSk (gS (gR (gA rfl (gE (gRt (gr1 results180 rfl ⟨rfl, hm.below⟩)))))))
theorem impl_usesOn_ok (w0 : World) (jump : Int) :
    ConM Tryz.prog 166 [nV jump] w0 (impl_usesOn jump) fun r v w' => v = (.bool (r)) ∧ Below w0.heap.size w0 w' := by
  unfold impl_usesOn
  refine gcon func166 rfl fun r => ?_
  have hm := Mem.start w0
  refine gS (gR (gA rfl (gE (gS (gJ hm (fun aA => [(2, (.bool (aA)))]) (fun aA => []) (fun aA => ?_) ?_)))))
  ·refine gR (gM rfl (gB rfl (gM rfl (gsd 5 rfl (fun aB => ?_) fun aB => ?_))))
   ·exact gO rfl (gO rfl (gKt rfl (gA rfl (gE (gz hm [] rfl)))))
   exact gM rfl (gB rfl (gKf rfl (gA rfl (gE (gz hm [] rfl)))))
  repeat clear hm
  intro aA w hm
  exact gRt (gr1 results166 rfl ⟨rfl, hm.below⟩)
theorem impl_codeOk_2_ok (w0 : World) (n_ : Int) (c0_ : Code_) (v1 : Value) (h1 : GT.rep (hp w0) [v1] c0_.blocks) (bf0 : Nat) (hbf0 : w0.heap[bf0]? = some (.cells ([nV c0_.params, nV c0_.regs, v1] : List Value).toArray 49 (0, 0))) :
    ConM Tryz.prog 182 [nV n_, (pV bf0)] w0 (impl_codeOk_2 n_ c0_) fun r v w' => v = (.bool (r)) ∧ Below w0.heap.size w0 w' := by
  unfold impl_codeOk_2
  refine gcon func182 rfl fun r => ?_
  have hm := Mem.start w0
  refine gS (gR (gA rfl (gE (gS (gR (gM rfl (gF fo_49_2 rfl (gY (yl isAgg47 (hm.old_cell hbf0 rfl) rfl) ?_))))))))
  obtain ⟨aA, aB, rfl, aC⟩ := ro_slice h1
  exact gY (yV st_47 rfl) (gY (yS (by omega) (by omega) rfl) (gC hm rfl call47 (impl_within_ok _ n_ 1 (((c0_.blocks.length : Int)) - 1)) fun aD aE w hm => gN rfl (gA rfl (gE (gRt (gr1 results182 rfl ⟨rfl, hm.below⟩))))))
theorem slices_IndexFunc_S_int_int_ok (w0 : World) (s_ : List Int) (v1 : Value) (h1 : GT.rep (hp w0) [v1] s_) (f : Int → Option Bool) (fv1 : Value) (hfn1 : ∀ (w : World) (y0 : Int) (r : Bool), Below w0.heap.size w0 w → f y0 = some r → FnOk Tryz.prog fv1 [nV y0] w (fun v w' => v = (.bool (r)) ∧ Below w.heap.size w w')) :
    ConM Tryz.prog 247 [v1, fv1] w0 (slices_IndexFunc_S_int_int s_ f) fun r v w' => v = (nV r) ∧ Below w0.heap.size w0 w' := by
  unfold slices_IndexFunc_S_int_int
  refine gcon func247 rfl fun r => ?_
  have hm := Mem.start w0
  refine gS (gR (gA rfl (gE (gS (gS (gR (gM rfl ?_)))))))
  obtain ⟨aE, aF, rfl, aL⟩ := ro_slice h1
  refine gY (yV st_43 rfl) (gM rfl (gE (gBk (gNf hm (fun aA aC => [(0, (.slice aE s_.length aF)), (1, fv1), (7, (nV ((s_.length : Int)))), (8, (nV aA))]) (fun aA aC => []) [] rfl ?_ ?_))))
  ·repeat clear hm
   intro aM aG aA aC w hm aN aO aP aH
   refine gS (gR (gB rfl (gE (gS (go _ 9 rfl (decide_eq_true (by omega)) (gct rfl (gSk (gS (gBk (gS (gR (gM rfl (gA rfl (gE (gS (gR (gM rfl (gM rfl (gM rfl (gg fun aD aI aB => ?_))))))))))))))))))))
   obtain ⟨aQ, aR, aS, he⟩ := idx_form h1 aB
   obtain ⟨rfl, _, rfl⟩ := sl3 he
   refine gI st_43 aI (idx_lt aB) rfl (gY (yl isAgg3 ((flat_cells (cs := [nV aD]) (hm.now h1) aB rfl).cell (j := 0) rfl) rfl) (gb fun aT aJ => gf rfl (fun a hf => e_callv hf rfl rfl rfl (hfn1 _ aD _ hm.below aJ)) ?_))
   rintro aV w ⟨rfl, hB⟩
   replace hm := hm.below' hB; clear hB
   refine gE (gs 16 rfl (fun aK => ?_) fun aK => ?_)
   ·exact gct rfl (gS (gR (gM rfl (gA rfl (gE (gRt (gLr aH aG (gr1 results247 rfl ⟨rfl, hm.below⟩))))))))
   exact gcf rfl (gSk (gR (gP (by omega) (by omega) rfl (gM rfl (gE (gze hm [] rfl))))))
  repeat clear hm
  intro aW aX w hm aY aZ
  exact gS (gR (gB rfl (gE (gS (go _ 9 rfl (decide_eq_false (by omega)) (gcf rfl (gXt (gHh (gS (gR (gA rfl (gE (gRt (gr1 results247 rfl ⟨rfl, hm.below⟩))))))))))))))
theorem slices_ContainsFunc_S_int_int_ok (w0 : World) (s_ : List Int) (v1 : Value) (h1 : GT.rep (hp w0) [v1] s_) (f : Int → Option Bool) (fv1 : Value) (hfn1 : ∀ (w : World) (y0 : Int) (r : Bool), Below w0.heap.size w0 w → f y0 = some r → FnOk Tryz.prog fv1 [nV y0] w (fun v w' => v = (.bool (r)) ∧ Below w.heap.size w w')) :
    ConM Tryz.prog 181 [v1, fv1] w0 (slices_ContainsFunc_S_int_int s_ f) fun r v w' => v = (.bool (r)) ∧ Below w0.heap.size w0 w' := by
  unfold slices_ContainsFunc_S_int_int
  refine gcon func181 rfl fun r => ?_
  have hm := Mem.start w0
  exact gS (gR (gA rfl (gE (gS (gR (gM rfl (gM rfl (gC hm rfl call247 (slices_IndexFunc_S_int_int_ok _ s_ v1 (hm.now h1) f fv1 (fun w y0 r hB hq => hfn1 w y0 r (hm.below.trans (hB.mono hm.below.size)) hq)) fun aA aB w hm => gB rfl (gA rfl (gE (gRt (gr1 results181 rfl ⟨rfl, hm.below⟩))))))))))))
theorem impl_insOk_1_ok (w0 : World) (r_ : Int) (c0_ : Code_) (v1 : Value) (h1 : GT.rep (hp w0) [v1] c0_.blocks) (bf0 : Nat) (hbf0 : w0.heap[bf0]? = some (.cells ([nV c0_.params, nV c0_.regs, v1] : List Value).toArray 49 (0, 0))) :
    ConM Tryz.prog 249 [nV r_, (pV bf0)] w0 (impl_insOk_1 r_ c0_) fun r v w' => v = (.bool (r)) ∧ Below w0.heap.size w0 w' := by
  unfold impl_insOk_1
  refine gcon func249 rfl fun r => ?_
  have hm := Mem.start w0
  exact gS (gR (gA rfl (gE (gS (gR (gM rfl (gF fo_49_1 rfl (gY (yl isAgg3 (hm.old_cell hbf0 rfl) rfl) (gB rfl (gC hm rfl call47 (impl_within_ok _ r_ 0 (w64 (c0_.regs - 1))) fun aA aB w hm => gA rfl (gE (gRt (gr1 results249 rfl ⟨rfl, hm.below⟩)))))))))))))
theorem impl_isIns_ok (w0 : World) (op : Int) :
    ConM Tryz.prog 243 [nV op] w0 (impl_isIns op) fun r v w' => v = (.bool (r)) ∧ Below w0.heap.size w0 w' := by
  unfold impl_isIns
  refine gcon func243 rfl fun r => ?_
  have hm := Mem.start w0
  exact gS (gR (gA rfl (gE (gS (gR (gM rfl (gC hm rfl call47 (impl_within_ok _ op 1 14) fun aA aB w hm => gA rfl (gE (gRt (gr1 results243 rfl ⟨rfl, hm.below⟩))))))))))
theorem impl_insOk_2_ok (w0 : World) (r_ : Int) (c0_0_ : Code_) (v1 : Value) (h1 : GT.rep (hp w0) [v1] c0_0_.blocks) (aA : Nat) (aB : w0.heap[aA]? = some (.cells ([nV c0_0_.params, nV c0_0_.regs, v1] : List Value).toArray 49 (0, 0))) (bf0 : Nat) (hbf0 : w0.heap[bf0]? = some (.cells ([(.func (.func 249) #[] #[(pV aA)])] : List Value).toArray 95 (0, 0))) :
    ConM Tryz.prog 250 [nV r_, (pV bf0)] w0 (impl_insOk_2 r_ c0_0_) fun r v w' => v = (.bool (r)) ∧ Below w0.heap.size w0 w' := by
  unfold impl_insOk_2
  refine gcon func250 rfl fun r => ?_
  have hm := Mem.start w0
  refine gS (gR (gA rfl (gE (gS (gR (gY (yl isAgg95 (hm.old_cell hbf0 rfl) rfl) (gM rfl (gb fun aD aC => gf rfl (fun a hf => e_callv hf rfl rfl rfl ⟨249, [(pV aA)], rfl, call249, impl_insOk_1_ok _ r_ c0_0_ v1 (rep_later (hm.now h1) (Below.refl _ _)) aA (hm.old_later aB (Below.refl _ _)) _ aC⟩) ?_))))))))
  rintro aE w ⟨rfl, hB⟩
  replace hm := hm.below' hB; clear hB
  exact gN rfl (gA rfl (gE (gRt (gr1 results250 rfl ⟨rfl, hm.below⟩))))
theorem impl_sets_ok (w0 : World) (op : Int) :
    ConM Tryz.prog 165 [nV op] w0 (impl_sets op) fun r v w' => v = (.bool (r)) ∧ Below w0.heap.size w0 w' := by
  unfold impl_sets
  refine gcon func165 rfl fun r => ?_
  have hm := Mem.start w0
  refine gS (gR (gA rfl (gE (gS (gJ hm (fun aA => [(2, (.bool (aA)))]) (fun aA => []) (fun aA => ?_) ?_)))))
  ·refine gR (gM rfl (gC hm rfl call243 (impl_isIns_ok _ op) fun aD aE w hm => gM rfl (gs 5 rfl (fun aB => ?_) fun aB => ?_)))
   ·refine gM rfl (gB rfl (gKt rfl (gM rfl (gsd 9 rfl (fun aC => ?_) fun aC => ?_))))
    ·exact gM rfl (gB rfl (gKt rfl (gA rfl (gE (gz hm [] rfl)))))
    exact gO rfl (gO rfl (gKf rfl (gA rfl (gE (gz hm [] rfl)))))
   exact gO rfl (gO rfl (gKf rfl (gM rfl (gO rfl (gO rfl (gKf rfl (gA rfl (gE (gz hm [] rfl)))))))))
  repeat clear hm
  intro aA w hm
  exact gRt (gr1 results165 rfl ⟨rfl, hm.below⟩)
theorem impl_isByte_ok (w0 : World) (n_ : Int) :
    ConM Tryz.prog 251 [nV n_] w0 (impl_isByte n_) fun r v w' => v = (.bool (r)) ∧ Below w0.heap.size w0 w' := by
  unfold impl_isByte
  refine gcon func251 rfl fun r => ?_
  have hm := Mem.start w0
  exact gS (gR (gA rfl (gE (gS (gR (gM rfl (gC hm rfl call47 (impl_within_ok _ n_ 0 255) fun aA aB w hm => gA rfl (gE (gRt (gr1 results251 rfl ⟨rfl, hm.below⟩))))))))))
theorem impl_insArgs_ok (w0 : World) (op : Int) :
    ConM Tryz.prog 252 [nV op] w0 (impl_insArgs op) fun r v w' => v = (nV r) ∧ Below w0.heap.size w0 w' := by
  unfold impl_insArgs
  refine gcon func252 rfl fun r => ?_
  have hm := Mem.start w0
  refine gS (gR (gA rfl (gE (gS (gS (gR (gM rfl (gE (gBk (gS (gR (gB rfl (gA rfl (gE (gsd 4 rfl (fun aD => ?_) fun aD => ?_)))))))))))))))
  ·exact gct rfl (gS (gR (gA rfl (gE (gRt (gr1 results252 rfl ⟨rfl, hm.below⟩))))))
  refine gcf rfl (gS (gS (gR (gB rfl (gA rfl (gE (gJ hm (fun aA => [(6, (.bool (aA)))]) (fun aA => []) (fun aA => ?_) ?_)))))))
  ·refine gsd 6 rfl (fun aE => ?_) fun aE => ?_
   ·exact gct rfl (gSk (gz hm [] rfl))
   refine gcf rfl (gS (gR (gB rfl (gA rfl (gE (gJ hm (fun aB => [(6, (.bool (aB)))]) (fun aB => []) (fun aB => ?_) ?_))))))
   ·refine gsd 6 rfl (fun aF => ?_) fun aF => ?_
    ·exact gct rfl (gSk (gz hm [] rfl))
    refine gcf rfl (gS (gR (gB rfl (gA rfl (gE (gJ hm (fun aC => [(6, (.bool (aC)))]) (fun aC => []) (fun aC => ?_) ?_))))))
    ·refine gsd 6 rfl (fun aG => ?_) fun aG => ?_
     ·exact gct rfl (gSk (gz hm [] rfl))
     exact gcf rfl (gR (gB rfl (gA rfl (gE (gz hm [] rfl)))))
    repeat clear hm
    intro aC w hm
    exact gz hm [] rfl
   repeat clear hm
   intro aB w hm
   exact gz hm [] rfl
  repeat clear hm
  intro aA w hm
  refine gs 6 rfl (fun aH => ?_) fun aH => ?_
  ·exact gct rfl (gS (gR (gA rfl (gE (gRt (gr1 results252 rfl ⟨rfl, hm.below⟩))))))
  exact gcf rfl (gSk (gS (gR (gA rfl (gE (gRt (gr1 results252 rfl ⟨rfl, hm.below⟩)))))))
theorem impl_insOk_ok (w0 : World) (u : Unit_) (v1 : Value) (h1 : GT.rep (hp w0) [v1] u.codes) (k_ : Int) (x_ : Ins_) (v2 : Value) (h2 : GT.rep (hp w0) [v2] x_.args) :
    ConM Tryz.prog 185 [(.agg #[v1]), nV k_, (.agg #[nV x_.op, nV x_.to, v2, nV x_.n_])] w0 (impl_insOk u k_ x_) fun r v w' => v = (.bool (r)) ∧ Below w0.heap.size w0 w' := by
  unfold impl_insOk
  refine gcon func185 rfl fun r => ?_
  have hm := Mem.start w0
  refine gS (gR (gBx hm rfl fun aA w hm => gBx hm rfl fun aB w hm => gA rfl (gE (gS (gR (gF fo_28_0 rfl (gL hm 1 isAgg26 rfl (gM rfl (gg fun aC aR aN => ?_)))))))))
  obtain ⟨aF, aG, aH, he⟩ := idx_form' h1 aN
  subst he
  obtain ⟨aO, aS, aP⟩ := rk_Code_ h1 aN
  refine gI st_26 aR (idx_lt aN) rfl (gY (yn (aS.mono hm.lez) isAgg49 sizeOf49 rfl) (gAl hm zeroValue49 rfl fun aD w hm => gSN hm 0 sizeOf49 (one_cons rfl (one_cons rfl (one_cons (rep_one aP) one_nil))) rfl fun w hm => gE (gS (gR (gY (yU rfl) (gAl hm zeroValue95 rfl fun aE w hm => gS1 hm 0 sizeOf95 rfl rfl fun w hm => gE (gS (gS (gJ hm (fun aI => [(1, (nV k_)), (3, (pV aA)), (5, (pV aB)), (8, (pV aE)), (24, (.bool (aI)))]) (fun aI => [blk aA [sV aF aG u.codes.length aH] 28, blk aB [nV x_.op, nV x_.to, v2, nV x_.n_] 65, blk aE [(.func (.func 249) #[] #[(pV aD)])] 95, blk aD [nV aC.params, nV aC.regs, aO] 49]) (fun aI => ?_) ?_)))))))))
  ·refine gR (gF fo_65_0 rfl (gL hm 2 isAgg3 rfl (gC hm rfl call243 (impl_isIns_ok _ x_.op) fun an ao w hm => gN rfl (gM rfl (gsn 19 rfl (fun aT => ?_) fun aT => ?_)))))
   ·exact gO rfl (gO rfl (gO rfl (gO rfl (gKt rfl (gE (gz hm [3, 2, 0, 1] rfl))))))
   exact gF fo_65_2 rfl (gL hm 2 isAgg43 rfl (gY (yU rfl) (gC hm rfl call181 (slices_ContainsFunc_S_int_int_ok _ x_.args v2 (hm.now h2) (fun y0 => impl_insOk_2 y0 aC) (.func (.func 250) #[] #[(pV aE)]) (fun w y0 r hB hq => ⟨250, [(pV aE)], rfl, call250, impl_insOk_2_ok w y0 aC aO (rep_later (hm.now aP) hB) aD (hm.blk_later 1 rfl hB) aE (hm.blk_later 0 rfl hB) r hq⟩)) fun ap aq w hm => gKf rfl (gE (gz hm [3, 2, 0, 1] rfl)))))
  repeat clear hm
  intro aI w hm
  refine gs 24 rfl (fun aV => ?_) fun aV => ?_
  ·exact gct rfl (gS (gR (gA rfl (gE (gRt (gr1 results185 rfl ⟨rfl, hm.below⟩))))))
  refine gcf rfl (gSk (gS (gS (gJ hm (fun aJ => [(1, (nV k_)), (3, (pV aA)), (5, (pV aB)), (45, (.bool (aJ)))]) (fun aJ => [blk aA [sV aF aG u.codes.length aH] 28, blk aB [nV x_.op, nV x_.to, v2, nV x_.n_] 65]) (fun aJ => ?_) ?_))))
  ·refine gR (gF fo_65_0 rfl (gL hm 1 isAgg3 rfl (gC hm rfl call165 (impl_sets_ok _ x_.op) fun ar au w hm => gM rfl (gs 28 rfl (fun aW => ?_) fun aW => ?_))))
   ·refine gL hm 2 isAgg95 rfl (gF fo_65_1 rfl (gL hm 1 isAgg3 rfl (gb fun av aX => gf rfl (fun a hf => e_callv hf rfl rfl rfl ⟨249, [(pV aD)], rfl, call249, impl_insOk_1_ok _ x_.to aC aO (rep_later (hm.now aP) (Below.refl _ _)) aD (hm.blk_later 3 rfl (Below.refl _ _)) _ aX⟩) ?_)))
    rintro aw w ⟨rfl, hB⟩
    replace hm := hm.below' hB; clear hB
    refine gN rfl (gKt rfl (gM rfl (gsn 35 rfl (fun aY => ?_) fun aY => ?_)))
    ·exact gO rfl (gO rfl (gO rfl (gO rfl (gO rfl (gO rfl (gO rfl (gO rfl (gO rfl (gKt rfl (gE (gz hm [0, 1] rfl)))))))))))
    refine gF fo_65_0 rfl (gL hm 1 isAgg3 rfl (gC hm rfl call165 (impl_sets_ok _ x_.op) fun ax ay w hm => gN rfl (gM rfl (gsn 40 rfl (fun aZ => ?_) fun aZ => ?_))))
    ·exact gF fo_65_1 rfl (gL hm 1 isAgg3 rfl (gB rfl (gKt rfl (gKf rfl (gE (gz hm [0, 1] rfl))))))
    exact gO rfl (gO rfl (gO rfl (gKf rfl (gKf rfl (gE (gz hm [0, 1] rfl))))))
   refine gO rfl (gO rfl (gO rfl (gO rfl (gO rfl (gKf rfl (gM rfl (gF fo_65_0 rfl (gL hm 1 isAgg3 rfl (gC hm rfl call165 (impl_sets_ok _ x_.op) fun az bA w hm => gN rfl (gM rfl (gsn 40 rfl (fun aa => ?_) fun aa => ?_)))))))))))
   ·exact gF fo_65_1 rfl (gL hm 1 isAgg3 rfl (gB rfl (gKt rfl (gKf rfl (gE (gz hm [0, 1] rfl))))))
   exact gO rfl (gO rfl (gO rfl (gKf rfl (gKf rfl (gE (gz hm [0, 1] rfl))))))
  repeat clear hm
  intro aJ w hm
  refine gs 45 rfl (fun ab => ?_) fun ab => ?_
  ·exact gct rfl (gS (gR (gA rfl (gE (gRt (gr1 results185 rfl ⟨rfl, hm.below⟩))))))
  refine gcf rfl (gSk (gS (gS (gR (gF fo_65_0 rfl (gL hm 1 isAgg3 rfl (gE (gBk (gS (gR (gB rfl (gA rfl (gE (gsd 48 rfl (fun ac => ?_) fun ac => ?_))))))))))))))
  ·refine gct rfl (gS (gJ hm (fun aK => [(6, (.bool (aK)))]) (fun aK => []) (fun aK => ?_) ?_))
   ·refine gR (gF fo_65_2 rfl (gL hm 1 isAgg43 rfl ?_))
    obtain ⟨bB, bC, rfl, bD⟩ := ro_slice h2
    refine gY (yV st_43 rfl) (gB rfl (gM rfl (gsd 54 rfl (fun ae => ?_) fun ae => ?_)))
    ·exact gF fo_65_3 rfl (gL hm 1 isAgg3 rfl (gC hm rfl call251 (impl_isByte_ok _ x_.n_) fun bE bF w hm => gKt rfl (gA rfl (gE (gz hm [] rfl)))))
    exact gO rfl (gO rfl (gO rfl (gKf rfl (gA rfl (gE (gz hm [] rfl))))))
   repeat clear hm
   intro aK w hm
   exact gRt (gr1 results185 rfl ⟨rfl, hm.below⟩)
  refine gcf rfl (gS (gR (gB rfl (gA rfl (gE (gsd 59 rfl (fun af => ?_) fun af => ?_))))))
  ·refine gct rfl (gS (gJ hm (fun aL => [(6, (.bool (aL)))]) (fun aL => []) (fun aL => ?_) ?_))
   ·refine gW (.p 0 (.p 2 (.p 3 (.e 1 (.e 4 (.p 5 (.p 6 (.p 9 (.p 11 (.q 7 (.p 8 (.q 10 (.e 12 (.p 13 (.p 14 (.e 15 (.p 16 (.p 17 (.p 18 .fin))) .nil))) .nil)))))))) .nil) .nil)))) [7, 10, 12, 15] [0, 2, 3, 5, 6, 8, 9, 11, 13, 14, 16, 17, 18] hm [0, 1] [blk aA [sV aF aG u.codes.length aH] 28, blk aB [nV x_.op, nV x_.to, v2, nV x_.n_] 65] rfl mxo (by kernel_rfl) (fun _ _ _ h => h.2) fun w hm hS => tP rfl (fun w => yF fo_65_3 rfl) (tP rfl (fun w => yM rfl) (tP rfl (fun w => yB rfl) (tO (tY rfl (yL hm 1 isAgg3 rfl) (tAn rfl (tO (gb fun bG ah => tf rfl rfl (fun a hf => e_call hf rfl call47 rfl (impl_within_ok _ x_.n_ 0 (w64 (k_ - 1)) _ ah)) ?_)))))))
    rintro bH w ⟨rfl, hB⟩
    replace hm := hm.below' hB; clear hB
    refine tAk hm [0, 1] rfl fun hS => tP rfl (fun w => yM rfl) (gs 66 rfl (fun ai => ?_) fun ai => ?_)
    ·refine tP rfl (fun w => yF fo_65_2 rfl) (tP rfl (fun w => yF fo_28_0 rfl) (tP rfl (fun w => yF fo_65_3 rfl) (tQ rfl hS (fun w hm => yL hm 1 isAgg43 rfl) ?_)))
     obtain ⟨bJ, bK, rfl, bL⟩ := ro_slice h2
     refine tP rfl (fun w => yV st_43 rfl) (tQ rfl hS (fun w hm => yL hm 0 isAgg26 rfl) (tO (tY rfl (yL hm 1 isAgg3 rfl) (tAs hS (gg fun bM aj aQ => ?_)))))
     obtain ⟨bN, ak, bO⟩ := rk_Code_ h1 aQ
     exact tP rfl (fun w => yI st_26 aj (idx_lt aQ) rfl) (tP rfl (fun w => yF fo_49_0 rfl) (tO (tY rfl (yl isAgg3 ((ak.mono hm.lez).cell (j := 0) rfl) rfl) (tAs hS (tP rfl (fun w => yB rfl) (tP rfl (fun w => yKt rfl) (tP rfl (fun w => yA rfl) (tE (gz hm [] rfl)))))))))
    exact tPo rfl rfl (tPo rfl rfl (tPo rfl rfl (tQo rfl hS rfl (tPo rfl rfl (tQo rfl hS rfl (tO (tEo rfl rfl (tAs hS (tPo rfl rfl (tPo rfl rfl (tO (tEo rfl rfl (tAs hS (tPo rfl rfl (tP rfl (fun w => yKf rfl) (tP rfl (fun w => yA rfl) (tE (gz hm [] rfl))))))))))))))))))
   repeat clear hm
   intro aL w hm
   exact gRt (gr1 results185 rfl ⟨rfl, hm.below⟩)
  refine gcf rfl (gSk (gS (gJ hm (fun aM => [(6, (.bool (aM)))]) (fun aM => []) (fun aM => ?_) ?_)))
  ·refine gW (.p 0 (.e 1 (.p 2 (.p 3 (.p 4 (.p 7 (.q 5 (.p 6 (.e 8 (.e 9 (.p 10 (.p 11 (.p 12 .fin))) .nil) .nil))))))) .nil)) [8, 9] [0, 2, 3, 4, 6, 7, 10, 11, 12] hm [0, 1] [blk aA [sV aF aG u.codes.length aH] 28, blk aB [nV x_.op, nV x_.to, v2, nV x_.n_] 65] rfl mxo (by kernel_rfl) (fun _ _ _ h => h.2) fun w hm hS => tP rfl (fun w => yF fo_65_3 rfl) (tO (tY rfl (yL hm 1 isAgg3 rfl) (tAn rfl (tP rfl (fun w => yB rfl) (tP rfl (fun w => yM rfl) (gsd 82 rfl (fun al => ?_) fun al => ?_))))))
   ·refine tP rfl (fun w => yF fo_65_2 rfl) (tP rfl (fun w => yF fo_65_0 rfl) (tQ rfl hS (fun w hm => yL hm 1 isAgg43 rfl) ?_))
    obtain ⟨bP, bQ, rfl, bR⟩ := ro_slice h2
    refine tP rfl (fun w => yV st_43 rfl) (tO (tY rfl (yL hm 1 isAgg3 rfl) (tAs hS (tO (gb fun bS am => tf rfl rfl (fun a hf => e_call hf rfl call252 rfl (impl_insArgs_ok _ x_.op _ am)) ?_)))))
    rintro bT w ⟨rfl, hB⟩
    replace hm := hm.below' hB; clear hB
    exact tAk hm [0, 1] rfl fun hS => tP rfl (fun w => yB rfl) (tP rfl (fun w => yKt rfl) (tP rfl (fun w => yA rfl) (tE (gz hm [] rfl))))
   exact tPo rfl rfl (tPo rfl rfl (tQo rfl hS rfl (tPo rfl rfl (tO (tEo rfl rfl (tAs hS (tO (tEo rfl rfl (tAs hS (tPo rfl rfl (tP rfl (fun w => yKf rfl) (tP rfl (fun w => yA rfl) (tE (gz hm [] rfl))))))))))))))
  repeat clear hm
  intro aM w hm
  exact gRt (gr1 results185 rfl ⟨rfl, hm.below⟩)
theorem impl_codeOk_3_ok (w0 : World) (i_ : Ins_) (v1 : Value) (h1 : GT.rep (hp w0) [v1] i_.args) (c0_ : Unit_) (v2 : Value) (h2 : GT.rep (hp w0) [v2] c0_.codes) (bf0 : Nat) (hbf0 : w0.heap[bf0]? = some (.cells ([v2] : List Value).toArray 28 (0, 0))) (c1_ : Int) (bf1 : Nat) (hbf1 : w0.heap[bf1]? = some (.cells ([nV c1_] : List Value).toArray 3 (0, 0))) :
    ConM Tryz.prog 184 [(.agg #[nV i_.op, nV i_.to, v1, nV i_.n_]), (pV bf0), (pV bf1)] w0 (impl_codeOk_3 i_ c0_ c1_) fun r v w' => v = (.bool (r)) ∧ Below w0.heap.size w0 w' := by
  unfold impl_codeOk_3
  refine gcon func184 rfl fun r => ?_
  have hm := Mem.start w0
  exact gS (gR (gBx hm rfl fun aA w hm => gA rfl (gE (gS (gR (gY (yn (hm.old_at hbf0) isAgg28 sizeOf28 rfl) (gY (yl isAgg3 (hm.old_cell hbf1 rfl) rfl) (gY (yn (hm.blk_at 0 rfl) isAgg65 sizeOf65 rfl) (gC hm rfl call185 (impl_insOk_ok _ c0_ v2 (hm.now h2) c1_ i_ v1 (hm.now h1)) fun aB aC w hm => gN rfl (gA rfl (gE (gRt (gr1 results184 rfl ⟨rfl, hm.below⟩)))))))))))))
theorem slices_IndexFunc_S_impl_Ins_impl_Ins_ok (w0 : World) (s_ : List Ins_) (v1 : Value) (h1 : GT.rep (hp w0) [v1] s_) (f : Ins_ → Option Bool) (fv1 : Value) (hfn1 : ∀ (w : World) (y0 : Ins_) (z1 : Value) (_ : GT.rep (hp w) [z1] y0.args) (r : Bool), Below w0.heap.size w0 w → f y0 = some r → FnOk Tryz.prog fv1 [(.agg #[nV y0.op, nV y0.to, z1, nV y0.n_])] w (fun v w' => v = (.bool (r)) ∧ Below w.heap.size w w')) :
    ConM Tryz.prog 248 [v1, fv1] w0 (slices_IndexFunc_S_impl_Ins_impl_Ins s_ f) fun r v w' => v = (nV r) ∧ Below w0.heap.size w0 w' := by
  unfold slices_IndexFunc_S_impl_Ins_impl_Ins
  refine gcon func248 rfl fun r => ?_
  have hm := Mem.start w0
  refine gS (gR (gA rfl (gE (gS (gS (gR (gM rfl ?_)))))))
  obtain ⟨aD, aE, rfl, aO⟩ := ro_slice h1
  refine gY (yV st_61 rfl) (gM rfl (gE (gBk (gNf hm (fun aA aC => [(0, (.slice aD s_.length aE)), (1, fv1), (7, (nV ((s_.length : Int)))), (8, (nV aA))]) (fun aA aC => []) [] rfl ?_ ?_))))
  ·repeat clear hm
   intro aP aF aA aC w hm aQ aR aS aG
   refine gS (gR (gB rfl (gE (gS (go _ 9 rfl (decide_eq_true (by omega)) (gct rfl (gSk (gS (gBk (gS (gR (gM rfl (gA rfl (gE (gS (gR (gM rfl (gM rfl (gM rfl (gg fun aH aI aB => ?_))))))))))))))))))))
   obtain ⟨aT, aV, aW, he⟩ := idx_form' h1 aB
   obtain ⟨rfl, _, rfl⟩ := sl3 he
   obtain ⟨aJ, aK, aL⟩ := rk_Ins_ h1 aB
   refine gI st_61 aI (idx_lt aB) rfl (gY (yn (aK.mono hm.lez) isAgg65 sizeOf65 rfl) (gb fun aX aM => gf rfl (fun a hf => e_callv hf rfl rfl rfl (hfn1 _ aH aJ (hm.now aL) _ hm.below aM)) ?_))
   rintro aY w ⟨rfl, hB⟩
   replace hm := hm.below' hB; clear hB
   refine gE (gs 16 rfl (fun aN => ?_) fun aN => ?_)
   ·exact gct rfl (gS (gR (gM rfl (gA rfl (gE (gRt (gLr aG aF (gr1 results248 rfl ⟨rfl, hm.below⟩))))))))
   exact gcf rfl (gSk (gR (gP (by omega) (by omega) rfl (gM rfl (gE (gze hm [] rfl))))))
  repeat clear hm
  intro aZ aa w hm ab ac
  exact gS (gR (gB rfl (gE (gS (go _ 9 rfl (decide_eq_false (by omega)) (gcf rfl (gXt (gHh (gS (gR (gA rfl (gE (gRt (gr1 results248 rfl ⟨rfl, hm.below⟩))))))))))))))
theorem slices_ContainsFunc_S_impl_Ins_impl_Ins_ok (w0 : World) (s_ : List Ins_) (v1 : Value) (h1 : GT.rep (hp w0) [v1] s_) (f : Ins_ → Option Bool) (fv1 : Value) (hfn1 : ∀ (w : World) (y0 : Ins_) (z1 : Value) (_ : GT.rep (hp w) [z1] y0.args) (r : Bool), Below w0.heap.size w0 w → f y0 = some r → FnOk Tryz.prog fv1 [(.agg #[nV y0.op, nV y0.to, z1, nV y0.n_])] w (fun v w' => v = (.bool (r)) ∧ Below w.heap.size w w')) :
    ConM Tryz.prog 183 [v1, fv1] w0 (slices_ContainsFunc_S_impl_Ins_impl_Ins s_ f) fun r v w' => v = (.bool (r)) ∧ Below w0.heap.size w0 w' := by
  unfold slices_ContainsFunc_S_impl_Ins_impl_Ins
  refine gcon func183 rfl fun r => ?_
  have hm := Mem.start w0
  exact gS (gR (gA rfl (gE (gS (gR (gM rfl (gM rfl (gC hm rfl call248 (slices_IndexFunc_S_impl_Ins_impl_Ins_ok _ s_ v1 (hm.now h1) f fv1 (fun w y0 aA aB r hB hq => hfn1 w y0 aA aB r (hm.below.trans (hB.mono hm.below.size)) hq)) fun aC aD w hm => gB rfl (gA rfl (gE (gRt (gr1 results183 rfl ⟨rfl, hm.below⟩))))))))))))
theorem slices_Index_S_int_int_ok (w0 : World) (s_ : List Int) (v1 : Value) (h1 : GT.rep (hp w0) [v1] s_) (v_ : Int) :
    ConM Tryz.prog 160 [v1, nV v_] w0 (slices_Index_S_int_int s_ v_) fun r v w' => v = (nV r) ∧ Below w0.heap.size w0 w' := by
  unfold slices_Index_S_int_int
  refine gcon func160 rfl fun r => ?_
  have hm := Mem.start w0
  refine gS (gR (gA rfl (gE (gS (gS (gR (gM rfl ?_)))))))
  obtain ⟨aD, aE, rfl, aK⟩ := ro_slice h1
  refine gY (yV st_43 rfl) (gM rfl (gE (gBk (gNf hm (fun aA aC => [(0, (.slice aD s_.length aE)), (1, (nV v_)), (7, (nV ((s_.length : Int)))), (8, (nV aA))]) (fun aA aC => []) [] rfl ?_ ?_))))
  ·repeat clear hm
   intro aL aF aA aC w hm aM aN aO aG
   refine gS (gR (gB rfl (gE (gS (go _ 9 rfl (decide_eq_true (by omega)) (gct rfl (gSk (gS (gBk (gS (gR (gM rfl (gA rfl (gE (gS (gR (gM rfl (gM rfl (gM rfl (gg fun aH aI aB => ?_))))))))))))))))))))
   obtain ⟨aP, aQ, aR, he⟩ := idx_form h1 aB
   obtain ⟨rfl, _, rfl⟩ := sl3 he
   refine gI st_43 aI (idx_lt aB) rfl (gY (yl isAgg3 ((flat_cells (cs := [nV aH]) (hm.now h1) aB rfl).cell (j := 0) rfl) rfl) (gB rfl (gE (gsd 16 rfl (fun aJ => ?_) fun aJ => ?_))))
   ·exact gct rfl (gS (gR (gM rfl (gA rfl (gE (gRt (gLr aG aF (gr1 results160 rfl ⟨rfl, hm.below⟩))))))))
   exact gcf rfl (gSk (gR (gP (by omega) (by omega) rfl (gM rfl (gE (gze hm [] rfl))))))
  repeat clear hm
  intro aS aT w hm aV aW
  exact gS (gR (gB rfl (gE (gS (go _ 9 rfl (decide_eq_false (by omega)) (gcf rfl (gXt (gHh (gS (gR (gA rfl (gE (gRt (gr1 results160 rfl ⟨rfl, hm.below⟩))))))))))))))
theorem slices_Contains_S_int_int_ok (w0 : World) (s_ : List Int) (v1 : Value) (h1 : GT.rep (hp w0) [v1] s_) (v_ : Int) :
    ConM Tryz.prog 96 [v1, nV v_] w0 (slices_Contains_S_int_int s_ v_) fun r v w' => v = (.bool (r)) ∧ Below w0.heap.size w0 w' := by
  unfold slices_Contains_S_int_int
  refine gcon func96 rfl fun r => ?_
  have hm := Mem.start w0
  exact gS (gR (gA rfl (gE (gS (gR (gM rfl (gM rfl (gC hm rfl call160 (slices_Index_S_int_int_ok _ s_ v1 (hm.now h1) v_) fun aA aB w hm => gB rfl (gA rfl (gE (gRt (gr1 results96 rfl ⟨rfl, hm.below⟩))))))))))))
theorem impl_PredsOf_ok (w0 : World) (c_ : Code_) (v1 : Value) (h1 : GT.rep (hp w0) [v1] c_.blocks) (b_ : Int) :
    ConM Tryz.prog 113 [(.agg #[nV c_.params, nV c_.regs, v1]), nV b_] w0 (impl_PredsOf c_ b_) fun r v w' => ∃ (x1 : Value), v = x1 ∧ Mem w0 (hp w0) w' [ow [x1] r] := by
  unfold impl_PredsOf
  refine gcon func113 rfl fun r => ?_
  have hm := Mem.start w0
  refine gS (gR (gBx hm rfl fun ab w hm => gA rfl (gE (gS (gR (gA rfl (gE (gS (gS (gR (gM rfl (gF fo_49_2 rfl (gL hm 0 isAgg47 rfl ?_)))))))))))))
  obtain ⟨aI, aE, rfl, ac⟩ := ro_slice h1
  refine gY (yV st_47 rfl) (gY (yS (by omega) (by omega) rfl) (gC hm rfl call47 (impl_within_ok _ b_ 0 (((c_.blocks.length : Int)) - 1)) fun ae af w hm => gN rfl (gE (gsn 14 rfl (fun aL => ?_) fun aL => ?_))))
  ·refine gct rfl (gS (gR (gA rfl (gE (gRt ?_)))))
   replace hm := hm.nilow (α := Int)
   exact gr1 results113 rfl ⟨.slice none 0 0, rfl, hm.pk [0] rfl rfl⟩
  refine gcf rfl (gSk (gS (gS (gR (gF fo_49_2 rfl (gL hm 0 isAgg47 rfl (gY (yV st_47 rfl) (gM rfl (gE (gBk ?_))))))))))
  replace hm := hm.nilow (α := Int)
  refine gNg (fun aA aJ a w => ∃ (aB : Value), St 33 [(1, (nV b_)), (5, aB), (16, (.slice aI c_.blocks.length aE)), (17, (nV ((c_.blocks.length : Int)))), (18, (nV aA))] w0 (hp w0) [ow [aB] aJ] a w) (fun a hf => ⟨.slice none 0 0, hf.sb rfl, hm.pk [0] rfl rfl⟩) ?_ ?_
  ·repeat clear hm
   rintro _ _ aA aJ a w ⟨aB, hf, hm⟩ ah ai aj _
   refine gv hf (gS (gR (gB rfl (gE (gS (go _ 19 rfl (decide_eq_true (by omega)) (gct rfl (gSk (gS (gJg (fun aF a w => ∃ (aC : Value), St 33 [(1, (nV b_)), (5, aC), (16, (.slice aI c_.blocks.length aE)), (17, (nV ((c_.blocks.length : Int)))), (18, (nV aA))] w0 (hp w0) [ow [aC] aF] a w) (fun aF => ?_) ?_))))))))))
   ·refine gBk (gS (gR (gM rfl (gg fun aM aN aG => ?_))))
    obtain ⟨aO, aP, ak, he⟩ := idx_form' h1 aG
    obtain ⟨rfl, _, rfl⟩ := sl3 he
    obtain ⟨al, am, aQ, aR, aS, aT, aK⟩ := rk_Block_ h1 aG
    refine gI st_47 aN (idx_lt aG) rfl (gY (yn (aR.mono hm.lez) isAgg63 sizeOf63 rfl) (gAl hm zeroValue63 rfl fun an w hm => gA rfl (gSN hm 0 sizeOf63 (one_cons (rep_one aS) (one_cons (rep_one aT) (one_cons rfl (one_cons rfl (one_cons (rep_one aK) one_nil))))) rfl fun w hm => gE (gS (gR (gF fo_63_4 rfl (gL hm 0 isAgg43 rfl (gM rfl (gC hm rfl call96 (slices_Contains_S_int_int_ok _ aM.next_ aQ (hm.now aK) b_) fun ao ap w hm => gE (gJg (fun aH a w => ∃ (aD : Value), St 33 [(1, (nV b_)), (5, aD), (16, (sV aO aP c_.blocks.length aE)), (17, (nV ((c_.blocks.length : Int)))), (18, (nV aA))] w0 (hp w0) [ow [aD] aH] a w) (fun aH => ?_) ?_))))))))))
    ·refine gs 26 rfl (fun aV => ?_) fun aV => ?_
     ·refine gct rfl (gR (gM rfl (gM rfl (gf rfl (fun a hf => e_build (vs := #[(0, (nV aA))]) (cs := [nV aA]) et_43 hf hm rfl rfl (by kernel_rfl) rfl rfl) ?_))))
      rintro _ w ⟨aq, rfl, hm⟩
      replace hm := hm.lit (xs := ([aA] : List Int)) 0 rfl rfl rfl rfl
      refine gb fun ar aW => ?_
      obtain ⟨aX, aY⟩ := appM_some.1 aW
      refine gf rfl (fun a hf => e_append 2 et_43 hf hm rfl (hm.ow_rep 0 rfl) rfl rfl rfl aX) ?_
      rintro aZ w hm
      rw [aY] at hm
      exact gA rfl (gE (gZ fun a hf => ⟨aZ, hf.sb rfl, hm.pk [2] rfl rfl⟩))
     exact gcf rfl (gSk (gZ fun a hf => ⟨aB, hf.sb rfl, hm.pk [1] rfl rfl⟩))
    repeat clear hm
    rintro aH a w ⟨aD, hf, hm⟩
    exact gv hf (gZ fun a hf => ⟨aD, hf.sb rfl, hm.pk [0] rfl rfl⟩)
   repeat clear hm
   rintro aF a w ⟨aC, hf, hm⟩
   exact gv hf (gR (gP (by omega) (by omega) rfl (gM rfl (gE (gZe fun a hf => ⟨aC, hf.sb rfl, hm.pk [0] rfl rfl⟩)))))
  repeat clear hm
  rintro au av a w ⟨aa, hf, hm⟩ aw ax
  exact gv hf (gS (gR (gB rfl (gE (gS (go _ 19 rfl (decide_eq_false (by omega)) (gcf rfl (gXt (gHh (gS (gR (gM rfl (gA rfl (gE (gRt (gr1 results113 rfl ⟨aa, rfl, hm.pk [0] rfl rfl⟩))))))))))))))))
theorem impl_codeOk_4_ok (w0 : World) (r_ : Int) (c0_0_ : Code_) (v1 : Value) (h1 : GT.rep (hp w0) [v1] c0_0_.blocks) (aA : Nat) (aB : w0.heap[aA]? = some (.cells ([nV c0_0_.params, nV c0_0_.regs, v1] : List Value).toArray 49 (0, 0))) (bf0 : Nat) (hbf0 : w0.heap[bf0]? = some (.cells ([(.func (.func 179) #[] #[(pV aA)])] : List Value).toArray 95 (0, 0))) :
    ConM Tryz.prog 186 [nV r_, (pV bf0)] w0 (impl_codeOk_4 r_ c0_0_) fun r v w' => v = (.bool (r)) ∧ Below w0.heap.size w0 w' := by
  unfold impl_codeOk_4
  refine gcon func186 rfl fun r => ?_
  have hm := Mem.start w0
  refine gS (gR (gA rfl (gE (gS (gR (gY (yl isAgg95 (hm.old_cell hbf0 rfl) rfl) (gM rfl (gb fun aD aC => gf rfl (fun a hf => e_callv hf rfl rfl rfl ⟨179, [(pV aA)], rfl, call179, impl_codeOk_1_ok _ r_ c0_0_ v1 (rep_later (hm.now h1) (Below.refl _ _)) aA (hm.old_later aB (Below.refl _ _)) _ aC⟩) ?_))))))))
  rintro aE w ⟨rfl, hB⟩
  replace hm := hm.below' hB; clear hB
  exact gN rfl (gA rfl (gE (gRt (gr1 results186 rfl ⟨rfl, hm.below⟩))))
theorem impl_codeOk_ok (w0 : World) (u : Unit_) (v1 : Value) (h1 : GT.rep (hp w0) [v1] u.codes) (k_ : Int) :
    ConM Tryz.prog 116 [(.agg #[v1]), nV k_] w0 (impl_codeOk u k_) fun r v w' => v = (.bool (r)) ∧ Below w0.heap.size w0 w' := by
  unfold impl_codeOk
  refine gcon func116 rfl fun r => ?_
  have hm := Mem.start w0
  refine gS (gR (gBx hm rfl fun aD w hm => gBx hm rfl fun aE w hm => gA rfl (gE (gS (gR (gF fo_28_0 rfl (gL hm 1 isAgg26 rfl (gL hm 0 isAgg3 rfl (gg fun aA ap aY => ?_)))))))))
  obtain ⟨aL, aM, aN, he⟩ := idx_form' h1 aY
  subst he
  obtain ⟨aq, ar, aK⟩ := rk_Code_ h1 aY
  refine gI st_26 ap (idx_lt aY) rfl (gY (yn (ar.mono hm.lez) isAgg49 sizeOf49 rfl) (gAl hm zeroValue49 rfl fun aB w hm => gSN hm 0 sizeOf49 (one_cons rfl (one_cons rfl (one_cons (rep_one aK) one_nil))) rfl fun w hm => gE (gS (gS (gJ hm (fun aP => [(2, (pV aD)), (3, (pV aE)), (5, (pV aB)), (36, (.bool (aP)))]) (fun aP => [blk aD [sV aL aM u.codes.length aN] 28, blk aE [nV k_] 3, blk aB [nV aA.params, nV aA.regs, aq] 49]) (fun aP => ?_) ?_)))))
  ·refine gR (gF fo_49_1 rfl (gL hm 0 isAgg3 rfl (gC hm rfl call47 (impl_within_ok _ aA.regs 0 300) fun b9 ba w hm => gN rfl (gM rfl (gsn 21 rfl (fun au => ?_) fun au => ?_)))))
   ·exact gO rfl (gO rfl (gO rfl (gO rfl (gO rfl (gO rfl (gO rfl (gKt rfl (gM rfl (gO rfl (gO rfl (gO rfl (gO rfl (gO rfl (gKt rfl (gE (gz hm [2, 1, 0] rfl))))))))))))))))
   refine gF fo_49_0 rfl (gL hm 0 isAgg3 rfl (gF fo_49_1 rfl (gL hm 0 isAgg3 rfl (gY (yG rfl (y_min rfl rfl rfl)) ?_))))
   have bc : minI 3 aA.regs = min 3 aA.regs := minI_eq _ _
   refine gC hm rfl call47 (impl_within_ok _ aA.params 0 (minI 3 aA.regs)) fun bd be w hm => gN rfl (gKf rfl (gM rfl (gsn 30 rfl (fun av => ?_) fun av => ?_)))
   ·exact gO rfl (gO rfl (gO rfl (gO rfl (gO rfl (gKt rfl (gE (gz hm [2, 1, 0] rfl)))))))
   refine gF fo_49_2 rfl (gL hm 0 isAgg47 rfl ?_)
   obtain ⟨bf, bg, rfl, bh⟩ := ro_slice aK
   exact gY (yV st_47 rfl) (gC hm rfl call47 (impl_within_ok _ (aA.blocks.length : Int) 1 160) fun bi bj w hm => gN rfl (gKf rfl (gE (gz hm [2, 1, 0] rfl))))
  repeat clear hm
  intro aP w hm
  refine gs 36 rfl (fun aw => ?_) fun aw => ?_
  ·exact gct rfl (gS (gR (gA rfl (gE (gRt (gr1 results116 rfl ⟨rfl, hm.below⟩))))))
  refine gcf rfl (gSk (gS (gR (gY (yU rfl) (gAl hm zeroValue95 rfl fun aG w hm => gS1 hm 0 sizeOf95 rfl rfl fun w hm => gE (gS (gS (gR (gF fo_49_2 rfl (gL hm 3 isAgg47 rfl ?_))))))))))
  obtain ⟨aj, aF, rfl, bk⟩ := ro_slice aK
  refine gY (yV st_47 rfl) (gM rfl (gE (gBk (gNf hm (fun aJ ak => [(2, (pV aD)), (3, (pV aE)), (5, (pV aB)), (6, (pV aG)), (39, (.slice aj aA.blocks.length aF)), (40, (nV ((aA.blocks.length : Int)))), (41, (nV aJ))]) (fun aJ ak => [blk aD [sV aL aM u.codes.length aN] 28, blk aE [nV k_] 3, blk aB [nV aA.params, nV aA.regs, .slice aj aA.blocks.length aF] 49, blk aG [(.func (.func 179) #[] #[(pV aB)])] 95]) [1, 2, 3, 0] rfl ?_ ?_))))
  ·repeat clear hm
   intro bm aZ aJ ak w hm bo bp bq aa
   refine gS (gR (gB rfl (gE (gS (go _ 42 rfl (decide_eq_true (by omega)) (gct rfl (gSk (gS (gBk (gS (gR (gM rfl (gg fun aC ax ab => ?_)))))))))))))
   obtain ⟨aH, aI, br, he⟩ := idx_form' aK ab
   obtain ⟨rfl, _, rfl⟩ := sl3 he
   obtain ⟨ac, aQ, aR, ay, aS, al, ae⟩ := rk_Block_ aK ab
   refine gI st_47 ax (idx_lt ab) rfl (gY (yn (ay.mono hm.lez) isAgg63 sizeOf63 rfl) (gAl hm zeroValue63 rfl fun aO w hm => gA rfl (gSN hm 0 sizeOf63 (one_cons (rep_one aS) (one_cons (rep_one al) (one_cons rfl (one_cons rfl (one_cons (rep_one ae) one_nil))))) rfl fun w hm => gE (gS (gS (gJ hm (fun aT => [(2, (pV aD)), (3, (pV aE)), (5, (pV aB)), (6, (pV aG)), (7, (nV aJ)), (8, (pV aO)), (39, (sV aH aI aA.blocks.length aF)), (40, (nV ((aA.blocks.length : Int)))), (41, (nV aJ)), (75, (.bool (aT)))]) (fun aT => [blk aD [sV aL aM u.codes.length aN] 28, blk aE [nV k_] 3, blk aB [nV aA.params, nV aA.regs, sV aH aI aA.blocks.length aF] 49, blk aG [(.func (.func 179) #[] #[(pV aB)])] 95, blk aO [ac, aQ, nV aC.jump, nV aC.on, aR] 63]) (fun aT => ?_) ?_))))))
   ·refine gW (.p 0 (.p 3 (.q 1 (.p 2 (.e 4 (.e 5 (.p 6 (.p 7 (.p 8 (.e 9 (.e 10 (.p 11 (.p 13 (.q 12 (.e 14 (.e 15 (.p 16 (.p 17 (.p 18 (.p 19 (.p 20 (.e 21 (.e 22 (.p 23 (.p 24 (.p 25 (.e 26 (.p 27 (.p 28 (.p 29 .fin))) .nil)))) .nil) .nil)))))) .nil) .nil)))) .nil) .nil)))) .nil) .nil))))) [4, 5, 14] [0, 2, 3, 6, 7, 8, 11, 13, 16, 17, 18, 19, 20, 23, 24, 25, 27, 28, 29] hm [0, 1, 2, 3, 4] [blk aO [ac, aQ, nV aC.jump, nV aC.on, aR] 63, blk aD [sV aL aM u.codes.length aN] 28, blk aE [nV k_] 3, blk aB [nV aA.params, nV aA.regs, sV aH aI aA.blocks.length aF] 49, blk aG [(.func (.func 179) #[] #[(pV aB)])] 95] rfl mxo (by kernel_rfl) (fun _ _ _ h => h.2) fun w hm hS => tP rfl (fun w => yF fo_63_4 rfl) (tP rfl (fun w => yF fo_63_2 rfl) (tQ rfl hS (fun w hm => yL hm 0 isAgg43 rfl) ?_))
    obtain ⟨bs, bt, rfl, bu⟩ := ro_slice ae
    refine tP rfl (fun w => yV st_43 rfl) (tO (tY rfl (yL hm 0 isAgg3 rfl) (tAs hS (tO (gb fun bv az => tf rfl rfl (fun a hf => e_call hf rfl call180 rfl (impl_nextCount_ok _ aC.jump _ az)) ?_)))))
    rintro bx w ⟨rfl, hB⟩
    replace hm := hm.below' hB; clear hB
    refine tAk hm [0, 1, 2, 3, 4] rfl fun hS => tP rfl (fun w => yB rfl) (tP rfl (fun w => yM rfl) (gsd 53 rfl (fun bA => ?_) fun bA => ?_))
    ·refine tPo rfl rfl (tO (tEo rfl rfl (tAn rfl (tO (tEo rfl rfl (tAn rfl (tPo rfl rfl (tPo rfl rfl (tQo rfl hS rfl (tO (tEo rfl rfl (tAs hS (tO (tEo rfl rfl (tAn rfl (tPo rfl rfl (tPo rfl rfl (tP rfl (fun w => yKt rfl) (tP rfl (fun w => yM rfl) (tPo rfl rfl (tO (tEo rfl rfl (tAn rfl (tO (tEo rfl rfl (tAn rfl (tPo rfl rfl (tPo rfl rfl (tPo rfl rfl (tO ?_))))))))))))))))))))))))))))))
     exact tEo rfl rfl (tAn rfl (tPo rfl rfl (tPo rfl rfl (tP rfl (fun w => yKt rfl) (tE (gz hm [1, 2, 3, 4, 0] rfl))))))
    refine tP rfl (fun w => yF fo_63_2 rfl) (tO (tY rfl (yL hm 0 isAgg3 rfl) (tAn rfl (tO (gb fun bz bB => tf rfl rfl (fun a hf => e_call hf rfl call166 rfl (impl_usesOn_ok _ aC.jump _ bB)) ?_)))))
    rintro cA w ⟨rfl, hB⟩
    replace hm := hm.below' hB; clear hB
    refine tAk hm [0, 1, 2, 3, 4] rfl fun hS => tP rfl (fun w => yM rfl) (gs 57 rfl (fun bC => ?_) fun bC => ?_)
    ·refine tP rfl (fun w => yF fo_63_3 rfl) (tQ rfl hS (fun w hm => yL hm 4 isAgg95 rfl) (tO (tY rfl (yL hm 0 isAgg3 rfl) (tAs hS (tO (gb fun cB bD => tf rfl rfl (fun a hf => e_callv hf rfl rfl rfl ⟨179, [(pV aB)], rfl, call179, impl_codeOk_1_ok _ aC.on aA (sV aH aI aA.blocks.length aF) (rep_later (hm.now aK) (Below.refl _ _)) aB (hm.blk_later 3 rfl (Below.refl _ _)) _ bD⟩) ?_))))))
     rintro cC w ⟨rfl, hB⟩
     replace hm := hm.below' hB; clear hB
     refine tAn rfl (tP rfl (fun w => yN rfl) (tP rfl (fun w => yKt rfl) (tP rfl (fun w => yKf rfl) (tP rfl (fun w => yM rfl) (gsn 65 rfl (fun bE => ?_) fun bE => ?_)))))
     ·exact tPo rfl rfl (tO (tEo rfl rfl (tAn rfl (tO (tEo rfl rfl (tAn rfl (tPo rfl rfl (tPo rfl rfl (tPo rfl rfl (tO (tEo rfl rfl (tAn rfl (tPo rfl rfl (tPo rfl rfl (tP rfl (fun w => yKt rfl) (tE (gz hm [1, 2, 3, 4, 0] rfl)))))))))))))))))
     refine tP rfl (fun w => yF fo_63_2 rfl) (tO (tY rfl (yL hm 0 isAgg3 rfl) (tAn rfl (tO (gb fun cD bF => tf rfl rfl (fun a hf => e_call hf rfl call166 rfl (impl_usesOn_ok _ aC.jump _ bF)) ?_)))))
     rintro cE w ⟨rfl, hB⟩
     replace hm := hm.below' hB; clear hB
     refine tAn rfl (tP rfl (fun w => yN rfl) (tP rfl (fun w => yM rfl) (gsn 70 rfl (fun bG => ?_) fun bG => ?_)))
     ·exact tP rfl (fun w => yF fo_63_3 rfl) (tO (tY rfl (yL hm 0 isAgg3 rfl) (tAn rfl (tP rfl (fun w => yB rfl) (tP rfl (fun w => yKt rfl) (tP rfl (fun w => yKf rfl) (tE (gz hm [1, 2, 3, 4, 0] rfl))))))))
     exact tPo rfl rfl (tO (tEo rfl rfl (tAn rfl (tPo rfl rfl (tP rfl (fun w => yKf rfl) (tP rfl (fun w => yKf rfl) (tE (gz hm [1, 2, 3, 4, 0] rfl))))))))
    refine tPo rfl rfl (tQo rfl hS rfl (tO (tEo rfl rfl (tAs hS (tO (tEo rfl rfl (tAn rfl (tPo rfl rfl (tP rfl (fun w => yKf rfl) (tP rfl (fun w => yKf rfl) (tP rfl (fun w => yM rfl) (tP rfl (fun w => yF fo_63_2 rfl) (tO (tY rfl (yL hm 0 isAgg3 rfl) (tAn rfl (tO (gb fun cF bH => tf rfl rfl (fun a hf => e_call hf rfl call166 rfl (impl_usesOn_ok _ aC.jump _ bH)) ?_)))))))))))))))))
    rintro cG w ⟨rfl, hB⟩
    replace hm := hm.below' hB; clear hB
    refine tAn rfl (tP rfl (fun w => yN rfl) (tP rfl (fun w => yM rfl) (gsn 70 rfl (fun bJ => ?_) fun bJ => ?_)))
    ·exact tP rfl (fun w => yF fo_63_3 rfl) (tO (tY rfl (yL hm 0 isAgg3 rfl) (tAn rfl (tP rfl (fun w => yB rfl) (tP rfl (fun w => yKt rfl) (tP rfl (fun w => yKf rfl) (tE (gz hm [1, 2, 3, 4, 0] rfl))))))))
    exact tPo rfl rfl (tO (tEo rfl rfl (tAn rfl (tPo rfl rfl (tP rfl (fun w => yKf rfl) (tP rfl (fun w => yKf rfl) (tE (gz hm [1, 2, 3, 4, 0] rfl))))))))
   repeat clear hm
   intro aT w hm
   refine gs 75 rfl (fun bK => ?_) fun bK => ?_
   ·exact gct rfl (gS (gR (gA rfl (gE (gRt (gLr aa aZ (gr1 results116 rfl ⟨rfl, hm.below⟩)))))))
   refine gcf rfl (gSk (gS (gS (gJ hm (fun aV => [(2, (pV aD)), (3, (pV aE)), (5, (pV aB)), (6, (pV aG)), (7, (nV aJ)), (8, (pV aO)), (39, (sV aH aI aA.blocks.length aF)), (40, (nV ((aA.blocks.length : Int)))), (41, (nV aJ)), (85, (.bool (aV)))]) (fun aV => [blk aD [sV aL aM u.codes.length aN] 28, blk aE [nV k_] 3, blk aB [nV aA.params, nV aA.regs, sV aH aI aA.blocks.length aF] 49, blk aG [(.func (.func 179) #[] #[(pV aB)])] 95, blk aO [ac, aQ, nV aC.jump, nV aC.on, aR] 63]) (fun aV => ?_) ?_))))
   ·refine gR (gF fo_63_4 rfl (gL hm 4 isAgg43 rfl (gY (yU rfl) (gC hm rfl call181 (slices_ContainsFunc_S_int_int_ok _ aC.next_ aR (hm.now ae) (fun y0 => impl_codeOk_2 y0 aA) (.func (.func 182) #[] #[(pV aB)]) (fun w y0 r hB hq => ⟨182, [(pV aB)], rfl, call182, impl_codeOk_2_ok w y0 aA (sV aH aI aA.blocks.length aF) (rep_later (hm.now aK) hB) aB (hm.blk_later 2 rfl hB) r hq⟩)) fun cH cI w hm => gM rfl (gs 80 rfl (fun bL => ?_) fun bL => ?_)))))
    ·exact gO rfl (gO rfl (gO rfl (gO rfl (gKt rfl (gE (gz hm [0, 1, 2, 3, 4] rfl))))))
    exact gF fo_63_1 rfl (gL hm 4 isAgg61 rfl (gY (yU rfl) (gC hm rfl call183 (slices_ContainsFunc_S_impl_Ins_impl_Ins_ok _ aC.ins aQ (hm.now al) (fun y0 => impl_codeOk_3 y0 u k_) (.func (.func 184) #[] #[(pV aD), (pV aE)]) (fun w y0 bM bN r hB hq => ⟨184, [(pV aD), (pV aE)], rfl, call184, impl_codeOk_3_ok w y0 bM bN u (sV aL aM u.codes.length aN) (rep_later (hm.now h1) hB) aD (hm.blk_later 0 rfl hB) k_ aE (hm.blk_later 1 rfl hB) r hq⟩)) fun cJ cK w hm => gKf rfl (gE (gz hm [0, 1, 2, 3, 4] rfl)))))
   repeat clear hm
   intro aV w hm
   refine gs 85 rfl (fun bO => ?_) fun bO => ?_
   ·exact gct rfl (gS (gR (gA rfl (gE (gRt (gLr aa aZ (gr1 results116 rfl ⟨rfl, hm.below⟩)))))))
   refine gcf rfl (gSk (gS (gR (gY (yn (hm.blk_at 2 rfl) isAgg49 sizeOf49 rfl) (gM rfl (gCg rfl call113 (impl_PredsOf_ok _ aA (sV aH aI aA.blocks.length aF) (hm.now aK) aJ) ?_))))))
   rintro am cL cM w ⟨_, rfl, hB⟩
   replace hm := hm.give hB; clear hB
   obtain ⟨cN, cO, rfl, cP⟩ := ro_slice (hm.ow_rep 0 rfl)
   refine gY (yV st_43 rfl) (gA rfl (gE (gS (gR (gF fo_63_0 rfl (gL hm 5 isAgg60 rfl ?_))))))
   obtain ⟨bP, an, rfl, cQ⟩ := ro_slice aS
   refine gY (yV st_60 rfl) (gM rfl (gE (gBk (gNf hm (fun aW ao => [(2, (pV aD)), (3, (pV aE)), (5, (pV aB)), (6, (pV aG)), (7, (nV aJ)), (9, (nV ((am.length : Int)))), (39, (sV aH aI aA.blocks.length aF)), (40, (nV ((aA.blocks.length : Int)))), (41, (nV aJ)), (91, (.slice bP aC.phis.length an)), (92, (nV ((aC.phis.length : Int)))), (93, (nV aW))]) (fun aW ao => [blk aD [sV aL aM u.codes.length aN] 28, blk aE [nV k_] 3, blk aB [nV aA.params, nV aA.regs, sV aH aI aA.blocks.length aF] 49, blk aG [(.func (.func 179) #[] #[(pV aB)])] 95]) [1, 2, 3, 4] rfl ?_ ?_))))
   ·repeat clear hm
    intro cR bQ aW ao w hm cS cT cU bR
    refine gS (gR (gB rfl (gE (gS (go _ 94 rfl (decide_eq_true (by omega)) (gct rfl (gSk (gS (gBk (gS (gR (gg fun af bS ah => ?_))))))))))))
    obtain ⟨bT, bU, cV, he⟩ := idx_form' aS ah
    obtain ⟨rfl, _, rfl⟩ := sl3 he
    obtain ⟨cW, bV, ai⟩ := rk_Phi_ aS ah
    refine gI st_60 bS (idx_lt ah) rfl (gY (yn (bV.mono hm.lez) isAgg127 sizeOf127 rfl) (gAl hm zeroValue127 rfl fun cX w hm => gSN hm 0 sizeOf127 (one_cons rfl (one_cons (rep_one ai) one_nil)) rfl fun w hm => gE (gS (gJ hm (fun aX => [(2, (pV aD)), (3, (pV aE)), (5, (pV aB)), (6, (pV aG)), (7, (nV aJ)), (9, (nV ((am.length : Int)))), (39, (sV aH aI aA.blocks.length aF)), (40, (nV ((aA.blocks.length : Int)))), (41, (nV aJ)), (91, (sV bT bU aC.phis.length an)), (92, (nV ((aC.phis.length : Int)))), (93, (nV aW)), (118, (.bool (aX)))]) (fun aX => [blk aD [sV aL aM u.codes.length aN] 28, blk aE [nV k_] 3, blk aB [nV aA.params, nV aA.regs, sV aH aI aA.blocks.length aF] 49, blk aG [(.func (.func 179) #[] #[(pV aB)])] 95]) (fun aX => ?_) ?_))))
    ·refine gR (gM rfl (gB rfl (gM rfl (gsd 99 rfl (fun bW => ?_) fun bW => ?_))))
     ·exact gO rfl (gO rfl (gO rfl (gO rfl (gO rfl (gKt rfl (gM rfl (gO rfl (gO rfl (gO rfl (gO rfl (gO rfl (gKt rfl (gM rfl (gO rfl (gO rfl (gO rfl (gO rfl (gKt rfl (gE (gz hm [1, 2, 3, 4] rfl))))))))))))))))))))
     refine gL hm 4 isAgg95 rfl (gF fo_127_0 rfl (gL hm 0 isAgg3 rfl (gb fun cY bX => gf rfl (fun a hf => e_callv hf rfl rfl rfl ⟨179, [(pV aB)], rfl, call179, impl_codeOk_1_ok _ af.to aA (sV aH aI aA.blocks.length aF) (rep_later (hm.now aK) (Below.refl _ _)) aB (hm.blk_later 3 rfl (Below.refl _ _)) _ bX⟩) ?_)))
     rintro cZ w ⟨rfl, hB⟩
     replace hm := hm.below' hB; clear hB
     refine gN rfl (gKf rfl (gM rfl (gsn 106 rfl (fun bY => ?_) fun bY => ?_)))
     ·exact gO rfl (gO rfl (gO rfl (gO rfl (gO rfl (gKt rfl (gM rfl (gO rfl (gO rfl (gO rfl (gO rfl (gKt rfl (gE (gz hm [1, 2, 3, 4] rfl)))))))))))))
     refine gF fo_127_1 rfl (gL hm 0 isAgg43 rfl ?_)
     obtain ⟨bZ, b6, rfl, c5⟩ := ro_slice ai
     refine gY (yV st_43 rfl) (gM rfl (gB rfl (gKf rfl (gM rfl (gsd 113 rfl (fun b7 => ?_) fun b7 => ?_)))))
     ·exact gO rfl (gO rfl (gO rfl (gO rfl (gKt rfl (gE (gz hm [1, 2, 3, 4] rfl))))))
     exact gF fo_127_1 rfl (gL hm 0 isAgg43 rfl (gY (yU rfl) (gC hm rfl call181 (slices_ContainsFunc_S_int_int_ok _ af.args (.slice bZ af.args.length b6) (hm.now ai) (fun y0 => impl_codeOk_4 y0 aA) (.func (.func 186) #[] #[(pV aG)]) (fun w y0 r hB hq => ⟨186, [(pV aG)], rfl, call186, impl_codeOk_4_ok w y0 aA (sV aH aI aA.blocks.length aF) (rep_later (hm.now aK) hB) aB (hm.blk_later 3 rfl hB) aG (hm.blk_later 4 rfl hB) r hq⟩)) fun c6 c7 w hm => gKf rfl (gE (gz hm [1, 2, 3, 4] rfl)))))
    repeat clear hm
    intro aX w hm
    refine gs 118 rfl (fun b8 => ?_) fun b8 => ?_
    ·exact gct rfl (gS (gR (gA rfl (gE (gRt (gLr bR bQ (gLr aa aZ (gr1 results116 rfl ⟨rfl, hm.below⟩))))))))
    exact gcf rfl (gSk (gR (gP (by omega) (by omega) rfl (gM rfl (gE (gze hm [0, 1, 2, 3] rfl))))))
   repeat clear hm
   intro c8 c9 w hm ca cb
   exact gS (gR (gB rfl (gE (gS (go _ 94 rfl (decide_eq_false (by omega)) (gcf rfl (gXt (gHh (gR (gP (by omega) (by omega) rfl (gM rfl (gE (gze hm [0, 1, 2, 3] rfl)))))))))))))
  repeat clear hm
  intro cd ce w hm cf cg
  exact gS (gR (gB rfl (gE (gS (go _ 42 rfl (decide_eq_false (by omega)) (gcf rfl (gXt (gHh (gS (gR (gA rfl (gE (gRt (gr1 results116 rfl ⟨rfl, hm.below⟩))))))))))))))
theorem impl_codeCount_ok (w0 : World) (c_ : Code_) (v1 : Value) (h1 : GT.rep (hp w0) [v1] c_.blocks) :
    ConM Tryz.prog 67 [(.agg #[nV c_.params, nV c_.regs, v1])] w0 (impl_codeCount c_) fun r v w' => v = (nV r) ∧ Below w0.heap.size w0 w' := by
  unfold impl_codeCount
  refine gcon func67 rfl fun r => ?_
  have hm := Mem.start w0
  refine gS (gR (gBx hm rfl fun aK w hm => gA rfl (gE (gS (gR (gA rfl (gE (gS (gS (gR (gF fo_49_2 rfl (gL hm 0 isAgg47 rfl ?_))))))))))))
  obtain ⟨aF, aG, rfl, aL⟩ := ro_slice h1
  refine gY (yV st_47 rfl) (gM rfl (gE (gBk (gNf hm (fun aA aB => [(3, (nV aB)), (7, (.slice aF c_.blocks.length aG)), (8, (nV ((c_.blocks.length : Int)))), (9, (nV aA))]) (fun aA aB => []) [] rfl ?_ ?_))))
  ·repeat clear hm
   intro _ _ aA aB w hm aM aN aO _
   refine gS (gR (gB rfl (gE (gS (go _ 10 rfl (decide_eq_true (by omega)) (gct rfl (gSk (gS (gBk (gS (gR (gg fun aP aH aC => ?_))))))))))))
   obtain ⟨aQ, aR, aS, he⟩ := idx_form' h1 aC
   obtain ⟨rfl, _, rfl⟩ := sl3 he
   obtain ⟨aT, aV, aW, aI, aD, aE, aJ⟩ := rk_Block_ h1 aC
   refine gI st_47 aH (idx_lt aC) rfl (gY (yn (aI.mono hm.lez) isAgg63 sizeOf63 rfl) (gAl hm zeroValue63 rfl fun aX w hm => gSN hm 0 sizeOf63 (one_cons (rep_one aD) (one_cons (rep_one aE) (one_cons rfl (one_cons rfl (one_cons (rep_one aJ) one_nil))))) rfl fun w hm => gE (gR (gM rfl (gF fo_63_0 rfl (gL hm 0 isAgg60 rfl ?_))))))
   obtain ⟨aY, aZ, rfl, aa⟩ := ro_slice aD
   refine gY (yV st_60 rfl) (gF fo_63_1 rfl (gL hm 0 isAgg61 rfl ?_))
   obtain ⟨ab, ac, rfl, ae⟩ := ro_slice aE
   exact gY (yV st_61 rfl) (gP (by omega) (by omega) rfl (gB rfl (gA rfl (gE (gR (gP (by omega) (by omega) rfl (gM rfl (gE (gze hm [] rfl)))))))))
  repeat clear hm
  intro af ah w hm ai aj
  exact gS (gR (gB rfl (gE (gS (go _ 10 rfl (decide_eq_false (by omega)) (gcf rfl (gXt (gHh (gS (gR (gM rfl (gA rfl (gE (gRt (gr1 results67 rfl ⟨rfl, hm.below⟩)))))))))))))))
theorem impl_UnitValid_ok (w0 : World) (u : Unit_) (v1 : Value) (h1 : GT.rep (hp w0) [v1] u.codes) :
    ConM Tryz.prog 63 [(.agg #[v1])] w0 (impl_UnitValid u) fun r v w' => v = (.bool (r)) ∧ Below w0.heap.size w0 w' := by
  unfold impl_UnitValid
  refine gcon func63 rfl fun r => ?_
  have hm := Mem.start w0
  refine gS (gR (gBx hm rfl fun aE w hm => gA rfl (gE (gS (gS (gR (gF fo_28_0 rfl (gL hm 0 isAgg26 rfl ?_))))))))
  obtain ⟨aF, aB, rfl, aR⟩ := ro_slice h1
  refine gY (yV st_26 rfl) (gC hm rfl call47 (impl_within_ok _ (u.codes.length : Int) 1 4) fun aS aT w hm => gN rfl (gE (gsn 10 rfl (fun aH => ?_) fun aH => ?_)))
  ·exact gct rfl (gS (gR (gA rfl (gE (gRt (gr1 results63 rfl ⟨rfl, hm.below⟩))))))
  refine gcf rfl (gSk (gS (gR (gA rfl (gE (gS (gS (gR (gF fo_28_0 rfl (gL hm 0 isAgg26 rfl (gY (yV st_26 rfl) (gM rfl (gE (gBk (gNf hm (fun aA aC => [(1, (pV aE)), (3, (nV aC)), (12, (.slice aF u.codes.length aB)), (13, (nV ((u.codes.length : Int)))), (14, (nV aA))]) (fun aA aC => [blk aE [.slice aF u.codes.length aB] 28]) [0] rfl ?_ ?_)))))))))))))))
  ·repeat clear hm
   intro aV aI aA aC w hm aW aX aY aJ
   refine gS (gR (gB rfl (gE (gS (go _ 15 rfl (decide_eq_true (by omega)) (gct rfl (gSk (gS (gBk (gS (gR (gM rfl (gg fun aK aL aD => ?_)))))))))))))
   obtain ⟨aM, aN, aZ, he⟩ := idx_form' h1 aD
   obtain ⟨rfl, _, rfl⟩ := sl3 he
   obtain ⟨aO, aP, aG⟩ := rk_Code_ h1 aD
   refine gI st_26 aL (idx_lt aD) rfl (gY (yn (aP.mono hm.lez) isAgg49 sizeOf49 rfl) (gAl hm zeroValue49 rfl fun aa w hm => gA rfl (gSN hm 0 sizeOf49 (one_cons rfl (one_cons rfl (one_cons (rep_one aG) one_nil))) rfl fun w hm => gE (gS (gS (gR (gY (yn (hm.blk_at 1 rfl) isAgg28 sizeOf28 rfl) (gM rfl (gC hm rfl call116 (impl_codeOk_ok _ u (sV aM aN u.codes.length aB) (hm.now h1) aA) fun ab ac w hm => gN rfl (gE (gsn 22 rfl (fun aQ => ?_) fun aQ => ?_)))))))))))
   ·exact gct rfl (gS (gR (gA rfl (gE (gRt (gLr aJ aI (gr1 results63 rfl ⟨rfl, hm.below⟩)))))))
   exact gcf rfl (gSk (gR (gM rfl (gY (yn (hm.blk_at 0 rfl) isAgg49 sizeOf49 rfl) (gC hm rfl call67 (impl_codeCount_ok _ aK aO (hm.now aG)) fun ae af w hm => gB rfl (gA rfl (gE (gR (gP (by omega) (by omega) rfl (gM rfl (gE (gze hm [1] rfl))))))))))))
  repeat clear hm
  intro ah ai w hm aj ak
  exact gS (gR (gB rfl (gE (gS (go _ 15 rfl (decide_eq_false (by omega)) (gcf rfl (gXt (gHh (gS (gR (gM rfl (gB rfl (gA rfl (gE (gRt (gr1 results63 rfl ⟨rfl, hm.below⟩))))))))))))))))
theorem impl_codeAt_ok (w0 : World) (u : Unit_) (v1 : Value) (h1 : GT.rep (hp w0) [v1] u.codes) (k_ : Int) :
    ConM Tryz.prog 58 [(.agg #[v1]), nV k_] w0 (impl_codeAt u k_) fun r v w' => v = (.bool (r)) ∧ Below w0.heap.size w0 w' := by
  unfold impl_codeAt
  refine gcon func58 rfl fun r => ?_
  have hm := Mem.start w0
  refine gS (gR (gBx hm rfl fun aC w hm => gA rfl (gE (gS (gJ hm (fun aA => [(4, (.bool (aA)))]) (fun aA => []) (fun aA => ?_) ?_)))))
  ·refine gR (gY (yn (hm.blk_at 0 rfl) isAgg28 sizeOf28 rfl) (gC hm rfl call63 (impl_UnitValid_ok _ u v1 (hm.now h1)) fun aD aE w hm => gM rfl (gs 7 rfl (fun aB => ?_) fun aB => ?_)))
   ·refine gM rfl (gF fo_28_0 rfl (gL hm 0 isAgg26 rfl ?_))
    obtain ⟨aF, aG, rfl, aH⟩ := ro_slice h1
    exact gY (yV st_26 rfl) (gY (yS (by omega) (by omega) rfl) (gC hm rfl call47 (impl_within_ok _ k_ 0 (((u.codes.length : Int)) - 1)) fun aI aJ w hm => gKt rfl (gA rfl (gE (gz hm [] rfl)))))
   exact gO rfl (gO rfl (gO rfl (gO rfl (gO rfl (gO rfl (gKf rfl (gA rfl (gE (gz hm [] rfl)))))))))
  repeat clear hm
  intro aA w hm
  exact gRt (gr1 results58 rfl ⟨rfl, hm.below⟩)
theorem impl_phiCount_ok (w0 : World) (c_ : Code_) (v1 : Value) (h1 : GT.rep (hp w0) [v1] c_.blocks) :
    ConM Tryz.prog 134 [(.agg #[nV c_.params, nV c_.regs, v1])] w0 (impl_phiCount c_) fun r v w' => v = (nV r) ∧ Below w0.heap.size w0 w' := by
  unfold impl_phiCount
  refine gcon func134 rfl fun r => ?_
  have hm := Mem.start w0
  refine gS (gR (gBx hm rfl fun aK w hm => gA rfl (gE (gS (gR (gA rfl (gE (gS (gS (gR (gF fo_49_2 rfl (gL hm 0 isAgg47 rfl ?_))))))))))))
  obtain ⟨aE, aF, rfl, aL⟩ := ro_slice h1
  refine gY (yV st_47 rfl) (gM rfl (gE (gBk (gNf hm (fun aA aB => [(3, (nV aB)), (7, (.slice aE c_.blocks.length aF)), (8, (nV ((c_.blocks.length : Int)))), (9, (nV aA))]) (fun aA aB => []) [] rfl ?_ ?_))))
  ·repeat clear hm
   intro _ _ aA aB w hm aM aN aO _
   refine gS (gR (gB rfl (gE (gS (go _ 10 rfl (decide_eq_true (by omega)) (gct rfl (gSk (gS (gBk (gS (gR (gg fun aP aG aC => ?_))))))))))))
   obtain ⟨aQ, aR, aS, he⟩ := idx_form' h1 aC
   obtain ⟨rfl, _, rfl⟩ := sl3 he
   obtain ⟨aT, aV, aW, aH, aD, aI, aJ⟩ := rk_Block_ h1 aC
   refine gI st_47 aG (idx_lt aC) rfl (gY (yn (aH.mono hm.lez) isAgg63 sizeOf63 rfl) (gAl hm zeroValue63 rfl fun aX w hm => gSN hm 0 sizeOf63 (one_cons (rep_one aD) (one_cons (rep_one aI) (one_cons rfl (one_cons rfl (one_cons (rep_one aJ) one_nil))))) rfl fun w hm => gE (gR (gM rfl (gF fo_63_0 rfl (gL hm 0 isAgg60 rfl ?_))))))
   obtain ⟨aY, aZ, rfl, aa⟩ := ro_slice aD
   exact gY (yV st_60 rfl) (gB rfl (gA rfl (gE (gR (gP (by omega) (by omega) rfl (gM rfl (gE (gze hm [] rfl))))))))
  repeat clear hm
  intro ab ac w hm ae af
  exact gS (gR (gB rfl (gE (gS (go _ 10 rfl (decide_eq_false (by omega)) (gcf rfl (gXt (gHh (gS (gR (gM rfl (gA rfl (gE (gRt (gr1 results134 rfl ⟨rfl, hm.below⟩)))))))))))))))
theorem impl_PhiCount_ok (w0 : World) (u : Unit_) (v1 : Value) (h1 : GT.rep (hp w0) [v1] u.codes) :
    ConM Tryz.prog 94 [(.agg #[v1])] w0 (impl_PhiCount u) fun r v w' => v = (nV r) ∧ Below w0.heap.size w0 w' := by
  unfold impl_PhiCount
  refine gcon func94 rfl fun r => ?_
  have hm := Mem.start w0
  refine gS (gR (gBx hm rfl fun aL w hm => gA rfl (gE (gS (gS (gR (gY (yn (hm.blk_at 0 rfl) isAgg28 sizeOf28 rfl) (gC hm rfl call63 (impl_UnitValid_ok _ u v1 (hm.now h1)) fun aM aN w hm => gN rfl (gE (gsn 8 rfl (fun aE => ?_) fun aE => ?_))))))))))
  ·exact gct rfl (gS (gR (gA rfl (gE (gRt (gr1 results94 rfl ⟨rfl, hm.below⟩))))))
  refine gcf rfl (gSk (gS (gR (gA rfl (gE (gS (gS (gR (gF fo_28_0 rfl (gL hm 0 isAgg26 rfl ?_))))))))))
  obtain ⟨aF, aG, rfl, aO⟩ := ro_slice h1
  refine gY (yV st_26 rfl) (gM rfl (gE (gBk (gNf hm (fun aA aB => [(3, (nV aB)), (10, (.slice aF u.codes.length aG)), (11, (nV ((u.codes.length : Int)))), (12, (nV aA))]) (fun aA aB => []) [] rfl ?_ ?_))))
  ·repeat clear hm
   intro _ _ aA aB w hm aP aQ aR _
   refine gS (gR (gB rfl (gE (gS (go _ 13 rfl (decide_eq_true (by omega)) (gct rfl (gSk (gS (gBk (gS (gR (gg fun aH aI aC => ?_))))))))))))
   obtain ⟨aS, aT, aV, he⟩ := idx_form' h1 aC
   obtain ⟨rfl, _, rfl⟩ := sl3 he
   obtain ⟨aJ, aK, aD⟩ := rk_Code_ h1 aC
   exact gI st_26 aI (idx_lt aC) rfl (gY (yn (aK.mono hm.lez) isAgg49 sizeOf49 rfl) (gAl hm zeroValue49 rfl fun aW w hm => gSN hm 0 sizeOf49 (one_cons rfl (one_cons rfl (one_cons (rep_one aD) one_nil))) rfl fun w hm => gE (gR (gM rfl (gY (yn (hm.blk_at 0 rfl) isAgg49 sizeOf49 rfl) (gC hm rfl call134 (impl_phiCount_ok _ aH aJ (hm.now aD)) fun aX aY w hm => gB rfl (gA rfl (gE (gR (gP (by omega) (by omega) rfl (gM rfl (gE (gze hm [] rfl)))))))))))))
  repeat clear hm
  intro aZ aa w hm ab ac
  exact gS (gR (gB rfl (gE (gS (go _ 13 rfl (decide_eq_false (by omega)) (gcf rfl (gXt (gHh (gS (gR (gM rfl (gA rfl (gE (gRt (gr1 results94 rfl ⟨rfl, hm.below⟩)))))))))))))))
theorem impl_plainAt_ok (w0 : World) (u : Unit_) (v1 : Value) (h1 : GT.rep (hp w0) [v1] u.codes) (k_ : Int) :
    ConM Tryz.prog 46 [(.agg #[v1]), nV k_] w0 (impl_plainAt u k_) fun r v w' => v = (.bool (r)) ∧ Below w0.heap.size w0 w' := by
  unfold impl_plainAt
  refine gcon func46 rfl fun r => ?_
  have hm := Mem.start w0
  refine gS (gR (gBx hm rfl fun aC w hm => gA rfl (gE (gS (gJ hm (fun aA => [(4, (.bool (aA)))]) (fun aA => []) (fun aA => ?_) ?_)))))
  ·refine gR (gY (yn (hm.blk_at 0 rfl) isAgg28 sizeOf28 rfl) (gM rfl (gC hm rfl call58 (impl_codeAt_ok _ u v1 (hm.now h1) k_) fun aD aE w hm => gM rfl (gs 8 rfl (fun aB => ?_) fun aB => ?_))))
   ·exact gY (yn (hm.blk_at 0 rfl) isAgg28 sizeOf28 rfl) (gC hm rfl call94 (impl_PhiCount_ok _ u v1 (hm.now h1)) fun aF aG w hm => gB rfl (gKt rfl (gA rfl (gE (gz hm [] rfl)))))
   exact gO rfl (gO rfl (gO rfl (gKf rfl (gA rfl (gE (gz hm [] rfl))))))
  repeat clear hm
  intro aA w hm
  exact gRt (gr1 results46 rfl ⟨rfl, hm.below⟩)
theorem impl_clashing_1_ok (w0 : World) (hz : Heap) (a_ : Int) (b_ : Int) (c0_ : List (MapO Bool)) (bpc0 : Nat) (v1p : Value) (hm0 : Mem w0 hz w0 [blk bpc0 [v1p] 107, ow [v1p] c0_]) :
    ConM Tryz.prog 237 [nV a_, nV b_, (pV bpc0)] w0 (impl_clashing_1 a_ b_ c0_) fun r v w' => ∃ (x1 : Value), v = (.tuple #[]) ∧ Mem w0 hz w' [blk bpc0 [x1] 107, ow [x1] r] := by
  unfold impl_clashing_1
  refine gcon func237 rfl fun r => ?_
  have hm := hm0
  refine gS (gR (gM rfl (gM rfl (gB rfl (gE (gJ hm (fun aF => []) (fun aF => [blk bpc0 [v1p] 107, ow [v1p] aF]) (fun aF => ?_) ?_))))))
  ·refine gsd 7 rfl (fun af => ?_) fun af => ?_
   ·refine gct rfl (gJ hm (fun aG => []) (fun aG => [blk bpc0 [v1p] 107, ow [v1p] aG]) (fun aG => ?_) ?_)
    ·refine gW (.p 1 (.p 4 (.p 6 (.p 9 (.q 0 (.p 2 (.q 5 (.p 7 (.e 3 (.e 8 (.e 10 (.p 11 (.e 12 (.e 13 (.p 14 (.e 15 .fin .nil)) .nil) .nil)) .nil) .nil) (.e 8 (.e 3 (.e 10 (.p 11 (.e 12 (.e 13 (.p 14 (.e 15 .fin .nil)) .nil) .nil)) .nil) .nil) .nil)))))))))) [0, 3, 5, 8] [1, 2, 4, 6, 7, 9, 11, 14] hm [0, 1] [blk bpc0 [v1p] 107, ow [v1p] c0_] rfl mxo (by kernel_rfl) (fun _ _ _ h => h.2) fun w hm hS => tP rfl (fun w => yM rfl) (tP rfl (fun w => yM rfl) (tP rfl (fun w => yM rfl) (tP rfl (fun w => yM rfl) (tQ rfl hS (fun w hm => yL hm 0 isAgg107 rfl) (gg fun ah ai aE => ?_)))))
     obtain ⟨aJ, aK, av, he⟩ := idx_form' (hm.ow_rep 1 rfl) aE
     subst he
     obtain ⟨_, _, aA, aj⟩ := ro_get' (hm.ow_rep 1 rfl) aE
     have aH := aj
     obtain ⟨aL, rfl, -⟩ := id aH
     replace aH : GT.rep (hp _) [aL] ah := aH
     replace aA : CellsAt (hp _) aJ (aK + (a_).toNat * 1) [aL] := aA
     refine tP rfl (fun w => yI st_107 ai (idx_lt aE) rfl) (tQ rfl hS (fun w hm => yL hm 0 isAgg107 rfl) (gg fun ak al aM => ?_))
     obtain ⟨_, _, aB, am⟩ := ro_get' (hm.ow_rep 1 rfl) aM
     have aI := am
     obtain ⟨aN, rfl, -⟩ := id aI
     replace aI : GT.rep (hp _) [aN] ak := aI
     replace aB : CellsAt (hp _) aJ (aK + (b_).toNat * 1) [aN] := aB
     refine tP rfl (fun w => yI st_107 al (idx_lt aM) rfl) (gb fun aC aO => gb fun aw aP => gb fun aD aQ => tMo ?_ ?_)
     ·refine tY rfl (yl isAgg106 (aA.cell (j := 0) rfl) rfl) (tAs hS (tO (tY rfl (yl isAgg106 (aB.cell (j := 0) rfl) rfl) (tAs hS (tO ?_)))))
      have aR : (c0_ : List (MapO Bool))[(a_).toNat]? = some (MapO.of aC) := by rw [aE]; exact congrArg some aO
      refine tf rfl rfl (fun a hf => e_entL (key := b_) (zv := false) (m := aC) 1 underlying3 underlying106 zeroValue4 hf hm rfl aR aA rfl rfl rfl) ?_
      rintro _ w ⟨ax, ay, rfl, an, aS, hm⟩
      replace aA := aS _ _ aA
      replace aB := aS _ _ aB
      refine tAn rfl (tP rfl (fun w => yX rfl) (tO (tf0 rfl rfl (fun a hf => e_estL (key := b_) (u := true) (m := aC) 1 hf hm rfl aR aA an rfl rfl rfl rfl) ?_)))
      rintro _ w ⟨aT, hm⟩
      replace aA := aT _ _ aA
      replace aB := aT _ _ aB
      refine tAn rfl (tO ?_)
      obtain ⟨az, ao⟩ := getI_some.1 aP
      have aV : ((c0_.set (a_).toNat (MapO.of (MapS.ins aC b_ true))) : List (MapO Bool))[(b_).toNat]? = some (MapO.of aD) := by rw [ao]; exact congrArg some aQ
      refine tf rfl rfl (fun a hf => e_entL (key := a_) (zv := false) (m := aD) 1 underlying3 underlying106 zeroValue4 hf hm rfl aV aB rfl rfl rfl) ?_
      rintro _ w ⟨bA, bB, rfl, ap, aW, hm⟩
      replace aA := aW _ _ aA
      replace aB := aW _ _ aB
      refine tAn rfl (tP rfl (fun w => yX rfl) (tO (tf0 rfl rfl (fun a hf => e_estL (key := a_) (u := true) (m := aD) 1 hf hm rfl aV aB ap rfl rfl rfl rfl) ?_)))
      rintro _ w ⟨aX, hm⟩
      replace aA := aX _ _ aA
      replace aB := aX _ _ aB
      exact tAn rfl (tE (gz hm [0, 1] rfl))
     refine tO (tY rfl (yl isAgg106 (aB.cell (j := 0) rfl) rfl) (tAs hS (tO (tY rfl (yl isAgg106 (aA.cell (j := 0) rfl) rfl) (tAs hS (tO ?_))))))
     have aY : (c0_ : List (MapO Bool))[(a_).toNat]? = some (MapO.of aC) := by rw [aE]; exact congrArg some aO
     refine tf rfl rfl (fun a hf => e_entL (key := b_) (zv := false) (m := aC) 1 underlying3 underlying106 zeroValue4 hf hm rfl aY aA rfl rfl rfl) ?_
     rintro _ w ⟨bC, bD, rfl, aq, aZ, hm⟩
     replace aA := aZ _ _ aA
     replace aB := aZ _ _ aB
     refine tAn rfl (tP rfl (fun w => yX rfl) (tO (tf0 rfl rfl (fun a hf => e_estL (key := b_) (u := true) (m := aC) 1 hf hm rfl aY aA aq rfl rfl rfl rfl) ?_)))
     rintro _ w ⟨aa, hm⟩
     replace aA := aa _ _ aA
     replace aB := aa _ _ aB
     refine tAn rfl (tO ?_)
     obtain ⟨bE, ar⟩ := getI_some.1 aP
     have ab : ((c0_.set (a_).toNat (MapO.of (MapS.ins aC b_ true))) : List (MapO Bool))[(b_).toNat]? = some (MapO.of aD) := by rw [ar]; exact congrArg some aQ
     refine tf rfl rfl (fun a hf => e_entL (key := a_) (zv := false) (m := aD) 1 underlying3 underlying106 zeroValue4 hf hm rfl ab aB rfl rfl rfl) ?_
     rintro _ w ⟨bF, bG, rfl, au, ac, hm⟩
     replace aA := ac _ _ aA
     replace aB := ac _ _ aB
     refine tAn rfl (tP rfl (fun w => yX rfl) (tO (tf0 rfl rfl (fun a hf => e_estL (key := a_) (u := true) (m := aD) 1 hf hm rfl ab aB au rfl rfl rfl rfl) ?_)))
     rintro _ w ⟨ae, hm⟩
     replace aA := ae _ _ aA
     replace aB := ae _ _ aB
     exact tAn rfl (tE (gz hm [0, 1] rfl))
    repeat clear hm
    intro aG w hm
    exact gz hm [0, 1] rfl
   exact gcf rfl (gSk (gz hm [0, 1] rfl))
  repeat clear hm
  intro aF w hm
  exact gre results237 ⟨v1p, rfl, hm.pk [0, 1] rfl rfl⟩
theorem slices_Clone_S_int_int_ok (w0 : World) (s_ : List Int) (v1 : Value) (h1 : GT.rep (hp w0) [v1] s_) :
    ConM Tryz.prog 177 [v1] w0 (slices_Clone_S_int_int s_) fun r v w' => ∃ (x1 : Value), v = x1 ∧ Mem w0 (hp w0) w' [ow [x1] r] := by
  unfold slices_Clone_S_int_int
  refine gcon func177 rfl fun r => ?_
  have hm := Mem.start w0
  refine gS (gR (gA rfl (gE (gS (gS (gR (gM rfl ?_)))))))
  rcases nil_or h1 with ⟨he, aA⟩ | ⟨aF, aG, he⟩
  ·subst he; subst aA
   refine gcg (m' := some ([] : List Int)) (by simp [appM]) (gY (yG rfl (y_eqnil_t st_43.und rfl rfl rfl)) (gE (gct rfl (gS (gR (gA rfl (gE (gRt ?_))))))))
   replace hm := hm.nilow (α := Int)
   exact gr1 results177 rfl ⟨.slice none 0 0, rfl, hm.pk [0] rfl rfl⟩
  subst he
  refine gY (yG rfl (y_eqnil_f st_43.und rfl rfl rfl)) (gE (gcf rfl (gSk (gS (gR (gf rfl (fun a hf => e_build0 (α := Int) et_43 hm rfl) ?_))))))
  rintro aH w hm
  refine gM rfl (gb fun aI aB => ?_)
  obtain ⟨aC, aD⟩ := appM_some.1 aB
  refine gf rfl (fun a hf => e_append 0 et_43 hf hm rfl (hm.now h1) rfl rfl rfl aC) ?_
  rintro aE w hm
  rw [aD] at hm
  exact gA rfl (gE (gRt (gr1 results177 rfl ⟨aE, rfl, hm.pk [0] rfl rfl⟩)))
theorem impl_once_ok (w0 : World) (list : List Int) (v1 : Value) (h1 : GT.rep (hp w0) [v1] list) :
    ConM Tryz.prog 112 [v1] w0 (impl_once list) fun r v w' => ∃ (x1 : Value), v = x1 ∧ Mem w0 (hp w0) w' [ow [x1] r] := by
  unfold impl_once
  refine gcon func112 rfl fun r => ?_
  have hm := Mem.start w0
  refine gS (gR (gA rfl (gE (gS (gR (gM rfl (gCg rfl call177 (slices_Clone_S_int_int_ok _ list v1 (hm.now h1)) ?_)))))))
  rintro aB aC aD w ⟨_, rfl, hB⟩
  replace hm := hm.give hB; clear hB
  refine gA rfl (gE (gS (gR (gM rfl (gf rfl (fun a hf => e_call hf rfl call167 rfl (sort_con lays189 hm 0 rfl)) ?_)))))
  rintro _ w ⟨rfl, hm⟩
  refine gE (gS (gR (gM rfl (gf rfl (fun a hf => e_call hf rfl call178 rfl (compact_con lays2_20 hm 0 rfl)) ?_))))
  rintro aA w hm
  exact gA rfl (gE (gRt (gr1 results112 rfl ⟨aA, rfl, hm.pk [0] rfl rfl⟩)))
theorem pimpl_live__outs_ok (w0 : World) (l_ : live) (bp0 : Nat) (v1p : Value) (h1p : GT.rep (hp w0) [v1p] l_.c.blocks) (v2p : Value) (h2p : GT.rep (hp w0) [v2p] l_.ins) (v3p : Value) (h3p : GT.rep (hp w0) [v3p] l_.preds) (hbbp0 : (hp w0) bp0 = some (.cells ([nV l_.c.params, nV l_.c.regs, v1p, v2p, v3p] : List Value).toArray 109 (0, 0))) (b_ : Int) :
    ConM Tryz.prog 202 [(pV bp0), nV b_] w0 (pimpl_live__outs l_ b_) fun r v w' => ∃ (x1 : Value), v = x1 ∧ Mem w0 (hp w0) w' [owm x1 r] := by
  unfold pimpl_live__outs
  refine gcon func202 rfl fun r => ?_
  have hm := Mem.start w0
  refine gS (gR (gA rfl (gE (gS (gR (gf rfl (fun a hf => e_mkM (β := Bool) hm rfl) ?_))))))
  rintro aB w hm
  refine gA rfl (gE (gS (gS (gR (gM rfl (gY (yG rfl (y_nilptr rfl rfl)) (gF fo_109_0 rfl (gF fo_49_2 rfl (gY (yl isAgg47 (hm.hz_cell hbbp0 rfl) rfl) (gM rfl (gg fun an ao aK => ?_)))))))))))
  obtain ⟨bN, bO, bP, he⟩ := idx_form' h1p aK
  subst he
  obtain ⟨bQ, bR, ap, aq, bS, bT, ar⟩ := rk_Block_ h1p aK
  refine gI st_47 ao (idx_lt aK) rfl (gF fo_63_4 rfl (gY (yl isAgg43 ((aq.mono hm.lez).cell (j := 4) rfl) rfl) (gCg rfl call112 (impl_once_ok _ an.next_ ap (hm.now ar)) ?_)))
  rintro aA bU bV w ⟨_, rfl, hB⟩
  replace hm := hm.give hB; clear hB
  obtain ⟨ab, aC, rfl, bW⟩ := ro_slice (hm.ow_rep 0 rfl)
  refine gY (yV st_43 rfl) (gM rfl (gE (gBk (gNf hm (fun aD aL => [(0, (pV bp0)), (1, (nV b_)), (5, aB), (22, (.slice ab aA.length aC)), (23, (nV ((aA.length : Int)))), (24, (nV aD))]) (fun aD aL => [owm aB aL, ow [.slice ab aA.length aC] aA]) [1, 0] rfl ?_ ?_))))
  ·repeat clear hm
   intro _ _ aD aL w hm bX bY bZ _
   refine gS (gR (gB rfl (gE (gS (go _ 25 rfl (decide_eq_true (by omega)) (gct rfl (gSk (gS (gBk (gS (gR (gg fun aG au aM => ?_))))))))))))
   obtain ⟨aE, aF, b6, he⟩ := idx_form (hm.ow_rep 1 rfl) aM
   obtain ⟨rfl, _, rfl⟩ := sl3 he
   refine gI st_43 au (idx_lt aM) rfl (gY (yl isAgg3 ((flat_cells (cs := [nV aG]) (hm.ow_rep 1 rfl) aM rfl).cell (j := 0) rfl) rfl) (gA rfl (gE (gS (gS (gR (gM rfl (gY (yG rfl (y_nilptr rfl rfl)) (gF fo_109_1 rfl (gY (yl isAgg107 (hm.hz_cell hbbp0 rfl) rfl) (gM rfl (gg fun aN av aO => ?_))))))))))))
   obtain ⟨aw, ax, b7, he⟩ := idx_form' h2p aO
   subst he
   obtain ⟨_, _, aP, ay⟩ := ro_get' h2p aO
   have aH := ay
   obtain ⟨aQ, rfl, -⟩ := id aH
   replace aH : GT.rep (hp w0) [aQ] aN := aH
   replace aP : CellsAt (hp w0) aw (ax + (aG).toNat * 1) [aQ] := aP
   refine gI st_107 av (idx_lt aO) rfl (gY (yl isAgg106 ((aP.mono hm.lez).cell (j := 0) rfl) rfl) (gf rfl (fun a hf => e_rangeS (m := (aN : MapS Bool)) hf hm underlying106 aH rfl rfl) ?_))
   rintro _ w ⟨ac, rfl, hm⟩
   refine gE (gJ hm (fun aI => [(0, (pV bp0)), (1, (nV b_)), (5, aB), (7, (nV aG)), (22, (sV aE aF aA.length aC)), (23, (nV ((aA.length : Int)))), (24, (nV aD))]) (fun aI => [owm aB aI, ow [sV aE aF aA.length aC] aA]) (fun aI => ?_) ?_)
   ·refine gBk (gRng (m := (aN : MapS Bool)) (by exact comm_ins) aH (fun ae af a w => St 74 [(0, (pV bp0)), (1, (nV b_)), (5, aB), (7, (nV aG)), (22, (sV aE aF aA.length aC)), (23, (nV ((aA.length : Int)))), (24, (nV aD)), (35, (pV ac))] w0 (hp w0) [owm aB af, ow [sV aE aF aA.length aC] aA, itc (hp w0) aQ ac ae] a w) (fun a hf => ⟨hf.sb rfl, hm.pk [1, 2, 0] rfl rfl⟩) ?_ ?_)
    ·repeat clear hm
     rintro ae af a w ⟨hf, hm⟩ hmo
     refine gv (m := some ()) (r := ()) hf ?_ rfl
     refine gS (gR (gf rfl (fun a hf => e_nextS 2 hf hm rfl hmo rfl rfl) ?_))
     rintro _ w ⟨b8, az, b9, rfl, ah, ai, hm⟩
     refine gSw ah (gX rfl (gE (gS (gct rfl (gSk (gBk (gS (gR (gY (yG rfl (y_entryS 2 hm rfl ai rfl rfl)) (gX rfl (gA rfl (gE (gR (gM rfl (gM rfl (gf0 rfl (fun a hf => e_insM (β := Bool) (key := az.1) (u := true) (b := false) 0 underlying3 underlying106 hf hm rfl rfl rfl rfl rfl) ?_))))))))))))))))
     rintro _ w hm
     exact gE (gZr ai ah fun a hf => ⟨hf.sb rfl, hm.pk [0, 1, 2] rfl rfl⟩)
    repeat clear hm
    rintro ba bc a w ⟨hf, hm⟩ hno hk
    refine gv hf ?_ hk
    exact gS (gR (gY (yG rfl (y_nextE 2 hm rfl hno rfl rfl)) (gX rfl (gE (gS (gcf rfl (gXt (gHh (gz hm [0, 1] rfl)))))))))
   repeat clear hm
   intro aI w hm
   refine gS (gR (gM rfl (gY (yG rfl (y_nilptr rfl rfl)) (gF fo_109_2 rfl (gY (yl isAgg68 (hm.hz_cell hbbp0 rfl) rfl) (gM rfl (gg fun aj bA aR => ?_)))))))
   obtain ⟨bB, bC, bd, he⟩ := idx_form' h3p aR
   subst he
   obtain ⟨_, _, aS, bD⟩ := ro_get' h3p aR
   have aJ := bD
   obtain ⟨aT, rfl, -⟩ := id aJ
   replace aJ : GT.rep (hp w0) [aT] aj := aJ
   replace aS : CellsAt (hp w0) bB (bC + (aG).toNat * 1) [aT] := aS
   refine gI st_68 bA (idx_lt aR) rfl (gY (yl isAgg43 ((aS.mono hm.lez).cell (j := 0) rfl) rfl) (gM rfl (gC hm rfl call160 (slices_Index_S_int_int_ok _ aj aT (hm.now aJ) b_) fun bE be w hm => gA rfl (gE (gS (gR (gM rfl (gY (yG rfl (y_nilptr rfl rfl)) (gF fo_109_0 rfl (gF fo_49_2 rfl (gY (yl isAgg47 (hm.hz_cell hbbp0 rfl) rfl) (gM rfl (gg fun ak bF al => ?_)))))))))))))
   obtain ⟨bf, bg, bh, bG, aV, bi, bj⟩ := rk_Block_ h1p al
   refine gI st_47 bF (idx_lt al) rfl (gF fo_63_0 rfl (gY (yl isAgg60 ((bG.mono hm.lez).cell (j := 0) rfl) rfl) ?_))
   obtain ⟨bH, bJ, rfl, bk⟩ := ro_slice aV
   refine gY (yV st_60 rfl) (gM rfl (gE (gBk (gNf hm (fun aW aX => [(0, (pV bp0)), (1, (nV b_)), (5, aB), (9, (nV bE)), (22, (sV aE aF aA.length aC)), (23, (nV ((aA.length : Int)))), (24, (nV aD)), (59, (.slice bH ak.phis.length bJ)), (60, (nV ((ak.phis.length : Int)))), (61, (nV aW))]) (fun aW aX => [owm aB aX, ow [sV aE aF aA.length aC] aA]) [0, 1] rfl ?_ ?_))))
   ·repeat clear hm
    intro _ _ aW aX w hm bm bo bp _
    refine gS (gR (gB rfl (gE (gS (go _ 62 rfl (decide_eq_true (by omega)) (gct rfl (gSk (gS (gBk (gS (gR (gg fun bq bK aY => ?_))))))))))))
    obtain ⟨br, bs, bt, he⟩ := idx_form' aV aY
    obtain ⟨rfl, _, rfl⟩ := sl3 he
    obtain ⟨bu, bL, aZ⟩ := rk_Phi_ aV aY
    refine gI st_60 bK (idx_lt aY) rfl (gY (yn (bL.mono hm.lez) isAgg127 sizeOf127 rfl) (gAl hm zeroValue127 rfl fun bv w hm => gSN hm 0 sizeOf127 (one_cons rfl (one_cons (rep_one aZ) one_nil)) rfl fun w hm => gE (gR (gM rfl (gF fo_127_1 rfl (gL hm 0 isAgg43 rfl (gM rfl (gg fun am bM aa => ?_))))))))
    obtain ⟨bx, bz, cA, he⟩ := idx_form aZ aa
    subst he
    refine gI st_43 bM (idx_lt aa) rfl (gY (yl isAgg3 ((flat_cells (cs := [nV am]) (hm.now aZ) aa rfl).cell (j := 0) rfl) rfl) (gf0 rfl (fun a hf => e_insM (β := Bool) (key := am) (u := true) (b := false) 1 underlying3 underlying106 hf hm rfl rfl rfl rfl rfl) ?_))
    rintro _ w hm
    exact gE (gR (gP (by omega) (by omega) rfl (gM rfl (gE (gze hm [1, 2] rfl)))))
   repeat clear hm
   intro cB cC w hm cD cE
   exact gS (gR (gB rfl (gE (gS (go _ 62 rfl (decide_eq_false (by omega)) (gcf rfl (gXt (gHh (gR (gP (by omega) (by omega) rfl (gM rfl (gE (gze hm [0, 1] rfl)))))))))))))
  repeat clear hm
  intro cF cG w hm cH cI
  exact gS (gR (gB rfl (gE (gS (go _ 25 rfl (decide_eq_false (by omega)) (gcf rfl (gXt (gHh (gS (gR (gM rfl (gA rfl (gE (gRt (gr1 results202 rfl ⟨aB, rfl, hm.pk [0] rfl rfl⟩)))))))))))))))
theorem impl_MadeBy_ok (w0 : World) (x_ : Ins_) (v1 : Value) (h1 : GT.rep (hp w0) [v1] x_.args) :
    ConM Tryz.prog 141 [(.agg #[nV x_.op, nV x_.to, v1, nV x_.n_])] w0 (impl_MadeBy x_) fun r v w' => v = (nV r) ∧ Below w0.heap.size w0 w' := by
  unfold impl_MadeBy
  refine gcon func141 rfl fun r => ?_
  have hm := Mem.start w0
  refine gS (gR (gBx hm rfl fun aB w hm => gA rfl (gE (gS (gS (gR (gF fo_65_0 rfl (gL hm 0 isAgg3 rfl (gC hm rfl call165 (impl_sets_ok _ x_.op) fun aC aD w hm => gN rfl (gE (gsn 6 rfl (fun aA => ?_) fun aA => ?_)))))))))))
  ·exact gct rfl (gS (gR (gA rfl (gE (gRt (gr1 results141 rfl ⟨rfl, hm.below⟩))))))
  exact gcf rfl (gSk (gS (gR (gF fo_65_1 rfl (gL hm 0 isAgg3 rfl (gA rfl (gE (gRt (gr1 results141 rfl ⟨rfl, hm.below⟩)))))))))
theorem impl_regSet__with_ok (w0 : World) (hz : Heap) (s_ : MapS Bool) (v1 : Value) (list : List Int) (v2 : Value) (h2 : GT.rep hz [v2] list) (hm0 : Mem w0 hz w0 [owm v1 s_]) :
    ConM Tryz.prog 203 [v1, v2] w0 (impl_regSet__with s_ list) fun r v w' => v = v1 ∧ Mem w0 hz w' [owm v1 r] := by
  unfold impl_regSet__with
  refine gcon func203 rfl fun r => ?_
  have hm := hm0
  refine gS (gR (gA rfl (gE (gS (gS (gR (gM rfl ?_)))))))
  obtain ⟨aE, aF, rfl, aH⟩ := ro_slice h2
  refine gY (yV st_43 rfl) (gM rfl (gE (gBk (gNf hm (fun aA aB => [(0, v1), (7, (.slice aE list.length aF)), (8, (nV ((list.length : Int)))), (9, (nV aA))]) (fun aA aB => [owm v1 aB]) [0] rfl ?_ ?_))))
  ·repeat clear hm
   intro _ _ aA aB w hm aI aJ aK _
   refine gS (gR (gB rfl (gE (gS (go _ 10 rfl (decide_eq_true (by omega)) (gct rfl (gSk (gS (gBk (gS (gR (gg fun aD aG aC => ?_))))))))))))
   obtain ⟨aL, aM, aN, he⟩ := idx_form h2 aC
   obtain ⟨rfl, _, rfl⟩ := sl3 he
   refine gI st_43 aG (idx_lt aC) rfl (gY (yl isAgg3 ((flat_cells (cs := [nV aD]) (hm.now h2) aC rfl).cell (j := 0) rfl) rfl) (gA rfl (gE (gR (gM rfl (gM rfl (gf0 rfl (fun a hf => e_insM (β := Bool) (key := aD) (u := true) (b := false) 0 underlying3 underlying106 hf hm rfl rfl rfl rfl rfl) ?_)))))))
   rintro _ w hm
   exact gE (gR (gP (by omega) (by omega) rfl (gM rfl (gE (gze hm [0] rfl)))))
  repeat clear hm
  intro aO aP w hm aQ aR
  exact gS (gR (gB rfl (gE (gS (go _ 10 rfl (decide_eq_false (by omega)) (gcf rfl (gXt (gHh (gS (gR (gM rfl (gA rfl (gE (gRt (gr1 results203 rfl ⟨rfl, hm.pk [0] rfl rfl⟩)))))))))))))))
theorem pimpl_live__behind_ok (w0 : World) (l_ : live) (bp0 : Nat) (v1p : Value) (h1p : GT.rep (hp w0) [v1p] l_.c.blocks) (v2p : Value) (h2p : GT.rep (hp w0) [v2p] l_.ins) (v3p : Value) (h3p : GT.rep (hp w0) [v3p] l_.preds) (hbbp0 : (hp w0) bp0 = some (.cells ([nV l_.c.params, nV l_.c.regs, v1p, v2p, v3p] : List Value).toArray 109 (0, 0))) (b_ : Int) (i_ : Int) :
    ConM Tryz.prog 121 [(pV bp0), nV b_, nV i_] w0 (pimpl_live__behind l_ b_ i_) fun r v w' => ∃ (x1 : Value), v = x1 ∧ Mem w0 (hp w0) w' [owm x1 r] := by
  unfold pimpl_live__behind
  refine gcon func121 rfl fun r => ?_
  have hm := Mem.start w0
  refine gS (gR (gA rfl (gE (gS (gR (gM rfl (gM rfl (gCg rfl call202 (pimpl_live__outs_ok _ l_ bp0 v1p (hm.now h1p) v2p (hm.now h2p) v3p (hm.now h3p) (hm.lez _ _ ((Heap.le_refl _) _ _ hbbp0)) b_) ?_))))))))
  rintro al am aB w ⟨_, rfl, hB⟩
  replace hm := hm.give hB; clear hB
  refine gA rfl (gE (gS (gR (gM rfl (gY (yG rfl (y_nilptr rfl rfl)) (gF fo_109_0 rfl (gF fo_49_2 rfl (gY (yl isAgg47 (hm.hz_cell hbbp0 rfl) rfl) (gM rfl (gg fun aA aV aL => ?_))))))))))
  obtain ⟨an, ao, ap, he⟩ := idx_form' h1p aL
  subst he
  obtain ⟨aF, aW, aG, aX, aY, aH, aZ⟩ := rk_Block_ h1p aL
  refine gI st_47 aV (idx_lt aL) rfl (gY (yn (aX.mono hm.lez) isAgg63 sizeOf63 rfl) (gAl hm zeroValue63 rfl fun aC w hm => gSN hm 0 sizeOf63 (one_cons (rep_one aY) (one_cons (rep_one aH) (one_cons rfl (one_cons rfl (one_cons (rep_one aZ) one_nil))))) rfl fun w hm => gE (gS (gS (gR (gF fo_63_2 rfl (gL hm 0 isAgg3 rfl (gC hm rfl call166 (impl_usesOn_ok _ aA.jump) fun aq ar w hm => gE (gJ hm (fun aI => [(2, (nV i_)), (7, aB), (8, (pV aC))]) (fun aI => [owm aB aI, blk aC [aF, aW, nV aA.jump, nV aA.on, aG] 63]) (fun aI => ?_) ?_)))))))))
  ·refine gs 24 rfl (fun aa => ?_) fun aa => ?_
   ·refine gct rfl (gR (gM rfl (gF fo_63_3 rfl (gL hm 0 isAgg3 rfl (gf0 rfl (fun a hf => e_insM (β := Bool) (key := aA.on) (u := true) (b := false) 1 underlying3 underlying106 hf hm rfl rfl rfl rfl rfl) ?_)))))
    rintro _ w hm
    exact gE (gz hm [1, 0] rfl)
   exact gcf rfl (gSk (gz hm [1, 0] rfl))
  repeat clear hm
  intro aI w hm
  refine gS (gS (gR (gF fo_63_1 rfl (gL hm 1 isAgg61 rfl ?_))))
  obtain ⟨ab, aM, rfl, au⟩ := ro_slice aH
  refine gY (yV st_61 rfl) (gY (yS (by omega) (by omega) rfl) (gA rfl (gE (gJ hm (fun aJ => [(7, aB)]) (fun aJ => [owm aB aJ]) (fun aJ => ?_) ?_))))
  ·refine gBk (gMf hm (fun aE => [(2, (nV i_)), (7, aB), (8, (pV aC)), (9, (nV aE.2))]) (fun aE => [owm aB aE.1, blk aC [aF, .slice ab aA.ins.length aM, nV aA.jump, nV aA.on, aG] 63]) [0, 1] rfl ?_)
   repeat clear hm
   intro av ac aE w hm aw ae
   refine gS (gS (gR (gM rfl (gM rfl (gB rfl (gE (gsd 34 rfl (fun af => ?_) fun af => ?_)))))))
   ·refine gct rfl (gSk (gS (gBk (gS (gS (gR (gF fo_63_1 rfl (gL hm 1 isAgg61 rfl (gM rfl (gg fun aN aO aK => ?_))))))))))
    obtain ⟨aP, aQ, ax, he⟩ := idx_form' aH aK
    obtain ⟨rfl, _, rfl⟩ := sl3 he
    obtain ⟨aR, aS, aT⟩ := rk_Ins_ aH aK
    refine gI st_61 aO (idx_lt aK) rfl (gY (yn (aS.mono hm.lez) isAgg65 sizeOf65 rfl) (gC hm rfl call141 (impl_MadeBy_ok _ aN aR (hm.now aT)) fun ah ay w hm => gA rfl (gE (gS (gR (gM rfl (gB rfl (gE (gJ hm (fun aD => [(2, (nV i_)), (7, aB), (8, (pV aC)), (9, (nV aE.2))]) (fun aD => [owm aB aD, blk aC [aF, sV aP aQ aA.ins.length aM, nV aA.jump, nV aA.on, aG] 63]) (fun aD => ?_) ?_)))))))))
    ·refine gsd 44 rfl (fun ai => ?_) fun ai => ?_
     ·refine gct rfl (gR (gM rfl (gM rfl (gf0 rfl (fun a hf => e_delM (β := Bool) (key := ah) 0 underlying3 underlying106 hf hm rfl rfl rfl rfl rfl) ?_))))
      rintro _ w hm
      exact gE (gz hm [0, 1] rfl)
     exact gcf rfl (gSk (gz hm [0, 1] rfl))
    repeat clear hm
    intro aD w hm
    refine gR (gM rfl (gF fo_63_1 rfl (gL hm 1 isAgg61 rfl (gM rfl (gI st_61 aO (idx_lt aK) rfl (gF fo_65_2 rfl (gY (yl isAgg43 ((aS.mono hm.lez).cell (j := 2) rfl) rfl) ?_)))))))
    obtain ⟨aj, hle, hm1, hsub, ak⟩ := hm.take2 (L1 := [owm aB aD]) (L2 := [blk aC [aF, sV aP aQ aA.ins.length aM, nV aA.jump, nV aA.on, aG] 63]) [0] [1] (by decide) rfl rfl
    refine gCg rfl call203 (impl_regSet__with_ok _ aj aD aB aN.args aR (GT.mono hle aT) hm1 ) ?_
    rintro az bA bB w ⟨rfl, hB⟩
    replace hm := ak _ _ hB; clear hB
    exact gE (gR (gM rfl (gB rfl (gA rfl (gE (gze hm [0, 1] rfl))))))
   exact gcf rfl (gXt (gHh (gLp ae ac (gz hm [0] rfl))))
  repeat clear hm
  intro aJ w hm
  exact gS (gR (gM rfl (gA rfl (gE (gRt (gr1 results121 rfl ⟨aB, rfl, hm.pk [0] rfl rfl⟩))))))
theorem impl_liveOf_ok (w0 : World) (hz : Heap) (hle0 : Heap.le hz (hp w0)) (c_ : Code_) (v1 : Value) (h1 : GT.rep hz [v1] c_.blocks) :
    ConM Tryz.prog 102 [(.agg #[nV c_.params, nV c_.regs, v1])] w0 (impl_liveOf c_) fun r v w' => ∃ (b1 : Nat) (x2 : Value) (x3 : Value) (x4 : Value) (hz2 : Heap), v = (pV b1) ∧ Heap.le hz hz2 ∧ GT.rep hz2 [x2] r.c.blocks ∧ Mem w0 hz2 w' [junk w0 hz, blk b1 [nV r.c.params, nV r.c.regs, x2, x3, x4] 109, ow [x3] r.ins, ow [x4] r.preds] := by
  unfold impl_liveOf
  refine gcon func102 rfl fun r => ?_
  have hm := Mem.startA hle0
  refine gS (gR (gBx hm rfl fun aH w hm => gA rfl (gE (gS (gW (.p 1 (.q 0 (.e 2 (.p 3 (.e 4 (.p 5 (.e 6 (.p 7 .fin) .nil)) .nil)) .nil))) [2, 4] [1, 3, 5, 7] hm [0, 1] [blk aH [nV c_.params, nV c_.regs, v1] 49, junk w0 hz] rfl mxo (by kernel_rfl) (fun _ _ _ h => h.2) fun w hm hS => tP rfl (fun w => yF fo_49_2 rfl) (tQ rfl hS (fun w hm => yn (hm.blk_at 0 rfl) isAgg49 sizeOf49 rfl) (tO (tY rfl (yL hm 0 isAgg47 rfl) (tAs hS ?_)))))))))
  obtain ⟨aF, aB, rfl, bZ⟩ := ro_slice h1
  refine tP rfl (fun w => yV st_47 rfl) (tO (gb fun aA ay => ?_))
  obtain ⟨⟨az, bA⟩, aq⟩ := makeM_some.1 ay
  refine tf rfl rfl (fun a hf => e_make (x0 := ((MapS.mk0 : MapS Bool) : MapS Bool)) et_107 (fun _ => (own_map.2 (.inl ⟨rfl, rfl⟩))) hf hm rfl rfl rfl az (Int.le_refl _) bA) ?_
  rintro b6 w hm
  rw [aq] at hm
  have h0_1l : (aA.length : Int) = (c_.blocks.length : Int) := by rw [← aq]; simp only [List.length_replicate]; omega
  refine tAk hm [1, 2] rfl fun hS => ?_
  obtain ⟨aE, aC, rfl, b7⟩ := ro_slice (hm.ow_rep 0 rfl)
  refine tP rfl (fun w => yG rfl (y_build (vs := [(0, (.agg #[nV c_.params, nV c_.regs, .slice aF c_.blocks.length aB])), (1, (.slice aE aA.length aC))]) (cs := #[nV c_.params, nV c_.regs, .slice aF c_.blocks.length aB, .slice aE aA.length aC, .slice none 0 0]) rfl rfl (by kernel_rfl))) (tO (tf rfl rfl (fun a hf => e_box hf hm rfl rfl rfl) ?_))
  rintro _ w ⟨aG, rfl, hm⟩
  refine tAn rfl (tP rfl (fun w => yA rfl) (tE (gS (gS (gR (gF fo_49_2 rfl (gL hm 2 isAgg47 rfl (gY (yV st_47 rfl) (gM rfl (gE (gBk ?_)))))))))))
  replace hm := hm.nilow (α := List Int)
  refine gNg (fun af aP a w => ∃ (aL : Value), St 82 [(1, (pV aH)), (3, (pV aG)), (19, (nV ((c_.blocks.length : Int)))), (20, (nV af))] w0 hz [blk aH [nV c_.params, nV c_.regs, .slice aF c_.blocks.length aB] 49, blk aG [nV c_.params, nV c_.regs, .slice aF c_.blocks.length aB, .slice aE aA.length aC, aL] 109, ow [.slice aE aA.length aC] aA, ow [aL] aP, junk w0 hz] a w) (fun a hf => ⟨.slice none 0 0, hf.sb rfl, hm.pk [3, 1, 2, 0, 4] rfl rfl⟩) ?_ ?_
  ·repeat clear hm
   rintro _ _ af aP a w ⟨aL, hf, hm⟩ b8 b9 ba _
   refine gv hf (gS (gR (gB rfl (gE (gS (go _ 21 rfl (decide_eq_true (by omega)) (gct rfl (gSk (gS (gBk (gS (gR (gM rfl (gA rfl (gE (gW (.p 0 (.p 1 (.p 2 (.p 3 (.p 6 (.q 4 (.e 5 (.e 7 (.e 8 (.e 9 (.p 10 (.p 11 (.e 12 .fin .nil))) .nil) .nil) .nil) .nil))))))) [5, 7, 8] [0, 1, 2, 3, 6, 10, 11] hm [0, 1, 2, 3, 4] [blk aH [nV c_.params, nV c_.regs, .slice aF c_.blocks.length aB] 49, blk aG [nV c_.params, nV c_.regs, .slice aF c_.blocks.length aB, .slice aE aA.length aC, aL] 109, ow [.slice aE aA.length aC] aA, ow [aL] aP, junk w0 hz] rfl mxo (by kernel_rfl) (fun _ _ _ h => h.2) fun w hm hS => tP rfl (fun w => yM rfl) (tP rfl (fun w => yM rfl) (tP rfl (fun w => yG rfl (y_nilptr rfl rfl)) (tP rfl (fun w => yF fo_109_2 rfl) (tP rfl (fun w => yM rfl) (tQ rfl hS (fun w hm => yL hm 1 isAgg68 rfl) (tO (tY rfl (yn (hm.blk_at 0 rfl) isAgg49 sizeOf49 rfl) (tAs hS (tO (gb fun aM bB => tf rfl rfl (fun a hf => e_call hf rfl call113 rfl (impl_PredsOf_ok _ c_ (.slice aF c_.blocks.length aB) (hm.now h1) af _ bB)) ?_))))))))))))))))))))))))))
   rintro bc w ⟨_, rfl, hB⟩
   replace hm := hm.give hB; clear hB
   refine tAk hm [1, 2, 3, 4, 5] rfl fun hS => tO ?_
   obtain ⟨aW, aX, rfl, bd⟩ := ro_slice (hm.ow_rep 0 rfl)
   refine tf rfl rfl (fun a hf => e_build (vs := #[(0, (.slice aW aM.length aX))]) (cs := [.slice aW aM.length aX]) et_68 hf hm rfl rfl (by kernel_rfl) rfl rfl) ?_
   rintro _ w ⟨ah, rfl, hm⟩
   replace hm := hm.els_nil (α := List Int)
   replace hm := hm.imp (c' := ow [.slice aW aM.length aX] (aM : List Int)) 2 rfl (fun F h0 => h0)
   replace hm := (hm.els_cons 0 2 (by decide) rfl rfl).pk (L' := [els [.slice aW aM.length aX] ([aM] : List (List Int)), blk ah [.slice aW aM.length aX] 43, blk aH [nV c_.params, nV c_.regs, .slice aF c_.blocks.length aB] 49, blk aG [nV c_.params, nV c_.regs, .slice aF c_.blocks.length aB, .slice aE aA.length aC, aL] 109, ow [.slice aE aA.length aC] aA, ow [aL] aP, junk w0 hz]) [0, 1, 3, 4, 5, 6, 7] rfl rfl
   replace hm := (hm.lit_els 1 0 (by decide) rfl rfl rfl rfl).pk (L' := [ow [sV ah 0 1 1] ([aM] : List (List Int)), blk aH [nV c_.params, nV c_.regs, .slice aF c_.blocks.length aB] 49, blk aG [nV c_.params, nV c_.regs, .slice aF c_.blocks.length aB, .slice aE aA.length aC, aL] 109, ow [.slice aE aA.length aC] aA, ow [aL] aP, junk w0 hz]) [1, 2, 3, 4, 5, 6] rfl rfl
   refine tAk hm [1, 2, 3, 4, 5] rfl fun hS => tO (gb fun be bC => ?_)
   obtain ⟨bD, bE⟩ := appM_some.1 bC
   replace hm := (hm.both 4 0 (by decide) rfl rfl).pk (L' := [blk aH [nV c_.params, nV c_.regs, .slice aF c_.blocks.length aB] 49, blk aG [nV c_.params, nV c_.regs, .slice aF c_.blocks.length aB, .slice aE aA.length aC, aL] 109, ow [.slice aE aA.length aC] aA, both (ow [aL] aP) (ow [sV ah 0 1 1] ([aM] : List (List Int))), junk w0 hz]) [1, 2, 3, 4, 5] rfl rfl
   refine tf rfl rfl (fun a hf => e_appendD (xs := aP) (ys := ([aM] : List (List Int))) 3 et_68 hf hm rfl rfl rfl rfl bD) ?_
   rintro bF w hm
   rw [bE] at hm
   refine tAn rfl (tP rfl (fun w => yG rfl (y_nilptr rfl rfl)) (tP rfl (fun w => yF fo_109_2 rfl) (tO (tf0 rfl rfl (fun a hf => e_store1 1 hf hm rfl sizeOf68 rfl rfl rfl (rep_one (hm.ow_rep 3 rfl)) rfl) ?_))))
   rintro _ w hm
   exact tAn rfl (tE (gR (gP (by omega) (by omega) rfl (gM rfl (gE (gZe fun a hf => ⟨bF, hf.sb rfl, hm.pk [0, 1, 2, 3, 4] rfl rfl⟩))))))
  repeat clear hm
  rintro bf aD a w ⟨bg, hf, hm⟩ bh bi
  refine gv hf (gS (gR (gB rfl (gE (gS (go _ 21 rfl (decide_eq_false (by omega)) (gcf rfl (gXt (gHh (gS (gS (gR (gA rfl (gE ?_))))))))))))))
  obtain ⟨aI, aJ, rfl, bj⟩ := ro_slice (hm.ow_rep 3 rfl)
  refine gJ hm (fun ab => [(3, (pV aG))]) (fun ab => [blk aG [nV c_.params, nV c_.regs, .slice aF c_.blocks.length aB, .slice aE aA.length aC, .slice aI aD.length aJ] 109, ow [.slice aE aA.length aC] ab, ow [.slice aI aD.length aJ] aD, junk w0 hz]) (fun ab => ?_) ?_
  ·refine gBk (gMf hm (fun ac => [(1, (pV aH)), (3, (pV aG)), (5, (.bool (ac.2)))]) (fun ac => [blk aH [nV c_.params, nV c_.regs, .slice aF c_.blocks.length aB] 49, blk aG [nV c_.params, nV c_.regs, .slice aF c_.blocks.length aB, .slice aE aA.length aC, .slice aI aD.length aJ] 109, ow [.slice aE aA.length aC] ac.1, ow [.slice aI aD.length aJ] aD, junk w0 hz]) [0, 1, 2, 3, 4] rfl ?_)
   repeat clear hm
   intro bk bG ac w hm bm bH
   refine gS (gS (gR (gM rfl (gE (gs 36 rfl (fun bJ => ?_) fun bJ => ?_)))))
   ·refine gct rfl (gSk (gBk (gS (gR (gA rfl (gE (gS (gR (gF fo_49_2 rfl (gL hm 0 isAgg47 rfl (gY (yV st_47 rfl) (gY (yS (by omega) (by omega) rfl) (gA rfl (gE (gJ hm (fun aY => [(1, (pV aH)), (3, (pV aG)), (5, (.bool (aY.2)))]) (fun aY => [blk aH [nV c_.params, nV c_.regs, .slice aF c_.blocks.length aB] 49, blk aG [nV c_.params, nV c_.regs, .slice aF c_.blocks.length aB, .slice aE aA.length aC, .slice aI aD.length aJ] 109, ow [.slice aE aA.length aC] aY.1, ow [.slice aI aD.length aJ] aD, junk w0 hz]) (fun aY => ?_) ?_)))))))))))))))
    ·refine gBk (gMf hm (fun aK => [(1, (pV aH)), (3, (pV aG)), (5, (.bool (aK.2.1))), (6, (nV aK.2.2))]) (fun aK => [blk aH [nV c_.params, nV c_.regs, .slice aF c_.blocks.length aB] 49, blk aG [nV c_.params, nV c_.regs, .slice aF c_.blocks.length aB, .slice aE aA.length aC, .slice aI aD.length aJ] 109, ow [.slice aE aA.length aC] aK.1, ow [.slice aI aD.length aJ] aD, junk w0 hz]) [0, 1, 2, 3, 4] rfl ?_)
     repeat clear hm
     intro bo bK aK w hm bp bL
     refine gS (gS (gR (gM rfl (gB rfl (gE (gsd 42 rfl (fun bM => ?_) fun bM => ?_))))))
     ·refine gct rfl (gSk (gS (gJ hm (fun aZ => [(1, (pV aH)), (3, (pV aG)), (5, (.bool (aZ.2))), (6, (nV aK.2.2))]) (fun aZ => [blk aH [nV c_.params, nV c_.regs, .slice aF c_.blocks.length aB] 49, blk aG [nV c_.params, nV c_.regs, .slice aF c_.blocks.length aB, .slice aE aA.length aC, .slice aI aD.length aJ] 109, ow [.slice aE aA.length aC] aZ.1, ow [.slice aI aD.length aJ] aD, junk w0 hz]) (fun aZ => ?_) ?_)))
      ·refine gBk (gS (gR (gM rfl (gM rfl (gCg rfl call121 (pimpl_live__behind_ok _ (⟨c_, aK.1, aD⟩ : live) aG (.slice aF c_.blocks.length aB) (hm.now h1) (.slice aE aA.length aC) (hm.ow_rep 2 rfl) (.slice aI aD.length aJ) (hm.ow_rep 3 rfl) (hm.blk_cells 1 rfl).1 aK.2.2 (-1)) ?_)))))
       rintro bq br aQ w ⟨_, rfl, hB⟩
       replace hm := hm.give hB; clear hB
       refine gA rfl (gE (gS (gS (gR (gF fo_49_2 rfl (gL hm 1 isAgg47 rfl (gM rfl (gg fun ar bN ai => ?_))))))))
       obtain ⟨aN, aO, bs, he⟩ := idx_form' h1 ai
       obtain ⟨rfl, _, rfl⟩ := sl3 he
       obtain ⟨bt, bu, bv, bO, aj, bx, bz⟩ := rk_Block_ h1 ai
       refine gI st_47 bN (idx_lt ai) rfl (gF fo_63_0 rfl (gY (yl isAgg60 ((bO.mono hm.lez).cell (j := 0) rfl) rfl) ?_))
       obtain ⟨bP, bQ, rfl, cA⟩ := ro_slice aj
       refine gY (yV st_60 rfl) (gM rfl (gE (gBk (gNf hm (fun ak al => [(1, (pV aH)), (3, (pV aG)), (5, (.bool (aK.2.1))), (6, (nV aK.2.2)), (7, aQ), (53, (.slice bP ar.phis.length bQ)), (54, (nV ((ar.phis.length : Int)))), (55, (nV ak))]) (fun ak al => [blk aH [nV c_.params, nV c_.regs, sV aN aO c_.blocks.length aB] 49, blk aG [nV c_.params, nV c_.regs, sV aN aO c_.blocks.length aB, .slice aE aA.length aC, .slice aI aD.length aJ] 109, ow [.slice aE aA.length aC] aK.1, ow [.slice aI aD.length aJ] aD, owm aQ al, junk w0 hz]) [1, 2, 3, 4, 0, 5] rfl ?_ ?_))))
       ·repeat clear hm
        intro _ _ ak al w hm cB cC cD _
        refine gS (gR (gB rfl (gE (gS (go _ 56 rfl (decide_eq_true (by omega)) (gct rfl (gSk (gS (gBk (gS (gR (gg fun bR bS am => ?_))))))))))))
        obtain ⟨cE, cF, cG, he⟩ := idx_form' aj am
        obtain ⟨rfl, _, rfl⟩ := sl3 he
        obtain ⟨cH, bT, bU⟩ := rk_Phi_ aj am
        refine gI st_60 bS (idx_lt am) rfl (gY (yn (bT.mono hm.lez) isAgg127 sizeOf127 rfl) (gAl hm zeroValue127 rfl fun cI w hm => gSN hm 0 sizeOf127 (one_cons rfl (one_cons (rep_one bU) one_nil)) rfl fun w hm => gE (gR (gM rfl (gF fo_127_0 rfl (gL hm 0 isAgg3 rfl (gf0 rfl (fun a hf => e_delM (β := Bool) (key := bR.to) 5 underlying3 underlying106 hf hm rfl rfl rfl rfl rfl) ?_)))))))
        rintro _ w hm
        exact gE (gR (gP (by omega) (by omega) rfl (gM rfl (gE (gze hm [1, 2, 3, 4, 5, 6] rfl)))))
       repeat clear hm
       intro cJ aR w hm cK cL
       refine gS (gR (gB rfl (gE (gS (go _ 56 rfl (decide_eq_false (by omega)) (gcf rfl (gXt (gHh (gS (gW (.p 0 (.p 2 (.p 3 (.p 4 (.p 6 (.q 1 (.e 5 (.p 7 (.e 8 (.e 9 (.p 10 .fin) .nil) .nil)) .nil))))))) [5, 8] [0, 2, 3, 4, 6, 7, 10] hm [0, 1, 2, 3, 4, 5] [blk aH [nV c_.params, nV c_.regs, sV aN aO c_.blocks.length aB] 49, blk aG [nV c_.params, nV c_.regs, sV aN aO c_.blocks.length aB, .slice aE aA.length aC, .slice aI aD.length aJ] 109, ow [.slice aE aA.length aC] aK.1, ow [.slice aI aD.length aJ] aD, owm aQ aR, junk w0 hz] rfl mxo (by kernel_rfl) (fun _ _ _ h => h.2) fun w hm hS => tP rfl (fun w => yM rfl) (tP rfl (fun w => yM rfl) (tP rfl (fun w => yG rfl (y_nilptr rfl rfl)) (tP rfl (fun w => yF fo_109_1 rfl) (tP rfl (fun w => yM rfl) (tQ rfl hS (fun w hm => yG rfl (y_lenS (m := (aR : MapS Bool)) underlying106 (hm.owm_rep 4 rfl) rfl rfl)) (tO (tY rfl (yL hm 1 isAgg107 rfl) (tAs hS (gg fun an au aS => ?_)))))))))))))))))))
       obtain ⟨aT, aV, cM, he⟩ := idx_form' (hm.ow_rep 2 rfl) aS
       obtain ⟨rfl, _, rfl⟩ := sl3 he
       obtain ⟨_, _, ao, bV⟩ := ro_get' (hm.ow_rep 2 rfl) aS
       have ae := bV
       obtain ⟨av, rfl, -⟩ := id ae
       replace ae : GT.rep (hp _) [av] an := ae
       replace ao : CellsAt (hp _) aT (aV + (aK.2.2).toNat * 1) [av] := ao
       have hL5_1 := rep_slice_len (hm.ow_rep 2 rfl)
       refine tP rfl (fun w => yI st_107 au (idx_lt2 aS hL5_1) rfl) (tO (tY rfl (yl isAgg106 (ao.cell (j := 0) rfl) rfl) (tAs hS (tO (tY rfl (yG rfl (y_lenS (m := (an : MapS Bool)) underlying106 ae rfl rfl)) (tAn rfl (tP rfl (fun w => yB rfl) (tE (gJ hm (fun aa => [(1, (pV aH)), (3, (pV aG)), (5, (.bool (aa.2))), (6, (nV aK.2.2))]) (fun aa => [blk aH [nV c_.params, nV c_.regs, sV aN aO c_.blocks.length aB] 49, blk aG [nV c_.params, nV c_.regs, sV aN aO c_.blocks.length aB, sV aT aV aA.length aC, .slice aI aD.length aJ] 109, ow [sV aT aV aA.length aC] aa.1, ow [.slice aI aD.length aJ] aD, junk w0 hz]) (fun aa => ?_) ?_)))))))))
       ·refine gsd 73 rfl (fun bW => ?_) fun bW => ?_
        ·refine gct rfl (gR (gM rfl (gY (yG rfl (y_nilptr rfl rfl)) (gF fo_109_1 rfl (gL hm 1 isAgg107 rfl (gM rfl (gM rfl ?_)))))))
         obtain ⟨_, _, aw, bX⟩ := ro_get' (hm.ow_rep 2 rfl) aS
         have ap := bX
         obtain ⟨ax, rfl, -⟩ := id ap
         replace ap : GT.rep (hp _) [ax] an := ap
         replace aw : CellsAt (hp _) aT (aV + (aK.2.2).toNat * 1) [ax] := aw
         have hL6_1 := rep_slice_len (hm.ow_rep 2 rfl)
         refine gI st_107 au (idx_lt2 aS hL6_1) rfl ?_
         have bY := owm_cells hm 4 rfl
         replace hm := hm.imp (c' := ow [aQ] (aR : MapS Bool)) 4 rfl (fun F h0 => own_owm h0)
         replace hm := hm.imp (c' := ow [aQ] (aR : MapS Bool)) 4 rfl (fun F h0 => h0)
         replace hm := (hm.both 2 4 (by decide) rfl rfl).pk (L' := [blk aH [nV c_.params, nV c_.regs, sV aN aO c_.blocks.length aB] 49, blk aG [nV c_.params, nV c_.regs, sV aN aO c_.blocks.length aB, sV aT aV aA.length aC, .slice aI aD.length aJ] 109, both (ow [sV aT aV aA.length aC] aK.1) (ow [aQ] (aR : MapS Bool)), ow [.slice aI aD.length aJ] aD, junk w0 hz]) [0, 1, 2, 3, 5] rfl rfl
         refine gf0 rfl (fun a hf => e_putElem (x1 := (aR : MapS Bool)) (vs := [aQ]) 2 hf hm rfl aS rfl sizeOf106 rfl rfl bY rfl) ?_
         rintro _ w hm
         have cN := List.getElem?_set_self (a := (aR : MapS Bool)) (idx_lt aS)
         exact gA rfl (gE (gz hm [0, 1, 2, 3, 4] rfl))
        exact gcf rfl (gSk (gz hm [0, 1, 2, 3, 5] rfl))
       repeat clear hm
       intro aa w hm
       exact gz hm [0, 1, 2, 3, 4] rfl
      repeat clear hm
      intro aZ w hm
      exact gR (gM rfl (gB rfl (gA rfl (gE (gze hm [0, 1, 2, 3, 4] rfl)))))
     exact gcf rfl (gXt (gHh (gLp bL bK (gz hm [0, 1, 2, 3, 4] rfl))))
    repeat clear hm
    intro aY w hm
    exact gze hm [0, 1, 2, 3, 4] rfl
   exact gcf rfl (gXt (gHh (gLp bH bG (gz hm [1, 2, 3, 4] rfl))))
  repeat clear hm
  intro ab w hm
  exact gS (gR (gM rfl (gA rfl (gE (gRt (gr1 results102 rfl ⟨aG, .slice aF c_.blocks.length aB, .slice aE aA.length aC, .slice aI aD.length aJ, hz, rfl, (Heap.le_refl _), h1, hm.pk [3, 0, 1, 2] rfl rfl⟩))))))
theorem impl_clashing_ok (w0 : World) (c_ : Code_) (v1 : Value) (h1 : GT.rep (hp w0) [v1] c_.blocks) :
    ConM Tryz.prog 158 [(.agg #[nV c_.params, nV c_.regs, v1])] w0 (impl_clashing c_) fun r v w' => ∃ (x1 : Value), v = x1 ∧ Mem w0 (hp w0) w' [ow [x1] r] := by
  unfold impl_clashing
  refine gcon func158 rfl fun r => ?_
  have hm := Mem.start w0
  refine gS (gR (gBx hm rfl fun aL w hm => gA rfl (gE (gS (gR (gF fo_49_1 rfl (gL hm 0 isAgg3 rfl (gb fun aS cJ => ?_))))))))
  obtain ⟨⟨cK, cL⟩, bs⟩ := makeM_some.1 cJ
  refine gf rfl (fun a hf => e_make (x0 := ((MapO.nil : MapO Bool) : MapO Bool)) et_107 (fun _ => own_nilO) hf hm rfl rfl rfl cK (Int.le_refl _) cL) ?_
  rintro dF w hm
  rw [bs] at hm
  have h0_1l : (aS.length : Int) = c_.regs := by rw [← bs]; simp only [List.length_replicate]; omega
  refine gAl hm zeroValue107 rfl fun aB w hm => gS1 hm 0 sizeOf107 (rep_one (hm.ow_rep 1 rfl)) rfl fun w hm => gE (gS (gS (gR (gL hm 0 isAgg107 rfl ?_))))
  obtain ⟨aq, aY, rfl, dG⟩ := ro_slice (hm.ow_rep 1 rfl)
  refine gY (yV st_107 rfl) (gM rfl (gE (gBk (gNf hm (fun bD bE => [(1, (pV aL)), (3, (pV aB)), (19, (nV ((aS.length : Int)))), (20, (nV bD))]) (fun bD bE => [blk aL [nV c_.params, nV c_.regs, v1] 49, blk aB [.slice aq aS.length aY] 107, ow [.slice aq aS.length aY] bE]) [2, 0, 1] rfl ?_ ?_))))
  ·repeat clear hm
   intro _ _ bD bE w hm dH dI dJ _
   refine gS (gR (gB rfl (gE (gS (go _ 21 rfl (decide_eq_true (by omega)) (gct rfl (gSk (gS (gBk (gS (gR (gM rfl (gA rfl (gE (gR (gL hm 1 isAgg107 rfl (gM rfl (gf rfl (fun a hf => e_mkM (β := Bool) hm rfl) ?_))))))))))))))))))
   rintro bY w hm
   refine gg fun cM cN ar => ?_
   obtain ⟨bZ, b6, dK, he⟩ := idx_form' (hm.ow_rep 3 rfl) ar
   obtain ⟨rfl, _, rfl⟩ := sl3 he
   obtain ⟨_, _, bt, cO⟩ := ro_get' (hm.ow_rep 3 rfl) ar
   have b7 := cO
   obtain ⟨bu, rfl, -⟩ := id b7
   replace b7 : GT.rep (hp _) [bu] cM := b7
   replace bt : CellsAt (hp _) bZ (b6 + (bD).toNat * 1) [bu] := bt
   have hL1_1 := rep_slice_len (hm.ow_rep 3 rfl)
   refine gI st_107 cN (idx_lt2 ar hL1_1) rfl ?_
   have cP := owm_cells hm 0 rfl
   replace hm := hm.owm_owO 0 rfl
   replace hm := hm.imp (c' := ow [bY] (MapO.of (MapS.mk0 : MapS Bool) : MapO Bool)) 0 rfl (fun F h0 => h0)
   replace hm := (hm.both 3 0 (by decide) rfl rfl).pk (L' := [blk aL [nV c_.params, nV c_.regs, v1] 49, blk aB [sV bZ b6 aS.length aY] 107, both (ow [sV bZ b6 aS.length aY] bE) (ow [bY] (MapO.of (MapS.mk0 : MapS Bool) : MapO Bool))]) [1, 2, 3] rfl rfl
   refine gf0 rfl (fun a hf => e_putElem (x1 := (MapO.of (MapS.mk0 : MapS Bool) : MapO Bool)) (vs := [bY]) 2 hf hm rfl ar rfl sizeOf106 rfl rfl cP rfl) ?_
   rintro _ w hm
   have dL := List.getElem?_set_self (a := (MapO.of (MapS.mk0 : MapS Bool) : MapO Bool)) (idx_lt ar)
   exact gE (gR (gP (by omega) (by omega) rfl (gM rfl (gE (gze hm [0, 1, 2] rfl)))))
  repeat clear hm
  intro dM cQ w hm dN dO
  refine gS (gR (gB rfl (gE (gS (go _ 21 rfl (decide_eq_false (by omega)) (gcf rfl (gXt (gHh (gS (gR (gY (yU rfl) (gA rfl (gE (gS (gR (gY (yn (hm.blk_at 0 rfl) isAgg49 sizeOf49 rfl) (gCg rfl call102 (impl_liveOf_ok _ _ hm.lez c_ v1 h1 ) ?_)))))))))))))))))
  rintro aA dP dQ w ⟨aE, aG, bv, bx, dR, rfl, ak, cR, hB⟩
  replace hm := Mem.giveA hm ak hB; clear hB
  refine gA rfl (gE (gS (gS (gR (gM rfl (gY (yG rfl (y_nilptr rfl rfl)) (gF fo_109_1 rfl (gL hm 0 isAgg107 rfl ?_))))))))
  obtain ⟨aF, al, hz_r0_1, hmf⟩ := hm.freeze 1 rfl
  replace hm := hmf.pk (L' := [blk aE [nV aA.c.params, nV aA.c.regs, aG, bv, bx] 109, ow [bx] aA.preds, blk aL [nV c_.params, nV c_.regs, v1] 49, blk aB [.slice aq aS.length aY] 107, ow [.slice aq aS.length aY] cQ]) [0, 2, 3, 4, 5] rfl rfl
  clear hmf
  replace hz_r0_1 : GT.rep aF [bv] aA.ins := fz_ow hz_r0_1
  refine gg fun au bz bF => ?_
  obtain ⟨aH, aI, aK, he⟩ := idx_form' hz_r0_1 bF
  subst he
  obtain ⟨_, _, bG, cS⟩ := ro_get' hz_r0_1 bF
  have aZ := cS
  obtain ⟨aO, rfl, -⟩ := id aZ
  replace aZ : GT.rep aF [aO] au := aZ
  replace bG : CellsAt aF aH (aI + (0 : Int).toNat * 1) [aO] := bG
  refine gI st_107 bz (idx_lt bF) rfl (gY (yl isAgg106 ((bG.mono hm.lez).cell (j := 0) rfl) rfl) (gf rfl (fun a hf => e_rangeS (m := (au : MapS Bool)) hf hm underlying106 aZ rfl rfl) ?_))
  rintro _ w ⟨aP, rfl, hm⟩
  refine gE ?_
  obtain ⟨aC, aD, rfl, dS⟩ := ro_slice (hm.ow_rep 2 rfl)
  refine gJg (fun bH a w => ∃ (b8 : Value), St 108 [(1, (pV aL)), (3, (pV aB)), (5, (.func (.func 237) #[] #[(pV aB)])), (6, (pV aE))] w0 aF [blk aL [nV c_.params, nV c_.regs, v1] 49, blk aB [b8] 107, ow [b8] bH, blk aE [nV aA.c.params, nV aA.c.regs, aG, sV aH aI aA.ins.length aK, .slice aC aA.preds.length aD] 109, ow [.slice aC aA.preds.length aD] aA.preds] a w) (fun bH => ?_) ?_
  ·refine gBk (gRng (m := (au : MapS Bool)) (by refine fun p q => (?_ : CommF _ _); (try dsimp only); repeat' (with_reducible first | exact Unt.cput_r | exact cf_some | refine Unt.cput_l ?_ | refine cf_post ?_ | refine cf_bind fun _ => ?_ | refine cf_ite ?_ ?_ | refine cf_range (fun _ => ?_) _)) aZ (fun aa b9 a w => ∃ (ba : Value), St 108 [(1, (pV aL)), (3, (pV aB)), (5, (.func (.func 237) #[] #[(pV aB)])), (6, (pV aE)), (37, (pV aP))] w0 aF [blk aL [nV c_.params, nV c_.regs, v1] 49, blk aB [ba] 107, ow [ba] b9, blk aE [nV aA.c.params, nV aA.c.regs, aG, sV aH aI aA.ins.length aK, .slice aC aA.preds.length aD] 109, ow [.slice aC aA.preds.length aD] aA.preds, itc aF aO aP aa] a w) (fun a hf => ⟨.slice aq aS.length aY, hf.sb rfl, hm.pk [3, 4, 5, 1, 2, 0] rfl rfl⟩) ?_ ?_)
   ·repeat clear hm
    rintro aa b9 a w ⟨ba, hf, hm⟩ hmo
    refine gv (m := some ()) (r := ()) hf ?_ rfl
    refine gS (gR (gf rfl (fun a hf => e_nextS 5 hf hm rfl hmo rfl rfl) ?_))
    rintro _ w ⟨av, bJ, dT, rfl, cA, cB, hm⟩
    refine gSw cA (gX rfl (gE (gS (gct rfl (gSk (gBk (gS (gR (gY (yG rfl (y_entryS 5 hm rfl cB rfl rfl)) (gX rfl (gA rfl (gE (gS (gR (gM rfl (gY (yG rfl (y_nilptr rfl rfl)) (gF fo_109_1 rfl (gL hm 3 isAgg107 rfl (gI st_107 bz (idx_lt bF) rfl (gY (yl isAgg106 ((bG.mono hm.lez).cell (j := 0) rfl) rfl) (gf rfl (fun a hf => e_rangeS (m := (au : MapS Bool)) hf hm underlying106 aZ rfl rfl) ?_)))))))))))))))))))))
    rintro _ w ⟨ab, rfl, hm⟩
    refine gE ?_
    obtain ⟨cT, cU, rfl, dU⟩ := ro_slice (hm.ow_rep 3 rfl)
    refine gJg (fun bc a w => ∃ (bK : Value), St 108 [(1, (pV aL)), (3, (pV aB)), (5, (.func (.func 237) #[] #[(pV aB)])), (6, (pV aE)), (37, (pV aP))] w0 aF [blk aL [nV c_.params, nV c_.regs, v1] 49, blk aB [bK] 107, ow [bK] bc, blk aE [nV aA.c.params, nV aA.c.regs, aG, sV aH aI aA.ins.length aK, .slice aC aA.preds.length aD] 109, ow [.slice aC aA.preds.length aD] aA.preds, itc aF aO aP (Array.push aa av)] a w) (fun bc => ?_) ?_
    ·refine gBk (gRng (m := (au : MapS Bool)) (by refine fun p q => (?_ : CommF _ _); (try dsimp only); repeat' (with_reducible first | exact Unt.cput_r | exact cf_some | refine Unt.cput_l ?_ | refine cf_post ?_ | refine cf_bind fun _ => ?_ | refine cf_ite ?_ ?_ | refine cf_range (fun _ => ?_) _)) aZ (fun aw bL a w => ∃ (ac : Value), St 108 [(1, (pV aL)), (3, (pV aB)), (5, (.func (.func 237) #[] #[(pV aB)])), (6, (pV aE)), (7, (nV bJ.1)), (37, (pV aP)), (48, (pV ab))] w0 aF [blk aL [nV c_.params, nV c_.regs, v1] 49, blk aB [ac] 107, ow [ac] bL, blk aE [nV aA.c.params, nV aA.c.regs, aG, sV aH aI aA.ins.length aK, .slice aC aA.preds.length aD] 109, ow [.slice aC aA.preds.length aD] aA.preds, itc aF aO aP (Array.push aa av), itc aF aO ab aw] a w) (fun a hf => ⟨.slice cT b9.length cU, hf.sb rfl, hm.pk [1, 2, 3, 4, 5, 6, 0] rfl rfl⟩) ?_ ?_)
     ·repeat clear hm
      rintro aw bL a w ⟨ac, hf, hm⟩ hmo
      refine gv (m := some ()) (r := ()) hf ?_ rfl
      refine gS (gR (gf rfl (fun a hf => e_nextS 6 hf hm rfl hmo rfl rfl) ?_))
      rintro _ w ⟨bd, cV, dV, rfl, cC, cD, hm⟩
      refine gSw cC (gX rfl (gE (gS (gct rfl (gSk (gJg (fun be a w => ∃ (bM : Value), St 108 [(1, (pV aL)), (3, (pV aB)), (5, (.func (.func 237) #[] #[(pV aB)])), (6, (pV aE)), (7, (nV bJ.1)), (37, (pV aP)), (48, (pV ab))] w0 aF [blk aL [nV c_.params, nV c_.regs, v1] 49, blk aB [bM] 107, ow [bM] be, blk aE [nV aA.c.params, nV aA.c.regs, aG, sV aH aI aA.ins.length aK, .slice aC aA.preds.length aD] 109, ow [.slice aC aA.preds.length aD] aA.preds, itc aF aO aP (Array.push aa av), itc aF aO ab (Array.push aw bd)] a w) (fun be => ?_) ?_))))))
      ·refine gBk (gS (gR (gY (yG rfl (y_entryS 6 hm rfl cD rfl rfl)) (gX rfl (gA rfl (gE (gS (gR (gM rfl (gF fo_49_0 rfl (gL hm 0 isAgg3 rfl (gB rfl (gE (gJg (fun bf a w => ∃ (bN : Value), St 108 [(1, (pV aL)), (3, (pV aB)), (5, (.func (.func 237) #[] #[(pV aB)])), (6, (pV aE)), (7, (nV bJ.1)), (37, (pV aP)), (48, (pV ab))] w0 aF [blk aL [nV c_.params, nV c_.regs, v1] 49, blk aB [bN] 107, ow [bN] bf, blk aE [nV aA.c.params, nV aA.c.regs, aG, sV aH aI aA.ins.length aK, .slice aC aA.preds.length aD] 109, ow [.slice aC aA.preds.length aD] aA.preds, itc aF aO aP (Array.push aa av), itc aF aO ab (Array.push aw bd)] a w) (fun bf => ?_) ?_))))))))))))))
       ·refine gsd 56 rfl (fun cW => ?_) fun cW => ?_
        ·refine gct rfl (gR (gM rfl (gM rfl (gM rfl ?_))))
         obtain ⟨cX, hle, hm1, hsub, cY⟩ := hm.take2 (L1 := [blk aB [ac] 107, ow [ac] bL]) (L2 := [blk aL [nV c_.params, nV c_.regs, v1] 49, blk aE [nV aA.c.params, nV aA.c.regs, aG, sV aH aI aA.ins.length aK, .slice aC aA.preds.length aD] 109, ow [.slice aC aA.preds.length aD] aA.preds, itc aF aO aP (Array.push aa av), itc aF aO ab (Array.push aw bd)]) [1, 2] [0, 3, 4, 5, 6] (by decide) rfl rfl
         refine gb fun dW cZ => gf rfl (fun a hf => e_callv hf rfl rfl rfl ⟨237, [(pV aB)], rfl, call237, impl_clashing_1_ok _ cX bJ.1 cV.1 bL aB ac hm1  _ cZ⟩) ?_
         rintro dX w ⟨c5, rfl, hB⟩
         replace hm := cY _ _ hB; clear hB
         exact gE (gZ fun a hf => ⟨c5, hf.sb rfl, hm.pk [2, 0, 1, 3, 4, 5, 6] rfl rfl⟩)
        exact gcf rfl (gSk (gZ fun a hf => ⟨ac, hf.sb rfl, hm.pk [0, 1, 2, 3, 4, 5, 6] rfl rfl⟩))
       repeat clear hm
       rintro bf a w ⟨bN, hf, hm⟩
       exact gv hf (gZ fun a hf => ⟨bN, hf.sb rfl, hm.pk [0, 1, 2, 3, 4, 5, 6] rfl rfl⟩)
      repeat clear hm
      rintro be a w ⟨bM, hf, hm⟩
      exact gv hf (gZr cD cC fun a hf => ⟨bM, hf.sb rfl, hm.pk [0, 1, 2, 3, 4, 5, 6] rfl rfl⟩)
     repeat clear hm
     rintro dY dZ a w ⟨c6, hf, hm⟩ hno hk
     refine gv hf ?_ hk
     exact gS (gR (gY (yG rfl (y_nextE 6 hm rfl hno rfl rfl)) (gX rfl (gE (gS (gcf rfl (gXt (gHh (gZ fun a hf => ⟨c6, hf.sb rfl, hm.pk [0, 1, 2, 3, 4, 5] rfl rfl⟩)))))))))
    repeat clear hm
    rintro bc a w ⟨bK, hf, hm⟩
    exact gv hf (gZr cB cA fun a hf => ⟨bK, hf.sb rfl, hm.pk [0, 1, 2, 3, 4, 5] rfl rfl⟩)
   repeat clear hm
   rintro d4 d5 a w ⟨c7, hf, hm⟩ hno hk
   refine gv hf ?_ hk
   exact gS (gR (gY (yG rfl (y_nextE 5 hm rfl hno rfl rfl)) (gX rfl (gE (gS (gcf rfl (gXt (gHh (gZ fun a hf => ⟨c7, hf.sb rfl, hm.pk [0, 1, 2, 3, 4] rfl rfl⟩)))))))))
  repeat clear hm
  rintro bH a w ⟨b8, hf, hm⟩
  refine gv hf (gS (gS (gR (gF fo_49_2 rfl (gL hm 0 isAgg47 rfl ?_)))))
  obtain ⟨c8, aX, rfl, d6⟩ := ro_slice h1
  refine gY (yV st_47 rfl) (gM rfl (gE ?_))
  obtain ⟨c9, ca, rfl, d7⟩ := ro_slice (hm.ow_rep 2 rfl)
  refine gBk (gNg (fun aM bg a w => ∃ (ax : Heap) (bh : Value), Heap.le aF ax ∧ St 108 [(3, (pV aB)), (5, (.func (.func 237) #[] #[(pV aB)])), (6, (pV aE)), (62, (.slice c8 c_.blocks.length aX)), (63, (nV ((c_.blocks.length : Int)))), (64, (nV aM))] w0 ax [blk aB [bh] 107, ow [bh] bg, blk aE [nV aA.c.params, nV aA.c.regs, aG, sV aH aI aA.ins.length aK, .slice aC aA.preds.length aD] 109, ow [.slice aC aA.preds.length aD] aA.preds] a w) (fun a hf => ⟨aF, .slice c9 bH.length ca, (Heap.le_refl _), hf.sb rfl, hm.pk [1, 2, 3, 4] rfl rfl⟩) ?_ ?_)
  ·repeat clear hm
   rintro _ _ aM bg a w ⟨ax, bh, ae, hf, hm⟩ d8 d9 da _
   refine gv hf (gS (gR (gB rfl (gE (gS (go _ 65 rfl (decide_eq_true (by omega)) (gct rfl (gSk (gS (gBk (gS (gR (gM rfl (gg fun aN cb bi => ?_))))))))))))))
   obtain ⟨af, ah, db, he⟩ := idx_form' h1 bi
   obtain ⟨rfl, _, rfl⟩ := sl3 he
   obtain ⟨dc, dd, de, cd, ce, bO, cf⟩ := rk_Block_ h1 bi
   refine gI st_47 cb (idx_lt bi) rfl (gY (yn (cd.mono (Heap.le_trans (Heap.le_trans (Heap.le_trans ak al) ae) hm.lez)) isAgg63 sizeOf63 rfl) (gAl hm zeroValue63 rfl fun df w hm => gA rfl (gSN hm 0 sizeOf63 (one_cons (rep_one ce) (one_cons (rep_one bO) (one_cons rfl (one_cons rfl (one_cons (rep_one cf) one_nil))))) rfl fun w hm => gE (gS (gR (gF fo_63_1 rfl (gL hm 0 isAgg61 rfl ?_)))))))
   obtain ⟨cE, ai, rfl, dg⟩ := ro_slice bO
   refine gY (yV st_61 rfl) (gM rfl (gE ?_))
   obtain ⟨cg, ci, rfl, dh⟩ := ro_slice (hm.ow_rep 2 rfl)
   refine gBk (gNg (fun aT bP a w => ∃ (ay : Heap) (am : Value), Heap.le ax ay ∧ St 108 [(3, (pV aB)), (5, (.func (.func 237) #[] #[(pV aB)])), (6, (pV aE)), (9, (nV aM)), (62, (sV af ah c_.blocks.length aX)), (63, (nV ((c_.blocks.length : Int)))), (64, (nV aM)), (70, (.slice cE aN.ins.length ai)), (71, (nV ((aN.ins.length : Int)))), (72, (nV aT))] w0 ay [blk aB [am] 107, ow [am] bP, blk aE [nV aA.c.params, nV aA.c.regs, aG, sV aH aI aA.ins.length aK, .slice aC aA.preds.length aD] 109, ow [.slice aC aA.preds.length aD] aA.preds] a w) (fun a hf => ⟨ax, .slice cg bg.length ci, (Heap.le_refl _), hf.sb rfl, hm.pk [1, 2, 3, 4] rfl rfl⟩) ?_ ?_)
   ·repeat clear hm
    rintro _ _ aT bP a w ⟨ay, am, an, hf, hm⟩ di dk dl _
    refine gv hf (gS (gR (gB rfl (gE (gS (go _ 73 rfl (decide_eq_true (by omega)) (gct rfl (gSk (gS (gJg (fun bj a w => ∃ (bQ : Heap) (bR : Value), Heap.le ay bQ ∧ St 108 [(3, (pV aB)), (5, (.func (.func 237) #[] #[(pV aB)])), (6, (pV aE)), (9, (nV aM)), (62, (sV af ah c_.blocks.length aX)), (63, (nV ((c_.blocks.length : Int)))), (64, (nV aM)), (70, (.slice cE aN.ins.length ai)), (71, (nV ((aN.ins.length : Int)))), (72, (nV aT))] w0 bQ [blk aB [bR] 107, ow [bR] bj, blk aE [nV aA.c.params, nV aA.c.regs, aG, sV aH aI aA.ins.length aK, .slice aC aA.preds.length aD] 109, ow [.slice aC aA.preds.length aD] aA.preds] a w) (fun bj => ?_) ?_))))))))))
    ·refine gBk (gS (gR (gM rfl (gg fun aJ cj bk => ?_))))
     obtain ⟨az, bA, dm, he⟩ := idx_form' bO bk
     obtain ⟨rfl, _, rfl⟩ := sl3 he
     obtain ⟨aj, ck, bS⟩ := rk_Ins_ bO bk
     refine gI st_61 cj (idx_lt bk) rfl (gY (yn (ck.mono (Heap.le_trans (Heap.le_trans (Heap.le_trans (Heap.le_trans ak al) ae) an) hm.lez)) isAgg65 sizeOf65 rfl) (gAl hm zeroValue65 rfl fun aR w hm => gA rfl (gSN hm 0 sizeOf65 (one_cons rfl (one_cons rfl (one_cons (rep_one bS) (one_cons rfl one_nil)))) rfl fun w hm => gE (gS (gR (gY (yn (hm.blk_at 0 rfl) isAgg65 sizeOf65 rfl) (gC hm rfl call141 (impl_MadeBy_ok _ aJ aj (hm.now (GT.mono (Heap.le_trans (Heap.le_trans (Heap.le_trans ak al) ae) an) bS))) fun bB dp w hm => gA rfl (gE (gS (gS (gR (gM rfl (gB rfl (gE (gsd 80 rfl (fun cl => ?_) fun cl => ?_)))))))))))))))
     ·exact gct rfl (gXt (gHh (gZ fun a hf => ⟨ay, am, (Heap.le_refl _), hf.sb rfl, hm.pk [1, 2, 3, 4] rfl rfl⟩)))
     refine gcf rfl (gSk (gS (gR (gM rfl (gM rfl (gM rfl (gCg rfl call121 (pimpl_live__behind_ok _ aA aE aG (hm.now (GT.mono (Heap.le_trans (Heap.le_trans al ae) an) cR)) (sV aH aI aA.ins.length aK) (hm.now (GT.mono (Heap.le_trans ae an) hz_r0_1)) (.slice aC aA.preds.length aD) (hm.ow_rep 4 rfl) (hm.blk_cells 3 rfl).1 aM aT) ?_)))))))
     rintro bm dq ao w ⟨_, rfl, hB⟩
     replace hm := hm.give hB; clear hB
     obtain ⟨aQ, cF, hz_r3_1, hmf⟩ := hm.freeze 0 rfl
     replace hm := hmf.pk (L' := [blk aR [nV aJ.op, nV aJ.to, aj, nV aJ.n_] 65, blk aB [am] 107, ow [am] bP, blk aE [nV aA.c.params, nV aA.c.regs, aG, sV aH aI aA.ins.length aK, .slice aC aA.preds.length aD] 109, ow [.slice aC aA.preds.length aD] aA.preds]) [1, 2, 3, 4, 5] rfl rfl
     clear hmf
     replace hz_r3_1 : GT.rep aQ [ao] bm := fz_owm hz_r3_1
     refine gf rfl (fun a hf => e_rangeS (m := (bm : MapS Bool)) hf hm underlying106 hz_r3_1 rfl rfl) ?_
     rintro _ w ⟨aV, rfl, hm⟩
     refine gE ?_
     obtain ⟨cm, cn, rfl, dr⟩ := ro_slice (hm.ow_rep 3 rfl)
     refine gJg (fun bo a w => ∃ (bT : Value), St 108 [(3, (pV aB)), (5, (.func (.func 237) #[] #[(pV aB)])), (6, (pV aE)), (9, (nV aM)), (62, (sV af ah c_.blocks.length aX)), (63, (nV ((c_.blocks.length : Int)))), (64, (nV aM)), (70, (sV az bA aN.ins.length ai)), (71, (nV ((aN.ins.length : Int)))), (72, (nV aT))] w0 aQ [blk aB [bT] 107, ow [bT] bo, blk aE [nV aA.c.params, nV aA.c.regs, aG, sV aH aI aA.ins.length aK, .slice aC aA.preds.length aD] 109, ow [.slice aC aA.preds.length aD] aA.preds] a w) (fun bo => ?_) ?_
     ·refine gBk (gRng (m := (bm : MapS Bool)) (by refine fun p q => (?_ : CommF _ _); (try dsimp only); repeat' (with_reducible first | exact Unt.cput_r | exact cf_some | refine Unt.cput_l ?_ | refine cf_post ?_ | refine cf_bind fun _ => ?_ | refine cf_ite ?_ ?_ | refine cf_range (fun _ => ?_) _)) hz_r3_1 (fun ap bC a w => ∃ (aW : Value), St 108 [(3, (pV aB)), (5, (.func (.func 237) #[] #[(pV aB)])), (6, (pV aE)), (9, (nV aM)), (12, (pV aR)), (13, (nV bB)), (62, (sV af ah c_.blocks.length aX)), (63, (nV ((c_.blocks.length : Int)))), (64, (nV aM)), (70, (sV az bA aN.ins.length ai)), (71, (nV ((aN.ins.length : Int)))), (72, (nV aT)), (85, (pV aV))] w0 aQ [blk aB [aW] 107, ow [aW] bC, blk aE [nV aA.c.params, nV aA.c.regs, aG, sV aH aI aA.ins.length aK, .slice aC aA.preds.length aD] 109, ow [.slice aC aA.preds.length aD] aA.preds, blk aR [nV aJ.op, nV aJ.to, aj, nV aJ.n_] 65, itc aQ ao aV ap] a w) (fun a hf => ⟨.slice cm bP.length cn, hf.sb rfl, hm.pk [2, 3, 4, 5, 1, 0] rfl rfl⟩) ?_ ?_)
      ·repeat clear hm
       rintro ap bC a w ⟨aW, hf, hm⟩ hmo
       refine gv (m := some ()) (r := ()) hf ?_ rfl
       refine gS (gR (gf rfl (fun a hf => e_nextS 5 hf hm rfl hmo rfl rfl) ?_))
       rintro _ w ⟨bU, cG, dt, rfl, cH, cI, hm⟩
       refine gSw cH (gX rfl (gE (gS (gct rfl (gSk (gJg (fun bp a w => ∃ (bV : Value), St 108 [(3, (pV aB)), (5, (.func (.func 237) #[] #[(pV aB)])), (6, (pV aE)), (9, (nV aM)), (12, (pV aR)), (13, (nV bB)), (62, (sV af ah c_.blocks.length aX)), (63, (nV ((c_.blocks.length : Int)))), (64, (nV aM)), (70, (sV az bA aN.ins.length ai)), (71, (nV ((aN.ins.length : Int)))), (72, (nV aT)), (85, (pV aV))] w0 aQ [blk aB [bV] 107, ow [bV] bp, blk aE [nV aA.c.params, nV aA.c.regs, aG, sV aH aI aA.ins.length aK, .slice aC aA.preds.length aD] 109, ow [.slice aC aA.preds.length aD] aA.preds, blk aR [nV aJ.op, nV aJ.to, aj, nV aJ.n_] 65, itc aQ ao aV (Array.push ap bU)] a w) (fun bp => ?_) ?_))))))
       ·refine gBk (gS (gR (gY (yG rfl (y_entryS 5 hm rfl cI rfl rfl)) (gX rfl (gA rfl (gE (gS (gJ hm (fun bW => [(3, (pV aB)), (5, (.func (.func 237) #[] #[(pV aB)])), (6, (pV aE)), (9, (nV aM)), (12, (pV aR)), (13, (nV bB)), (14, (nV cG.1)), (62, (sV af ah c_.blocks.length aX)), (63, (nV ((c_.blocks.length : Int)))), (64, (nV aM)), (70, (sV az bA aN.ins.length ai)), (71, (nV ((aN.ins.length : Int)))), (72, (nV aT)), (85, (pV aV)), (100, (.bool (bW)))]) (fun bW => [blk aB [aW] 107, ow [aW] bC, blk aE [nV aA.c.params, nV aA.c.regs, aG, sV aH aI aA.ins.length aK, .slice aC aA.preds.length aD] 109, ow [.slice aC aA.preds.length aD] aA.preds, blk aR [nV aJ.op, nV aJ.to, aj, nV aJ.n_] 65, itc aQ ao aV (Array.push ap bU)]) (fun bW => ?_) ?_))))))))
        ·refine gR (gF fo_65_0 rfl (gL hm 4 isAgg3 rfl (gB rfl (gM rfl (gsd 93 rfl (fun co => ?_) fun co => ?_)))))
         ·exact gO rfl (gO rfl (gO rfl (gO rfl (gO rfl (gO rfl (gKt rfl (gE (gz hm [0, 1, 2, 3, 4, 5] rfl))))))))
         refine gF fo_65_2 rfl (gL hm 4 isAgg43 rfl (gg fun cq cr bq => ?_))
         obtain ⟨du, dv, dw, he⟩ := idx_form bS bq
         subst he
         exact gI st_43 cr (idx_lt bq) rfl (gY (yl isAgg3 ((flat_cells (cs := [nV cq]) (hm.now (GT.mono (Heap.le_trans (Heap.le_trans (Heap.le_trans (Heap.le_trans ak al) ae) an) cF) bS)) bq rfl).cell (j := 0) rfl) rfl) (gM rfl (gB rfl (gKf rfl (gE (gz hm [0, 1, 2, 3, 4, 5] rfl))))))
        repeat clear hm
        intro bW w hm
        refine gJg (fun br a w => ∃ (bX : Value), St 108 [(3, (pV aB)), (5, (.func (.func 237) #[] #[(pV aB)])), (6, (pV aE)), (9, (nV aM)), (12, (pV aR)), (13, (nV bB)), (62, (sV af ah c_.blocks.length aX)), (63, (nV ((c_.blocks.length : Int)))), (64, (nV aM)), (70, (sV az bA aN.ins.length ai)), (71, (nV ((aN.ins.length : Int)))), (72, (nV aT)), (85, (pV aV))] w0 aQ [blk aB [bX] 107, ow [bX] br, blk aE [nV aA.c.params, nV aA.c.regs, aG, sV aH aI aA.ins.length aK, .slice aC aA.preds.length aD] 109, ow [.slice aC aA.preds.length aD] aA.preds, blk aR [nV aJ.op, nV aJ.to, aj, nV aJ.n_] 65, itc aQ ao aV (Array.push ap bU)] a w) (fun br => ?_) ?_
        ·refine gs 100 rfl (fun ct => ?_) fun ct => ?_
         ·refine gct rfl (gR (gM rfl (gM rfl (gM rfl ?_))))
          obtain ⟨cu, hle, hm1, hsub, cv⟩ := hm.take2 (L1 := [blk aB [aW] 107, ow [aW] bC]) (L2 := [blk aE [nV aA.c.params, nV aA.c.regs, aG, sV aH aI aA.ins.length aK, .slice aC aA.preds.length aD] 109, ow [.slice aC aA.preds.length aD] aA.preds, blk aR [nV aJ.op, nV aJ.to, aj, nV aJ.n_] 65, itc aQ ao aV (Array.push ap bU)]) [0, 1] [2, 3, 4, 5] (by decide) rfl rfl
          refine gb fun dx cw => gf rfl (fun a hf => e_callv hf rfl rfl rfl ⟨237, [(pV aB)], rfl, call237, impl_clashing_1_ok _ cu bB cG.1 bC aB aW hm1  _ cw⟩) ?_
          rintro dy w ⟨cx, rfl, hB⟩
          replace hm := cv _ _ hB; clear hB
          exact gE (gZ fun a hf => ⟨cx, hf.sb rfl, hm.pk [0, 1, 2, 3, 4, 5] rfl rfl⟩)
         exact gcf rfl (gSk (gZ fun a hf => ⟨aW, hf.sb rfl, hm.pk [0, 1, 2, 3, 4, 5] rfl rfl⟩))
        repeat clear hm
        rintro br a w ⟨bX, hf, hm⟩
        exact gv hf (gZ fun a hf => ⟨bX, hf.sb rfl, hm.pk [0, 1, 2, 3, 4, 5] rfl rfl⟩)
       repeat clear hm
       rintro bp a w ⟨bV, hf, hm⟩
       exact gv hf (gZr cI cH fun a hf => ⟨bV, hf.sb rfl, hm.pk [0, 1, 2, 3, 4, 5] rfl rfl⟩)
      repeat clear hm
      rintro dz eA a w ⟨cy, hf, hm⟩ hno hk
      refine gv hf ?_ hk
      exact gS (gR (gY (yG rfl (y_nextE 5 hm rfl hno rfl rfl)) (gX rfl (gE (gS (gcf rfl (gXt (gHh (gZ fun a hf => ⟨cy, hf.sb rfl, hm.pk [0, 1, 2, 3] rfl rfl⟩)))))))))
     repeat clear hm
     rintro bo a w ⟨bT, hf, hm⟩
     exact gv hf (gZ fun a hf => ⟨aQ, bT, cF, hf.sb rfl, hm.pk [0, 1, 2, 3] rfl rfl⟩)
    repeat clear hm
    rintro bj a w ⟨bQ, bR, cz, hf, hm⟩
    exact gv hf (gR (gP (by omega) (by omega) rfl (gM rfl (gE (gZe fun a hf => ⟨bQ, bR, (Heap.le_trans an cz), hf.sb rfl, hm.pk [0, 1, 2, 3] rfl rfl⟩)))))
   repeat clear hm
   rintro eB eC a w ⟨dA, dB, dC, hf, hm⟩ eD eE
   exact gv hf (gS (gR (gB rfl (gE (gS (go _ 73 rfl (decide_eq_false (by omega)) (gcf rfl (gXt (gHh (gR (gP (by omega) (by omega) rfl (gM rfl (gE (gZe fun a hf => ⟨dA, dB, (Heap.le_trans ae dC), hf.sb rfl, hm.pk [0, 1, 2, 3] rfl rfl⟩))))))))))))))
  repeat clear hm
  rintro eF eG a w ⟨eH, dD, dE, hf, hm⟩ eI eJ
  refine gv hf (gS (gR (gB rfl (gE (gS (go _ 65 rfl (decide_eq_false (by omega)) (gcf rfl (gXt (gHh (gS (gR (gL hm 0 isAgg107 rfl (gA rfl (gE (gRt ?_)))))))))))))))
  replace hm := hm.ow_toS 1 rfl
  replace hm := hm.thaw (Heap.le_trans (Heap.le_trans ak al) dE)
  exact gr1 results158 rfl ⟨dD, rfl, hm.pk [1] rfl rfl⟩
theorem impl_coloured_ok (w0 : World) (c_ : Code_) (v1 : Value) (h1 : GT.rep (hp w0) [v1] c_.blocks) (most : Int) :
    ConM Tryz.prog 95 [(.agg #[nV c_.params, nV c_.regs, v1]), nV most] w0 (impl_coloured c_ most) fun r v w' => ∃ (x1 : Value), v = x1 ∧ Mem w0 (hp w0) w' [ow [x1] r] := by
  unfold impl_coloured
  refine gconM func95 rfl fun r => ?_
  have hm := Mem.start w0
  refine gS (gR (gBx hm rfl fun bi w hm => gBx hm rfl fun aE w hm => gA rfl (gE (gS (gR (gY (yn (hm.blk_at 1 rfl) isAgg49 sizeOf49 rfl) (gCg rfl call158 (impl_clashing_ok _ c_ v1 (hm.now h1)) ?_)))))))
  rintro aH cT ah w ⟨_, rfl, hB⟩
  replace hm := hm.give hB; clear hB
  refine gAl hm zeroValue107 rfl fun aF w hm => gS1 hm 0 sizeOf107 (rep_one (hm.ow_rep 1 rfl)) rfl fun w hm => gE (gS (gR (gF fo_49_1 rfl (gL hm 3 isAgg3 rfl (gb fun aA bj => ?_)))))
  obtain ⟨⟨bk, bm⟩, bT⟩ := makeM_some.1 bj
  refine gf rfl (fun a hf => e_make (x0 := (0 : Int)) et_43 (fun _ => (Flat.own_iff.2 rfl)) hf hm rfl rfl rfl bk (Int.le_refl _) bm) ?_
  rintro bU w hm
  rw [bT] at hm
  have h0_1l : (aA.length : Int) = c_.regs := by rw [← bT]; simp only [List.length_replicate]; omega
  refine gAl hm zeroValue43 rfl fun aG w hm => gS1 hm 0 sizeOf43 (rep_one (hm.ow_rep 1 rfl)) rfl fun w hm => gE (gS (gR (gF fo_49_1 rfl (gL hm 5 isAgg3 rfl (gb fun aI bo => ?_)))))
  obtain ⟨⟨bp, bq⟩, bV⟩ := makeM_some.1 bo
  refine gf rfl (fun a hf => e_make (x0 := (false : Bool)) et_90 (fun _ => (Flat.own_iff.2 rfl)) hf hm rfl rfl rfl bp (Int.le_refl _) bq) ?_
  rintro br w hm
  rw [bV] at hm
  have h0_2l : (aI.length : Int) = c_.regs := by rw [← bV]; simp only [List.length_replicate]; omega
  refine gA rfl (gE (gS (gR (gA rfl (gE (gS (gS (gR (gF fo_49_1 rfl (gL hm 6 isAgg3 rfl (gM rfl (gE ?_))))))))))))
  obtain ⟨aX, bs, hz_r0_1, hmf⟩ := hm.freeze 4 rfl
  replace hm := hmf.pk (L' := [ow [br] aI, blk aG [bU] 43, ow [bU] aA, blk aF [ah] 107, blk aE [nV most] 3, blk bi [nV c_.params, nV c_.regs, v1] 49]) [0, 1, 2, 3, 5, 6] rfl rfl
  clear hmf
  replace hz_r0_1 : GT.rep aX [ah] aH := fz_ow hz_r0_1
  obtain ⟨aC, aD, rfl, cU⟩ := ro_slice (hm.ow_rep 2 rfl)
  obtain ⟨ab, aJ, rfl, cV⟩ := ro_slice (hm.ow_rep 0 rfl)
  refine gBk (gb fun _ bW => ?_)
  replace bW := fitI_some.1 bW
  replace hm := hm.nilow (α := Int)
  refine gNg (fun aY aB a w => ∃ (bE : Value), St 117 [(3, (pV aE)), (5, (pV aF)), (6, (pV aG)), (7, (.slice ab aI.length aJ)), (8, bE), (30, (nV c_.regs)), (31, (nV aY))] w0 aX [blk aE [nV most] 3, blk aF [ah] 107, blk aG [.slice aC aA.length aD] 43, ow [.slice aC aA.length aD] aA, ow [.slice ab aI.length aJ] aB.1, ow [bE] aB.2] a w) (fun a hf => ⟨.slice none 0 0, hf.sb rfl, hm.pk [5, 4, 2, 3, 1, 0] rfl rfl⟩) ?_ ?_
  ·repeat clear hm
   rintro _ _ aY aB a w ⟨bE, hf, hm⟩ cW cX cY _
   refine gv hf (gS (gR (gB rfl (gE (gS (go _ 32 rfl (decide_eq_true (by omega)) (gct rfl (gSk (gS (gBk (gS (gR (gA rfl (gA rfl (gE (gS (gS (gR (gL hm 1 isAgg107 rfl ?_)))))))))))))))))))
   obtain ⟨ar, aL, rfl, cZ⟩ := ro_slice hz_r0_1
   refine gY (yV st_107 rfl) (gM rfl (gE ?_))
   obtain ⟨aM, aN, rfl, c5⟩ := ro_slice (hm.ow_rep 5 rfl)
   refine gBk (gNf hm (fun aO aP => [(3, (pV aE)), (5, (pV aF)), (6, (pV aG)), (7, (.slice ab aI.length aJ)), (8, (.slice aM aB.2.length aN)), (9, (nV aP.1)), (10, (nV aP.2)), (30, (nV c_.regs)), (31, (nV aY)), (33, (.slice ar aH.length aL)), (34, (nV ((aH.length : Int)))), (35, (nV aO))]) (fun aO aP => [blk aE [nV most] 3, blk aF [.slice ar aH.length aL] 107, blk aG [.slice aC aA.length aD] 43, ow [.slice aC aA.length aD] aA, ow [.slice ab aI.length aJ] aB.1, ow [.slice aM aB.2.length aN] aB.2]) [0, 1, 2, 3, 4, 5] rfl ?_ ?_)
   ·repeat clear hm
    intro _ _ aO aP w hm c6 c7 c8 _
    refine gS (gR (gB rfl (gE (gS (go _ 36 rfl (decide_eq_true (by omega)) (gct rfl (gSk (gS (gJ hm (fun ai => [(3, (pV aE)), (5, (pV aF)), (6, (pV aG)), (7, (.slice ab aI.length aJ)), (8, (.slice aM aB.2.length aN)), (9, (nV ai.1)), (10, (nV ai.2)), (30, (nV c_.regs)), (31, (nV aY)), (33, (.slice ar aH.length aL)), (34, (nV ((aH.length : Int)))), (35, (nV aO))]) (fun ai => [blk aE [nV most] 3, blk aF [.slice ar aH.length aL] 107, blk aG [.slice aC aA.length aD] 43, ow [.slice aC aA.length aD] aA, ow [.slice ab aI.length aJ] aB.1, ow [.slice aM aB.2.length aN] aB.2]) (fun ai => ?_) ?_)))))))))
    ·refine gBk (gS (gR (gM rfl (gg fun bF bt bG => ?_))))
     obtain ⟨aQ, aR, c9, he⟩ := idx_form' hz_r0_1 bG
     obtain ⟨rfl, _, rfl⟩ := sl3 he
     obtain ⟨_, _, bH, bu⟩ := ro_get' hz_r0_1 bG
     have aj := bu
     obtain ⟨ak, rfl, -⟩ := id aj
     replace aj : GT.rep aX [ak] bF := aj
     replace bH : CellsAt aX aQ (aR + (aO).toNat * 1) [ak] := bH
     refine gI st_107 bt (idx_lt bG) rfl (gY (yl isAgg106 ((bH.mono hm.lez).cell (j := 0) rfl) rfl) (gA rfl (gA rfl (gE (gS (gS (gR (gM rfl (gM rfl (gg fun bv bx bJ => ?_))))))))))
     obtain ⟨aS, aT, ca, he⟩ := idx_form (hm.ow_rep 4 rfl) bJ
     obtain ⟨rfl, _, rfl⟩ := sl3 he
     have hL3_1 := rep_slice_len (hm.ow_rep 4 rfl)
     refine gI st_90 bx (idx_lt2 bJ hL3_1) rfl (gY (yl isAgg4 ((flat_cells (cs := [(.bool (bv))]) (hm.ow_rep 4 rfl) bJ rfl).cell (j := 0) rfl) rfl) (gE (gs 43 rfl (fun bz => ?_) fun bz => ?_)))
     ·exact gct rfl (gXt (gHh (gz hm [0, 1, 2, 3, 4, 5] rfl)))
     refine gcf rfl (gSk (gS (gR (gA rfl (gE (gS (gS (gR (gM rfl (gf rfl (fun a hf => e_rangeS (m := (bF : MapS Bool)) hf hm underlying106 aj rfl rfl) ?_))))))))))
     rintro _ w ⟨ac, rfl, hm⟩
     refine gE (gJ hm (fun al => [(3, (pV aE)), (5, (pV aF)), (6, (pV aG)), (7, (sV aS aT aI.length aJ)), (8, (.slice aM aB.2.length aN)), (9, (nV aP.1)), (10, (nV aP.2)), (11, (nV aO)), (13, (nV al)), (30, (nV c_.regs)), (31, (nV aY)), (33, (sV aQ aR aH.length aL)), (34, (nV ((aH.length : Int)))), (35, (nV aO))]) (fun al => [blk aE [nV most] 3, blk aF [sV aQ aR aH.length aL] 107, blk aG [.slice aC aA.length aD] 43, ow [.slice aC aA.length aD] aA, ow [sV aS aT aI.length aJ] aB.1, ow [.slice aM aB.2.length aN] aB.2]) (fun al => ?_) ?_)
     ·refine gBk (gRng (m := (bF : MapS Bool)) (by refine fun p q => (?_ : CommF _ _); (try dsimp only); (repeat' (with_reducible first | exact cf_some | exact cf_sm | exact cf_ms | refine cf_post ?_ | refine cf_bind fun _ => ?_ | refine cf_ite ?_ ?_)); (all_goals refine cf_symm ?_); (all_goals repeat' (with_reducible first | exact cf_some | exact cf_sm | exact cf_ms | refine cf_post ?_ | refine cf_bind fun _ => ?_ | refine cf_ite ?_ ?_)); (all_goals (first | exact cf_add | exact cf_ins))) aj (fun au bX a w => St 117 [(3, (pV aE)), (5, (pV aF)), (6, (pV aG)), (7, (sV aS aT aI.length aJ)), (8, (.slice aM aB.2.length aN)), (9, (nV aP.1)), (10, (nV aP.2)), (11, (nV aO)), (13, (nV bX)), (30, (nV c_.regs)), (31, (nV aY)), (33, (sV aQ aR aH.length aL)), (34, (nV ((aH.length : Int)))), (35, (nV aO)), (45, (pV ac))] w0 aX [blk aE [nV most] 3, blk aF [sV aQ aR aH.length aL] 107, blk aG [.slice aC aA.length aD] 43, ow [.slice aC aA.length aD] aA, ow [sV aS aT aI.length aJ] aB.1, ow [.slice aM aB.2.length aN] aB.2, itc aX ak ac au] a w) (fun a hf => ⟨hf.sb rfl, hm.pk [1, 2, 3, 4, 5, 6, 0] rfl rfl⟩) ?_ ?_)
      ·repeat clear hm
       rintro au bX a w ⟨hf, hm⟩ hmo
       refine gv (m := some ()) (r := ()) hf ?_ rfl
       refine gS (gR (gf rfl (fun a hf => e_nextS 6 hf hm rfl hmo rfl rfl) ?_))
       rintro _ w ⟨bY, cb, cd, rfl, bZ, b6, hm⟩
       refine gSw bZ (gX rfl (gE (gS (gct rfl (gSk (gJ hm (fun av => [(3, (pV aE)), (5, (pV aF)), (6, (pV aG)), (7, (sV aS aT aI.length aJ)), (8, (.slice aM aB.2.length aN)), (9, (nV aP.1)), (10, (nV aP.2)), (11, (nV aO)), (13, (nV av)), (30, (nV c_.regs)), (31, (nV aY)), (33, (sV aQ aR aH.length aL)), (34, (nV ((aH.length : Int)))), (35, (nV aO)), (45, (pV ac))]) (fun av => [blk aE [nV most] 3, blk aF [sV aQ aR aH.length aL] 107, blk aG [.slice aC aA.length aD] 43, ow [.slice aC aA.length aD] aA, ow [sV aS aT aI.length aJ] aB.1, ow [.slice aM aB.2.length aN] aB.2, itc aX ak ac (Array.push au bY)]) (fun av => ?_) ?_))))))
       ·refine gBk (gS (gR (gY (yG rfl (y_entryS 6 hm rfl b6 rfl rfl)) (gX rfl (gA rfl (gE (gS (gR (gM rfl (gM rfl (gg fun cA cB b7 => ?_)))))))))))
        have hL6_1 := rep_slice_len (hm.ow_rep 4 rfl)
        refine gI st_90 cB (idx_lt2 b7 hL6_1) rfl (gY (yl isAgg4 ((flat_cells (cs := [(.bool (cA))]) (hm.ow_rep 4 rfl) b7 rfl).cell (j := 0) rfl) rfl) (gN rfl (gE (gJ hm (fun aw => [(3, (pV aE)), (5, (pV aF)), (6, (pV aG)), (7, (sV aS aT aI.length aJ)), (8, (.slice aM aB.2.length aN)), (9, (nV aP.1)), (10, (nV aP.2)), (11, (nV aO)), (13, (nV aw)), (30, (nV c_.regs)), (31, (nV aY)), (33, (sV aQ aR aH.length aL)), (34, (nV ((aH.length : Int)))), (35, (nV aO)), (45, (pV ac))]) (fun aw => [blk aE [nV most] 3, blk aF [sV aQ aR aH.length aL] 107, blk aG [.slice aC aA.length aD] 43, ow [.slice aC aA.length aD] aA, ow [sV aS aT aI.length aJ] aB.1, ow [.slice aM aB.2.length aN] aB.2, itc aX ak ac (Array.push au bY)]) (fun aw => ?_) ?_))))
        ·refine gsn 54 rfl (fun cC => ?_) fun cC => ?_
         ·exact gct rfl (gR (gM rfl (gB rfl (gA rfl (gE (gz hm [0, 1, 2, 3, 4, 5, 6] rfl))))))
         exact gcf rfl (gSk (gz hm [0, 1, 2, 3, 4, 5, 6] rfl))
        repeat clear hm
        intro aw w hm
        exact gz hm [0, 1, 2, 3, 4, 5, 6] rfl
       repeat clear hm
       intro av w hm
       exact gZr b6 bZ fun a hf => ⟨hf.sb rfl, hm.pk [0, 1, 2, 3, 4, 5, 6] rfl rfl⟩
      repeat clear hm
      rintro ce cf a w ⟨hf, hm⟩ hno hk
      refine gv hf ?_ hk
      exact gS (gR (gY (yG rfl (y_nextE 6 hm rfl hno rfl rfl)) (gX rfl (gE (gS (gcf rfl (gXt (gHh (gz hm [0, 1, 2, 3, 4, 5] rfl)))))))))
     repeat clear hm
     intro al w hm
     refine gS (gJ hm (fun ax => [(3, (pV aE)), (5, (pV aF)), (6, (pV aG)), (7, (sV aS aT aI.length aJ)), (8, (.slice aM aB.2.length aN)), (9, (nV aP.1)), (10, (nV aP.2)), (11, (nV aO)), (13, (nV al)), (30, (nV c_.regs)), (31, (nV aY)), (33, (sV aQ aR aH.length aL)), (34, (nV ((aH.length : Int)))), (35, (nV aO)), (63, (.bool (ax)))]) (fun ax => [blk aE [nV most] 3, blk aF [sV aQ aR aH.length aL] 107, blk aG [.slice aC aA.length aD] 43, ow [.slice aC aA.length aD] aA, ow [sV aS aT aI.length aJ] aB.1, ow [.slice aM aB.2.length aN] aB.2]) (fun ax => ?_) ?_)
     ·refine gR (gM rfl (gB rfl (gM rfl (gsd 59 rfl (fun cD => ?_) fun cD => ?_))))
      ·exact gO rfl (gO rfl (gO rfl (gKt rfl (gE (gz hm [0, 1, 2, 3, 4, 5] rfl)))))
      exact gM rfl (gM rfl (gB rfl (gKf rfl (gE (gz hm [0, 1, 2, 3, 4, 5] rfl)))))
     repeat clear hm
     intro ax w hm
     refine gJ hm (fun am => [(3, (pV aE)), (5, (pV aF)), (6, (pV aG)), (7, (sV aS aT aI.length aJ)), (8, (.slice aM aB.2.length aN)), (9, (nV am.1)), (10, (nV am.2)), (30, (nV c_.regs)), (31, (nV aY)), (33, (sV aQ aR aH.length aL)), (34, (nV ((aH.length : Int)))), (35, (nV aO))]) (fun am => [blk aE [nV most] 3, blk aF [sV aQ aR aH.length aL] 107, blk aG [.slice aC aA.length aD] 43, ow [.slice aC aA.length aD] aA, ow [sV aS aT aI.length aJ] aB.1, ow [.slice aM aB.2.length aN] aB.2]) (fun am => ?_) ?_
     ·refine gs 63 rfl (fun cE => ?_) fun cE => ?_
      ·exact gct rfl (gR (gM rfl (gM rfl (gA rfl (gA rfl (gE (gz hm [0, 1, 2, 3, 4, 5] rfl)))))))
      exact gcf rfl (gSk (gz hm [0, 1, 2, 3, 4, 5] rfl))
     repeat clear hm
     intro am w hm
     exact gz hm [0, 1, 2, 3, 4, 5] rfl
    repeat clear hm
    intro ai w hm
    exact gR (gP (by omega) (by omega) rfl (gM rfl (gE (gze hm [0, 1, 2, 3, 4, 5] rfl))))
   repeat clear hm
   intro cg bK w hm ci cj
   refine gS (gR (gB rfl (gE (gS (go _ 36 rfl (decide_eq_false (by omega)) (gcf rfl (gXt (gHh (gS (gR (gM rfl (gM rfl (gg fun ck cF ay => ?_)))))))))))))
   obtain ⟨cl, cm, cn, he⟩ := idx_form (hm.ow_rep 4 rfl) ay
   obtain ⟨rfl, _, rfl⟩ := sl3 he
   have hL1_1 := rep_slice_len (hm.ow_rep 4 rfl)
   refine gI st_90 cF (idx_lt2 ay hL1_1) rfl (gf0 rfl (fun a hf => e_setElem (x1 := true) (j := 0) (vs := [(.bool (true))]) 4 hf hm rfl ay rfl sizeOf4 rfl rfl rfl (one_cons rfl one_nil) rfl rfl) ?_)
   rintro _ w hm
   have co := List.getElem?_set_self (a := true) (idx_lt ay)
   refine gE (gR (gM rfl (gM rfl (gf rfl (fun a hf => e_build (vs := #[(0, (nV bK.1))]) (cs := [nV bK.1]) et_43 hf hm rfl rfl (by kernel_rfl) rfl rfl) ?_))))
   rintro _ w ⟨cq, rfl, hm⟩
   replace hm := hm.lit (xs := ([bK.1] : List Int)) 0 rfl rfl rfl rfl
   refine gb fun cr cG => ?_
   obtain ⟨cH, cI⟩ := appM_some.1 cG
   refine gf rfl (fun a hf => e_append 6 et_43 hf hm rfl (hm.ow_rep 0 rfl) rfl rfl rfl cH) ?_
   rintro cJ w hm
   rw [cI] at hm
   exact gA rfl (gE (gR (gP (by omega) (by omega) rfl (gM rfl (gE (gZe fun a hf => ⟨cJ, hf.sb rfl, hm.pk [1, 2, 3, 4, 5, 6] rfl rfl⟩))))))
  repeat clear hm
  rintro ct aK a w ⟨cu, hf, hm⟩ cv cw
  refine gv hf (gS (gR (gB rfl (gE (gS (go _ 32 rfl (decide_eq_false (by omega)) (gcf rfl (gXt (gHh (gS (gS (gR (gL hm 2 isAgg43 rfl (gY (yV st_43 rfl) (gM rfl (gE ?_))))))))))))))))
  obtain ⟨aV, aW, rfl, cx⟩ := ro_slice (hm.ow_rep 5 rfl)
  refine gBk (gNf hm (fun bL bM => [(3, (pV aE)), (5, (pV aF)), (6, (pV aG)), (8, (.slice aV aK.2.length aW)), (76, (nV ((aA.length : Int)))), (77, (nV bL))]) (fun bL bM => [blk aE [nV most] 3, blk aF [ah] 107, blk aG [.slice aC aA.length aD] 43, ow [.slice aC aA.length aD] bM, ow [.slice aV aK.2.length aW] aK.2]) [0, 1, 2, 3, 5] rfl ?_ ?_)
  ·repeat clear hm
   intro _ _ bL bM w hm cy cz dA _
   refine gS (gR (gB rfl (gE (gS (go _ 78 rfl (decide_eq_true (by omega)) (gct rfl (gSk (gS (gBk (gS (gR (gM rfl (gA rfl (gE (gR (gL hm 2 isAgg43 rfl (gM rfl (gg fun dB cK az => ?_))))))))))))))))))
   obtain ⟨dC, dD, dE, he⟩ := idx_form (hm.ow_rep 3 rfl) az
   obtain ⟨rfl, _, rfl⟩ := sl3 he
   have hL1_2 := rep_slice_len (hm.ow_rep 3 rfl)
   refine gI st_43 cK (idx_lt2 az hL1_2) rfl (gf0 rfl (fun a hf => e_setElem (x1 := -1) (j := 0) (vs := [nV (-1)]) 3 hf hm rfl az rfl sizeOf3 rfl rfl rfl (one_cons rfl one_nil) rfl rfl) ?_)
   rintro _ w hm
   have dF := List.getElem?_set_self (a := -1) (idx_lt az)
   exact gE (gR (gP (by omega) (by omega) rfl (gM rfl (gE (gze hm [0, 1, 2, 3, 4] rfl)))))
  repeat clear hm
  intro dG dH w hm dI dJ
  refine gS (gR (gB rfl (gE (gS (go _ 78 rfl (decide_eq_false (by omega)) (gcf rfl (gXt (gHh (gS (gS (gR (gM rfl (gf rfl (fun a hf => e_call hf rfl call159 rfl (back159 hm)) ?_)))))))))))))
  rintro _ w ⟨aZ, rfl, hm⟩
  refine gE (gBk (gBf 4 5 back238 call238 hm (fun an => [blk aE [nV most] 3, blk aF [ah] 107, blk aG [.slice aC aA.length aD] 43, ow [.slice aC aA.length aD] an, blk aZ [.slice aV aK.2.length aW] 43, ow [.slice aV aK.2.length aW] aK.2]) [1, 2, 3, 4, 0, 5] rfl (fun _ => rfl) (fun _ => rfl) rfl ?_ ?_))
  ·repeat clear hm
   intro dK bA an _ w
   refine gR (gA rfl (gE (gGt fun b8 w bN hm => gBk (gS (gR (gf rfl (fun a hf => e_mkM (β := Bool) hm rfl) ?_))))))
   rintro ae w hm
   refine gA rfl (gE (gS (gS (gR (gL hm 2 isAgg107 rfl (gM rfl (gg fun bO cL bP => ?_)))))))
   obtain ⟨ao, ap, bB, he⟩ := idx_form' hz_r0_1 bP
   subst he
   obtain ⟨_, _, bQ, cM⟩ := ro_get' hz_r0_1 bP
   have aq := cM
   obtain ⟨bR, rfl, -⟩ := id aq
   replace aq : GT.rep aX [bR] bO := aq
   replace bQ : CellsAt aX ao (ap + (bA).toNat * 1) [bR] := bQ
   refine gI st_107 cL (idx_lt bP) rfl (gY (yl isAgg106 ((bQ.mono (Heap.le_trans bN hm.lez)).cell (j := 0) rfl) rfl) (gf rfl (fun a hf => e_rangeS (m := (bO : MapS Bool)) hf hm underlying106 (GT.mono bN aq) rfl rfl) ?_))
   rintro _ w ⟨b9, rfl, hm⟩
   refine gE (gJ hm (fun af => [(3, (pV aE)), (5, (pV aF)), (6, (pV aG)), (17, (nV bA)), (18, ae), (85, (.func (.func 238) #[] #[(pV aZ)]))]) (fun af => [blk aE [nV most] 3, blk aF [sV ao ap aH.length bB] 107, blk aG [.slice aC aA.length aD] 43, ow [.slice aC aA.length aD] an, owm ae af, blk aZ [.slice aV aK.2.length aW] 43, ow [.slice aV aK.2.length aW] aK.2]) (fun af => ?_) ?_)
   ·refine gBk (gRng (m := (bO : MapS Bool)) (by refine fun p q => (?_ : CommF _ _); (try dsimp only); (repeat' (with_reducible first | exact cf_some | exact cf_sm | exact cf_ms | refine cf_post ?_ | refine cf_bind fun _ => ?_ | refine cf_ite ?_ ?_)); (all_goals refine cf_symm ?_); (all_goals repeat' (with_reducible first | exact cf_some | exact cf_sm | exact cf_ms | refine cf_post ?_ | refine cf_bind fun _ => ?_ | refine cf_ite ?_ ?_)); (all_goals (first | exact cf_add | exact cf_ins))) (GT.mono bN aq) (fun ba bc a w => St 117 [(3, (pV aE)), (5, (pV aF)), (6, (pV aG)), (17, (nV bA)), (18, ae), (85, (.func (.func 238) #[] #[(pV aZ)])), (93, (pV b9))] w0 b8 [blk aE [nV most] 3, blk aF [sV ao ap aH.length bB] 107, blk aG [.slice aC aA.length aD] 43, ow [.slice aC aA.length aD] an, owm ae bc, blk aZ [.slice aV aK.2.length aW] 43, ow [.slice aV aK.2.length aW] aK.2, itc b8 bR b9 ba] a w) (fun a hf => ⟨hf.sb rfl, hm.pk [2, 3, 4, 5, 1, 6, 7, 0] rfl rfl⟩) ?_ ?_)
    ·repeat clear hm
     rintro ba bc a w ⟨hf, hm⟩ hmo
     refine gv (m := some ()) (r := ()) hf ?_ rfl
     refine gS (gR (gf rfl (fun a hf => e_nextS 7 hf hm rfl hmo rfl rfl) ?_))
     rintro _ w ⟨dL, dM, dN, rfl, bd, be, hm⟩
     refine gSw bd (gX rfl (gE (gS (gct rfl (gSk (gBk (gS (gR (gY (yG rfl (y_entryS 7 hm rfl be rfl rfl)) (gX rfl (gA rfl (gE (gR (gM rfl (gL hm 2 isAgg43 rfl (gM rfl (gg fun bf cN bS => ?_)))))))))))))))))
     obtain ⟨dO, dP, dQ, he⟩ := idx_form (hm.ow_rep 3 rfl) bS
     obtain ⟨rfl, _, rfl⟩ := sl3 he
     have hL3_2 := rep_slice_len (hm.ow_rep 3 rfl)
     refine gI st_43 cN (idx_lt2 bS hL3_2) rfl (gY (yl isAgg3 ((flat_cells (cs := [nV bf]) (hm.ow_rep 3 rfl) bS rfl).cell (j := 0) rfl) rfl) (gf0 rfl (fun a hf => e_insM (β := Bool) (key := bf) (u := true) (b := false) 4 underlying3 underlying105 hf hm rfl rfl rfl rfl rfl) ?_))
     rintro _ w hm
     exact gE (gZr be bd fun a hf => ⟨hf.sb rfl, hm.pk [0, 1, 2, 3, 4, 5, 6, 7] rfl rfl⟩)
    repeat clear hm
    rintro dR dS a w ⟨hf, hm⟩ hno hk
    refine gv hf ?_ hk
    exact gS (gR (gY (yG rfl (y_nextE 7 hm rfl hno rfl rfl)) (gX rfl (gE (gS (gcf rfl (gXt (gHh (gz hm [0, 1, 2, 3, 4, 5, 6] rfl)))))))))
   repeat clear hm
   intro af w hm
   refine gS (gR (gL hm 0 isAgg3 rfl (gM rfl (gE (gJ hm (fun bC => [(3, (pV aE)), (5, (pV aF)), (6, (pV aG)), (85, (.func (.func 238) #[] #[(pV aZ)]))]) (fun bC => [blk aE [nV most] 3, blk aF [sV ao ap aH.length bB] 107, blk aG [.slice aC aA.length aD] 43, ow [.slice aC aA.length aD] bC, blk aZ [.slice aV aK.2.length aW] 43, ow [.slice aV aK.2.length aW] aK.2]) (fun bC => ?_) ?_)))))
   ·refine gBk (gb fun _ bg => ?_)
    replace bg := fitI_some.1 bg
    refine gNf hm (fun aa bh => [(3, (pV aE)), (5, (pV aF)), (6, (pV aG)), (17, (nV bA)), (18, ae), (85, (.func (.func 238) #[] #[(pV aZ)])), (103, (nV most)), (104, (nV aa))]) (fun aa bh => [blk aE [nV most] 3, blk aF [sV ao ap aH.length bB] 107, blk aG [.slice aC aA.length aD] 43, ow [.slice aC aA.length aD] an, owm ae af, blk aZ [.slice aV aK.2.length aW] 43, ow [.slice aV aK.2.length aW] aK.2]) [0, 1, 2, 3, 4, 5, 6] rfl ?_ ?_
    ·repeat clear hm
     intro dT cO aa bh w hm dU dV dW cP
     refine gS (gR (gB rfl (gE (gS (go _ 105 rfl (decide_eq_true (by omega)) (gct rfl (gSk (gS (gBk (gS (gR (gM rfl (gA rfl (gE (gS (gR (gM rfl (gM rfl (gY (yG rfl (y_lookB (key := aa) (m := (af : MapS Bool)) underlying3 underlying105 zeroValue4 (hm.owm_rep 4 rfl) rfl rfl rfl)) (gN rfl (gE (gsn 110 rfl (fun cQ => ?_) fun cQ => ?_))))))))))))))))))))))
     ·refine gct rfl (gS (gR (gL hm 2 isAgg43 rfl (gM rfl (gM rfl (gg fun dX cR bD => ?_))))))
      obtain ⟨dY, dZ, d4, he⟩ := idx_form (hm.ow_rep 3 rfl) bD
      obtain ⟨rfl, _, rfl⟩ := sl3 he
      have hL3_3 := rep_slice_len (hm.ow_rep 3 rfl)
      refine gI st_43 cR (idx_lt2 bD hL3_3) rfl (gf0 rfl (fun a hf => e_setElem (x1 := aa) (j := 0) (vs := [nV aa]) 3 hf hm rfl bD rfl sizeOf3 rfl rfl rfl (one_cons rfl one_nil) rfl rfl) ?_)
      rintro _ w hm
      have d5 := List.getElem?_set_self (a := aa) (idx_lt bD)
      exact gE (gXt (gHm rfl (gHh (gLr cP cO (gz hm [0, 1, 2, 3, 5, 6] rfl)))))
     exact gcf rfl (gSk (gR (gP (by omega) (by omega) rfl (gM rfl (gE (gze hm [0, 1, 2, 3, 4, 5, 6] rfl))))))
    repeat clear hm
    intro d6 d7 w hm d8 d9
    exact gS (gR (gB rfl (gE (gS (go _ 105 rfl (decide_eq_false (by omega)) (gcf rfl (gXt (gHh (gz hm [0, 1, 2, 3, 5, 6] rfl)))))))))
   repeat clear hm
   intro bC w hm
   exact gGz hm [0, 1, 2, 3, 4, 5] rfl
  repeat clear hm
  intro D0_1 da db w cS hD0_1 hD0_2 hm
  refine gS (gR (gL hm 2 isAgg43 rfl (gA rfl (gE (gRt ?_)))))
  obtain ⟨_, htk, hm⟩ := hm.shutK (P := Tryz.prog) cS hD0_1 hD0_2
  replace hm := hm.thaw bs
  exact gK1 results95 rfl ⟨_, htk, ⟨.slice aC aA.length aD, rfl, hm.pk [3] rfl rfl⟩⟩
theorem impl_mapped_impl_Block_impl_Block_ok (w0 : World) (list : List Block_) (v1 : Value) (h1 : GT.rep (hp w0) [v1] list) (f : Block_ → Option Block_) (fv1 : Value) (hfn1 : ∀ (w : World) (y0 : Block_) (z1 : Value) (_ : GT.rep (hp w) [z1] y0.phis) (z2 : Value) (_ : GT.rep (hp w) [z2] y0.ins) (z3 : Value) (_ : GT.rep (hp w) [z3] y0.next_) (r : Block_), Below w0.heap.size w0 w → f y0 = some r → FnOk Tryz.prog fv1 [(.agg #[z1, z2, nV y0.jump, nV y0.on, z3])] w (fun v w' => ∃ (x1 : Value) (x2 : Value) (x3 : Value), v = (.agg #[x1, x2, nV r.jump, nV r.on, x3]) ∧ Mem w (hp w) w' [ow [x1] r.phis, ow [x2] r.ins, ow [x3] r.next_])) :
    ConM Tryz.prog 161 [v1, fv1] w0 (impl_mapped_impl_Block_impl_Block list f) fun r v w' => ∃ (x1 : Value), v = x1 ∧ Mem w0 (hp w0) w' [ow [x1] r] := by
  unfold impl_mapped_impl_Block_impl_Block
  refine gcon func161 rfl fun r => ?_
  have hm := Mem.start w0
  refine gS (gR (gA rfl (gE (gS (gR (gA rfl (gE (gS (gS (gR (gM rfl ?_)))))))))))
  obtain ⟨aR, aS, rfl, ac⟩ := ro_slice h1
  refine gY (yV st_47 rfl) (gM rfl (gE (gBk ?_)))
  replace hm := hm.nilow (α := Block_)
  refine gNg (fun aN aC a w => ∃ (aD : Value), St 22 [(1, fv1), (5, aD), (8, (.slice aR list.length aS)), (9, (nV ((list.length : Int)))), (10, (nV aN))] w0 (hp w0) [ow [aD] aC] a w) (fun a hf => ⟨.slice none 0 0, hf.sb rfl, hm.pk [0] rfl rfl⟩) ?_ ?_
  ·repeat clear hm
   rintro _ _ aN aC a w ⟨aD, hf, hm⟩ ae af ah _
   refine gv hf (gS (gR (gB rfl (gE (gS (go _ 11 rfl (decide_eq_true (by omega)) (gct rfl (gSk (gS (gBk (gS (gR (gg fun aB aT aM => ?_)))))))))))))
   obtain ⟨ai, aj, ak, he⟩ := idx_form' h1 aM
   obtain ⟨rfl, _, rfl⟩ := sl3 he
   obtain ⟨aH, aI, aJ, aV, aO, aP, aQ⟩ := rk_Block_ h1 aM
   refine gI st_47 aT (idx_lt aM) rfl (gY (yn (aV.mono hm.lez) isAgg63 sizeOf63 rfl) (gAl hm zeroValue63 rfl fun aK w hm => gSN hm 0 sizeOf63 (one_cons (rep_one aO) (one_cons (rep_one aP) (one_cons rfl (one_cons rfl (one_cons (rep_one aQ) one_nil))))) rfl fun w hm => gE (gR (gM rfl (gM rfl (gY (yn (hm.blk_at 0 rfl) isAgg63 sizeOf63 rfl) (gb fun aA aW => gf rfl (fun a hf => e_callv hf rfl rfl rfl (hfn1 _ aB aH (hm.now aO) aI (hm.now aP) aJ (hm.now aQ) _ hm.below aW)) ?_)))))))
   rintro al w ⟨aE, aF, aG, rfl, hB⟩
   replace hm := hm.give hB; clear hB
   refine gf rfl (fun a hf => e_build (vs := #[(0, (.agg #[aE, aF, nV aA.jump, nV aA.on, aG]))]) (cs := [aE, aF, nV aA.jump, nV aA.on, aG]) et_47 hf hm rfl rfl (by kernel_rfl) rfl rfl) ?_
   rintro _ w ⟨aL, rfl, hm⟩
   replace hm := hm.els_nil (α := Block_)
   replace hm := (mk_Block_ aA.jump aA.on hm 2 3 4 rfl).pk (L' := [els [] ([] : List Block_), blk aL [aE, aF, nV aA.jump, nV aA.on, aG] 63, ow [aE, aF, nV aA.jump, nV aA.on, aG] (aA : Block_), blk aK [aH, aI, nV aB.jump, nV aB.on, aJ] 63, ow [aD] aC]) [0, 1, 2, 5, 6] rfl rfl
   replace hm := (hm.els_cons 0 2 (by decide) rfl rfl).pk (L' := [els [aE, aF, nV aA.jump, nV aA.on, aG] ([aA] : List Block_), blk aL [aE, aF, nV aA.jump, nV aA.on, aG] 63, blk aK [aH, aI, nV aB.jump, nV aB.on, aJ] 63, ow [aD] aC]) [0, 1, 3, 4] rfl rfl
   replace hm := (hm.lit_els 1 0 (by decide) rfl rfl rfl rfl).pk (L' := [ow [sV aL 0 1 1] ([aA] : List Block_), blk aK [aH, aI, nV aB.jump, nV aB.on, aJ] 63, ow [aD] aC]) [1, 2, 3] rfl rfl
   refine gb fun am aX => ?_
   obtain ⟨aY, aZ⟩ := appM_some.1 aX
   replace hm := (hm.both 2 0 (by decide) rfl rfl).pk (L' := [blk aK [aH, aI, nV aB.jump, nV aB.on, aJ] 63, both (ow [aD] aC) (ow [sV aL 0 1 1] ([aA] : List Block_))]) [1, 2] rfl rfl
   refine gf rfl (fun a hf => e_appendD (xs := aC) (ys := ([aA] : List Block_)) 1 et_47 hf hm rfl rfl rfl rfl aY) ?_
   rintro aa w hm
   rw [aZ] at hm
   exact gA rfl (gE (gR (gP (by omega) (by omega) rfl (gM rfl (gE (gZe fun a hf => ⟨aa, hf.sb rfl, hm.pk [1] rfl rfl⟩))))))
  repeat clear hm
  rintro an ao a w ⟨ab, hf, hm⟩ ap aq
  exact gv hf (gS (gR (gB rfl (gE (gS (go _ 11 rfl (decide_eq_false (by omega)) (gcf rfl (gXt (gHh (gS (gR (gM rfl (gA rfl (gE (gRt (gr1 results161 rfl ⟨ab, rfl, hm.pk [0] rfl rfl⟩))))))))))))))))
theorem impl_mapped_impl_Phi_impl_Phi_ok (w0 : World) (list : List Phi_) (v1 : Value) (h1 : GT.rep (hp w0) [v1] list) (f : Phi_ → Option Phi_) (fv1 : Value) (hfn1 : ∀ (w : World) (y0 : Phi_) (z1 : Value) (_ : GT.rep (hp w) [z1] y0.args) (r : Phi_), Below w0.heap.size w0 w → f y0 = some r → FnOk Tryz.prog fv1 [(.agg #[nV y0.to, z1])] w (fun v w' => ∃ (x1 : Value), v = (.agg #[nV r.to, x1]) ∧ Mem w (hp w) w' [ow [x1] r.args])) :
    ConM Tryz.prog 239 [v1, fv1] w0 (impl_mapped_impl_Phi_impl_Phi list f) fun r v w' => ∃ (x1 : Value), v = x1 ∧ Mem w0 (hp w0) w' [ow [x1] r] := by
  unfold impl_mapped_impl_Phi_impl_Phi
  refine gcon func239 rfl fun r => ?_
  have hm := Mem.start w0
  refine gS (gR (gA rfl (gE (gS (gR (gA rfl (gE (gS (gS (gR (gM rfl ?_)))))))))))
  obtain ⟨aL, aM, rfl, aW⟩ := ro_slice h1
  refine gY (yV st_60 rfl) (gM rfl (gE (gBk ?_)))
  replace hm := hm.nilow (α := Phi_)
  refine gNg (fun aJ aB a w => ∃ (aC : Value), St 22 [(1, fv1), (5, aC), (8, (.slice aL list.length aM)), (9, (nV ((list.length : Int)))), (10, (nV aJ))] w0 (hp w0) [ow [aC] aB] a w) (fun a hf => ⟨.slice none 0 0, hf.sb rfl, hm.pk [0] rfl rfl⟩) ?_ ?_
  ·repeat clear hm
   rintro _ _ aJ aB a w ⟨aC, hf, hm⟩ aX aY aZ _
   refine gv hf (gS (gR (gB rfl (gE (gS (go _ 11 rfl (decide_eq_true (by omega)) (gct rfl (gSk (gS (gBk (gS (gR (gg fun aE aN aI => ?_)))))))))))))
   obtain ⟨aa, ab, ac, he⟩ := idx_form' h1 aI
   obtain ⟨rfl, _, rfl⟩ := sl3 he
   obtain ⟨aF, aO, aK⟩ := rk_Phi_ h1 aI
   refine gI st_60 aN (idx_lt aI) rfl (gY (yn (aO.mono hm.lez) isAgg127 sizeOf127 rfl) (gAl hm zeroValue127 rfl fun aG w hm => gSN hm 0 sizeOf127 (one_cons rfl (one_cons (rep_one aK) one_nil)) rfl fun w hm => gE (gR (gM rfl (gM rfl (gY (yn (hm.blk_at 0 rfl) isAgg127 sizeOf127 rfl) (gb fun aA aP => gf rfl (fun a hf => e_callv hf rfl rfl rfl (hfn1 _ aE aF (hm.now aK) _ hm.below aP)) ?_)))))))
   rintro ae w ⟨aD, rfl, hB⟩
   replace hm := hm.give hB; clear hB
   refine gf rfl (fun a hf => e_build (vs := #[(0, (.agg #[nV aA.to, aD]))]) (cs := [nV aA.to, aD]) et_60 hf hm rfl rfl (by kernel_rfl) rfl rfl) ?_
   rintro _ w ⟨aH, rfl, hm⟩
   replace hm := hm.els_nil (α := Phi_)
   replace hm : Mem w0 (hp w0) _ [els [] ([] : List Phi_), blk aH [nV aA.to, aD] 127, ow [nV aA.to, aD] (aA : Phi_), blk aG [nV aE.to, aF] 127, ow [aC] aB] := mk_Phi_ aA.to hm 2 rfl
   replace hm := (hm.els_cons 0 2 (by decide) rfl rfl).pk (L' := [els [nV aA.to, aD] ([aA] : List Phi_), blk aH [nV aA.to, aD] 127, blk aG [nV aE.to, aF] 127, ow [aC] aB]) [0, 1, 3, 4] rfl rfl
   replace hm := (hm.lit_els 1 0 (by decide) rfl rfl rfl rfl).pk (L' := [ow [sV aH 0 1 1] ([aA] : List Phi_), blk aG [nV aE.to, aF] 127, ow [aC] aB]) [1, 2, 3] rfl rfl
   refine gb fun af aQ => ?_
   obtain ⟨aR, aS⟩ := appM_some.1 aQ
   replace hm := (hm.both 2 0 (by decide) rfl rfl).pk (L' := [blk aG [nV aE.to, aF] 127, both (ow [aC] aB) (ow [sV aH 0 1 1] ([aA] : List Phi_))]) [1, 2] rfl rfl
   refine gf rfl (fun a hf => e_appendD (xs := aB) (ys := ([aA] : List Phi_)) 1 et_60 hf hm rfl rfl rfl rfl aR) ?_
   rintro aT w hm
   rw [aS] at hm
   exact gA rfl (gE (gR (gP (by omega) (by omega) rfl (gM rfl (gE (gZe fun a hf => ⟨aT, hf.sb rfl, hm.pk [1] rfl rfl⟩))))))
  repeat clear hm
  rintro ah ai a w ⟨aV, hf, hm⟩ aj ak
  exact gv hf (gS (gR (gB rfl (gE (gS (go _ 11 rfl (decide_eq_false (by omega)) (gcf rfl (gXt (gHh (gS (gR (gM rfl (gA rfl (gE (gRt (gr1 results239 rfl ⟨aV, rfl, hm.pk [0] rfl rfl⟩))))))))))))))))
theorem impl_clonePhi_ok (w0 : World) (f : Phi_) (v1 : Value) (h1 : GT.rep (hp w0) [v1] f.args) :
    ConM Tryz.prog 240 [(.agg #[nV f.to, v1])] w0 (impl_clonePhi f) fun r v w' => ∃ (x1 : Value), v = (.agg #[nV r.to, x1]) ∧ Mem w0 (hp w0) w' [ow [x1] r.args] := by
  unfold impl_clonePhi
  refine gcon func240 rfl fun r => ?_
  have hm := Mem.start w0
  refine gS (gR (gBx hm rfl fun aD w hm => gAl hm zeroValue127 rfl fun aE w hm => gE (gS (gW (.p 0 (.p 2 (.q 1 (.e 3 (.e 4 (.p 5 (.e 6 .fin .nil)) .nil) .nil)))) [3, 4] [0, 2, 5] hm [0, 1] [blk aE [nV 0, .slice none 0 0] 127, blk aD [nV f.to, v1] 127] rfl mxo (by kernel_rfl) (fun _ _ _ h => h.2) fun w hm hS => tP rfl (fun w => yF fo_127_0 rfl) (tP rfl (fun w => yF fo_127_1 rfl) (tQ rfl hS (fun w hm => yL hm 1 isAgg3 rfl) (tO (tY rfl (yL hm 1 isAgg43 rfl) (tAs hS (tO (gb fun aA aF => tf rfl rfl (fun a hf => e_call hf rfl call177 rfl (slices_Clone_S_int_int_ok _ f.args v1 (hm.now h1) _ aF)) ?_)))))))))))
  rintro aG w ⟨_, rfl, hB⟩
  replace hm := hm.give hB; clear hB
  refine tAk hm [1, 2] rfl fun hS => ?_
  obtain ⟨aB, aC, rfl, aH⟩ := ro_slice (hm.ow_rep 0 rfl)
  refine tP rfl (fun w => yG rfl (y_build (vs := [(0, (nV f.to)), (1, (.slice aB aA.length aC))]) (cs := #[nV f.to, .slice aB aA.length aC]) rfl rfl (by kernel_rfl))) (tO (tf0 rfl rfl (fun a hf => e_storeN 1 hf hm rfl sizeOf127 rfl rfl rfl (one_cons rfl (one_cons rfl one_nil)) rfl rfl) ?_))
  rintro _ w hm
  exact tAn rfl (tE (gRt (grc 1 results240 hm rfl isAgg127 sizeOf127 ⟨.slice aB aA.length aC, rfl, hm.pk [0] rfl rfl⟩)))
theorem impl_mapped_impl_Ins_impl_Ins_ok (w0 : World) (list : List Ins_) (v1 : Value) (h1 : GT.rep (hp w0) [v1] list) (f : Ins_ → Option Ins_) (fv1 : Value) (hfn1 : ∀ (w : World) (y0 : Ins_) (z1 : Value) (_ : GT.rep (hp w) [z1] y0.args) (r : Ins_), Below w0.heap.size w0 w → f y0 = some r → FnOk Tryz.prog fv1 [(.agg #[nV y0.op, nV y0.to, z1, nV y0.n_])] w (fun v w' => ∃ (x1 : Value), v = (.agg #[nV r.op, nV r.to, x1, nV r.n_]) ∧ Mem w (hp w) w' [ow [x1] r.args])) :
    ConM Tryz.prog 241 [v1, fv1] w0 (impl_mapped_impl_Ins_impl_Ins list f) fun r v w' => ∃ (x1 : Value), v = x1 ∧ Mem w0 (hp w0) w' [ow [x1] r] := by
  unfold impl_mapped_impl_Ins_impl_Ins
  refine gcon func241 rfl fun r => ?_
  have hm := Mem.start w0
  refine gS (gR (gA rfl (gE (gS (gR (gA rfl (gE (gS (gS (gR (gM rfl ?_)))))))))))
  obtain ⟨aL, aM, rfl, aW⟩ := ro_slice h1
  refine gY (yV st_61 rfl) (gM rfl (gE (gBk ?_)))
  replace hm := hm.nilow (α := Ins_)
  refine gNg (fun aJ aC a w => ∃ (aD : Value), St 22 [(1, fv1), (5, aD), (8, (.slice aL list.length aM)), (9, (nV ((list.length : Int)))), (10, (nV aJ))] w0 (hp w0) [ow [aD] aC] a w) (fun a hf => ⟨.slice none 0 0, hf.sb rfl, hm.pk [0] rfl rfl⟩) ?_ ?_
  ·repeat clear hm
   rintro _ _ aJ aC a w ⟨aD, hf, hm⟩ aX aY aZ _
   refine gv hf (gS (gR (gB rfl (gE (gS (go _ 11 rfl (decide_eq_true (by omega)) (gct rfl (gSk (gS (gBk (gS (gR (gg fun aB aN aI => ?_)))))))))))))
   obtain ⟨aa, ab, ac, he⟩ := idx_form' h1 aI
   obtain ⟨rfl, _, rfl⟩ := sl3 he
   obtain ⟨aF, aO, aK⟩ := rk_Ins_ h1 aI
   refine gI st_61 aN (idx_lt aI) rfl (gY (yn (aO.mono hm.lez) isAgg65 sizeOf65 rfl) (gAl hm zeroValue65 rfl fun aG w hm => gSN hm 0 sizeOf65 (one_cons rfl (one_cons rfl (one_cons (rep_one aK) (one_cons rfl one_nil)))) rfl fun w hm => gE (gR (gM rfl (gM rfl (gY (yn (hm.blk_at 0 rfl) isAgg65 sizeOf65 rfl) (gb fun aA aP => gf rfl (fun a hf => e_callv hf rfl rfl rfl (hfn1 _ aB aF (hm.now aK) _ hm.below aP)) ?_)))))))
   rintro ae w ⟨aE, rfl, hB⟩
   replace hm := hm.give hB; clear hB
   refine gf rfl (fun a hf => e_build (vs := #[(0, (.agg #[nV aA.op, nV aA.to, aE, nV aA.n_]))]) (cs := [nV aA.op, nV aA.to, aE, nV aA.n_]) et_61 hf hm rfl rfl (by kernel_rfl) rfl rfl) ?_
   rintro _ w ⟨aH, rfl, hm⟩
   replace hm := hm.els_nil (α := Ins_)
   replace hm : Mem w0 (hp w0) _ [els [] ([] : List Ins_), blk aH [nV aA.op, nV aA.to, aE, nV aA.n_] 65, ow [nV aA.op, nV aA.to, aE, nV aA.n_] (aA : Ins_), blk aG [nV aB.op, nV aB.to, aF, nV aB.n_] 65, ow [aD] aC] := mk_Ins_ aA.op aA.to aA.n_ hm 2 rfl
   replace hm := (hm.els_cons 0 2 (by decide) rfl rfl).pk (L' := [els [nV aA.op, nV aA.to, aE, nV aA.n_] ([aA] : List Ins_), blk aH [nV aA.op, nV aA.to, aE, nV aA.n_] 65, blk aG [nV aB.op, nV aB.to, aF, nV aB.n_] 65, ow [aD] aC]) [0, 1, 3, 4] rfl rfl
   replace hm := (hm.lit_els 1 0 (by decide) rfl rfl rfl rfl).pk (L' := [ow [sV aH 0 1 1] ([aA] : List Ins_), blk aG [nV aB.op, nV aB.to, aF, nV aB.n_] 65, ow [aD] aC]) [1, 2, 3] rfl rfl
   refine gb fun af aQ => ?_
   obtain ⟨aR, aS⟩ := appM_some.1 aQ
   replace hm := (hm.both 2 0 (by decide) rfl rfl).pk (L' := [blk aG [nV aB.op, nV aB.to, aF, nV aB.n_] 65, both (ow [aD] aC) (ow [sV aH 0 1 1] ([aA] : List Ins_))]) [1, 2] rfl rfl
   refine gf rfl (fun a hf => e_appendD (xs := aC) (ys := ([aA] : List Ins_)) 1 et_61 hf hm rfl rfl rfl rfl aR) ?_
   rintro aT w hm
   rw [aS] at hm
   exact gA rfl (gE (gR (gP (by omega) (by omega) rfl (gM rfl (gE (gZe fun a hf => ⟨aT, hf.sb rfl, hm.pk [1] rfl rfl⟩))))))
  repeat clear hm
  rintro ah ai a w ⟨aV, hf, hm⟩ aj ak
  exact gv hf (gS (gR (gB rfl (gE (gS (go _ 11 rfl (decide_eq_false (by omega)) (gcf rfl (gXt (gHh (gS (gR (gM rfl (gA rfl (gE (gRt (gr1 results241 rfl ⟨aV, rfl, hm.pk [0] rfl rfl⟩))))))))))))))))
theorem impl_cloneIns_ok (w0 : World) (x_ : Ins_) (v1 : Value) (h1 : GT.rep (hp w0) [v1] x_.args) :
    ConM Tryz.prog 242 [(.agg #[nV x_.op, nV x_.to, v1, nV x_.n_])] w0 (impl_cloneIns x_) fun r v w' => ∃ (x1 : Value), v = (.agg #[nV r.op, nV r.to, x1, nV r.n_]) ∧ Mem w0 (hp w0) w' [ow [x1] r.args] := by
  unfold impl_cloneIns
  refine gcon func242 rfl fun r => ?_
  have hm := Mem.start w0
  refine gS (gR (gBx hm rfl fun aB w hm => gAl hm zeroValue65 rfl fun aC w hm => gE (gS (gR (gF fo_65_2 rfl (gL hm 1 isAgg43 rfl (gCg rfl call177 (slices_Clone_S_int_int_ok _ x_.args v1 (hm.now h1)) ?_)))))))
  rintro aD aE aA w ⟨_, rfl, hB⟩
  replace hm := hm.give hB; clear hB
  exact gF fo_65_2 rfl (gS1 hm 2 sizeOf43 (rep_one (hm.ow_rep 0 rfl)) rfl fun w hm => gE (gS (gR (gY (yn (hm.blk_at 2 rfl) isAgg65 sizeOf65 rfl) (gSN hm 1 sizeOf65 (one_cons rfl (one_cons rfl (one_cons (rep_one (hm.ow_rep 0 rfl)) (one_cons rfl one_nil)))) rfl fun w hm => gE (gRt (grc 1 results242 hm rfl isAgg65 sizeOf65 ⟨aA, rfl, hm.pk [0] rfl rfl⟩)))))))
theorem impl_cloneBlock_ok (w0 : World) (b_ : Block_) (v1 : Value) (h1 : GT.rep (hp w0) [v1] b_.phis) (v2 : Value) (h2 : GT.rep (hp w0) [v2] b_.ins) (v3 : Value) (h3 : GT.rep (hp w0) [v3] b_.next_) :
    ConM Tryz.prog 162 [(.agg #[v1, v2, nV b_.jump, nV b_.on, v3])] w0 (impl_cloneBlock b_) fun r v w' => ∃ (x1 : Value) (x2 : Value) (x3 : Value), v = (.agg #[x1, x2, nV r.jump, nV r.on, x3]) ∧ Mem w0 (hp w0) w' [ow [x1] r.phis, ow [x2] r.ins, ow [x3] r.next_] := by
  unfold impl_cloneBlock
  refine gcon func162 rfl fun r => ?_
  have hm := Mem.start w0
  refine gS (gR (gBx hm rfl fun aF w hm => gAl hm zeroValue63 rfl fun aG w hm => gE (gS (gR (gF fo_63_0 rfl (gL hm 1 isAgg60 rfl (gCg rfl call239 (impl_mapped_impl_Phi_impl_Phi_ok _ b_.phis v1 (hm.now h1) (fun y0 => impl_clonePhi y0) (.func (.func 240) #[] #[]) (fun w y0 aA aB r hB hq => ⟨240, [], rfl, call240, impl_clonePhi_ok w y0 aA aB  r hq⟩)) ?_)))))))
  rintro aH aI aC w ⟨_, rfl, hB⟩
  replace hm := hm.give hB; clear hB
  refine gF fo_63_0 rfl (gS1 hm 2 sizeOf60 (rep_one (hm.ow_rep 0 rfl)) rfl fun w hm => gE (gS (gR (gF fo_63_1 rfl (gL hm 2 isAgg61 rfl (gCg rfl call241 (impl_mapped_impl_Ins_impl_Ins_ok _ b_.ins v2 (hm.now h2) (fun y0 => impl_cloneIns y0) (.func (.func 242) #[] #[]) (fun w y0 aA aB r hB hq => ⟨242, [], rfl, call242, impl_cloneIns_ok w y0 aA aB  r hq⟩)) ?_))))))
  rintro aJ aK aD w ⟨_, rfl, hB⟩
  replace hm := hm.give hB; clear hB
  refine gF fo_63_1 rfl (gS1 hm 3 sizeOf61 (rep_one (hm.ow_rep 0 rfl)) rfl fun w hm => gE (gS (gR (gF fo_63_4 rfl (gL hm 3 isAgg43 rfl (gCg rfl call177 (slices_Clone_S_int_int_ok _ b_.next_ v3 (hm.now h3)) ?_))))))
  rintro aL aM aE w ⟨_, rfl, hB⟩
  replace hm := hm.give hB; clear hB
  exact gF fo_63_4 rfl (gS1 hm 4 sizeOf43 (rep_one (hm.ow_rep 0 rfl)) rfl fun w hm => gE (gS (gR (gY (yn (hm.blk_at 4 rfl) isAgg63 sizeOf63 rfl) (gSN hm 3 sizeOf63 (one_cons (rep_one (hm.ow_rep 2 rfl)) (one_cons (rep_one (hm.ow_rep 1 rfl)) (one_cons rfl (one_cons rfl (one_cons (rep_one (hm.ow_rep 0 rfl)) one_nil))))) rfl fun w hm => gE (gRt (grc 3 results162 hm rfl isAgg63 sizeOf63 ⟨aC, aD, aE, rfl, hm.pk [2, 1, 0] rfl rfl⟩)))))))
theorem impl_cloneCode_ok (w0 : World) (c_ : Code_) (v1 : Value) (h1 : GT.rep (hp w0) [v1] c_.blocks) :
    ConM Tryz.prog 97 [(.agg #[nV c_.params, nV c_.regs, v1])] w0 (impl_cloneCode c_) fun r v w' => ∃ (x1 : Value), v = (.agg #[nV r.params, nV r.regs, x1]) ∧ Mem w0 (hp w0) w' [ow [x1] r.blocks] := by
  unfold impl_cloneCode
  refine gcon func97 rfl fun r => ?_
  have hm := Mem.start w0
  refine gS (gR (gBx hm rfl fun aH w hm => gAl hm zeroValue49 rfl fun aI w hm => gE (gS (gR (gF fo_49_2 rfl (gL hm 1 isAgg47 rfl (gCg rfl call161 (impl_mapped_impl_Block_impl_Block_ok _ c_.blocks v1 (hm.now h1) (fun y0 => impl_cloneBlock y0) (.func (.func 162) #[] #[]) (fun w y0 aA aB aC aD aE aF r hB hq => ⟨162, [], rfl, call162, impl_cloneBlock_ok w y0 aA aB aC aD aE aF  r hq⟩)) ?_)))))))
  rintro aJ aK aG w ⟨_, rfl, hB⟩
  replace hm := hm.give hB; clear hB
  exact gF fo_49_2 rfl (gS1 hm 2 sizeOf47 (rep_one (hm.ow_rep 0 rfl)) rfl fun w hm => gE (gS (gR (gY (yn (hm.blk_at 2 rfl) isAgg49 sizeOf49 rfl) (gSN hm 1 sizeOf49 (one_cons rfl (one_cons rfl (one_cons (rep_one (hm.ow_rep 0 rfl)) one_nil))) rfl fun w hm => gE (gRt (grc 1 results97 hm rfl isAgg49 sizeOf49 ⟨aG, rfl, hm.pk [0] rfl rfl⟩)))))))
theorem impl_different_ok (w0 : World) (list : List Int) (v1 : Value) (h1 : GT.rep (hp w0) [v1] list) (holds : Int → Option Bool) (fv1 : Value) (hfn1 : ∀ (w : World) (y0 : Int) (r : Bool), Below w0.heap.size w0 w → holds y0 = some r → FnOk Tryz.prog fv1 [nV y0] w (fun v w' => v = (.bool (r)) ∧ Below w.heap.size w w')) :
    ConM Tryz.prog 163 [v1, fv1] w0 (impl_different list holds) fun r v w' => v = (nV r) ∧ Below w0.heap.size w0 w' := by
  unfold impl_different
  refine gcon func163 rfl fun r => ?_
  have hm := Mem.start w0
  refine gS (gR (gA rfl (gE (gS (gR (gf rfl (fun a hf => e_mkM (β := Bool) hm rfl) ?_))))))
  rintro aA w hm
  refine gA rfl (gE (gS (gS (gR (gM rfl ?_)))))
  obtain ⟨aI, aE, rfl, aP⟩ := ro_slice h1
  refine gY (yV st_43 rfl) (gM rfl (gE (gBk (gNf hm (fun aB aF => [(1, fv1), (5, aA), (9, (.slice aI list.length aE)), (10, (nV ((list.length : Int)))), (11, (nV aB))]) (fun aB aF => [owm aA aF]) [0] rfl ?_ ?_))))
  ·repeat clear hm
   intro _ _ aB aF w hm aQ aR aS _
   refine gS (gR (gB rfl (gE (gS (go _ 12 rfl (decide_eq_true (by omega)) (gct rfl (gSk (gS (gJ hm (fun aC => [(1, fv1), (5, aA), (9, (.slice aI list.length aE)), (10, (nV ((list.length : Int)))), (11, (nV aB))]) (fun aC => [owm aA aC]) (fun aC => ?_) ?_)))))))))
   ·refine gBk (gS (gR (gg fun aG aJ aH => ?_)))
    obtain ⟨aK, aL, aT, he⟩ := idx_form h1 aH
    obtain ⟨rfl, _, rfl⟩ := sl3 he
    refine gI st_43 aJ (idx_lt aH) rfl (gY (yl isAgg3 ((flat_cells (cs := [nV aG]) (hm.now h1) aH rfl).cell (j := 0) rfl) rfl) (gA rfl (gE (gS (gR (gM rfl (gM rfl (gb fun aV aM => gf rfl (fun a hf => e_callv hf rfl rfl rfl (hfn1 _ aG _ hm.below aM)) ?_))))))))
    rintro aW w ⟨rfl, hB⟩
    replace hm := hm.below' hB; clear hB
    refine gE (gJ hm (fun aD => [(1, fv1), (5, aA), (9, (sV aK aL list.length aE)), (10, (nV ((list.length : Int)))), (11, (nV aB))]) (fun aD => [owm aA aD]) (fun aD => ?_) ?_)
    ·refine gs 17 rfl (fun aN => ?_) fun aN => ?_
     ·refine gct rfl (gR (gM rfl (gM rfl (gf0 rfl (fun a hf => e_insM (β := Bool) (key := aG) (u := true) (b := false) 0 underlying3 underlying105 hf hm rfl rfl rfl rfl rfl) ?_))))
      rintro _ w hm
      exact gE (gz hm [0] rfl)
     exact gcf rfl (gSk (gz hm [0] rfl))
    repeat clear hm
    intro aD w hm
    exact gz hm [0] rfl
   repeat clear hm
   intro aC w hm
   exact gR (gP (by omega) (by omega) rfl (gM rfl (gE (gze hm [0] rfl))))
  repeat clear hm
  intro aX aO w hm aY aZ
  exact gS (gR (gB rfl (gE (gS (go _ 12 rfl (decide_eq_false (by omega)) (gcf rfl (gXt (gHh (gS (gR (gM rfl (gY (yG rfl (y_lenS (m := (aO : MapS Bool)) underlying105 (hm.owm_rep 0 rfl) rfl rfl)) (gA rfl (gE (gRt (gr1 results163 rfl ⟨rfl, hm.below⟩))))))))))))))))
theorem impl_ColoursUsed_1_ok (w0 : World) (n_ : Int) :
    ConM Tryz.prog 164 [nV n_] w0 (impl_ColoursUsed_1 n_) fun r v w' => v = (.bool (r)) ∧ Below w0.heap.size w0 w' := by
  unfold impl_ColoursUsed_1
  refine gcon func164 rfl fun r => ?_
  have hm := Mem.start w0
  exact gS (gR (gA rfl (gE (gS (gR (gM rfl (gB rfl (gA rfl (gE (gRt (gr1 results164 rfl ⟨rfl, hm.below⟩)))))))))))
theorem impl_ColoursUsed_ok (w0 : World) (list : List Int) (v1 : Value) (h1 : GT.rep (hp w0) [v1] list) :
    ConM Tryz.prog 98 [v1] w0 (impl_ColoursUsed list) fun r v w' => v = (nV r) ∧ Below w0.heap.size w0 w' := by
  unfold impl_ColoursUsed
  refine gcon func98 rfl fun r => ?_
  have hm := Mem.start w0
  exact gS (gR (gA rfl (gE (gS (gR (gM rfl (gC hm rfl call163 (impl_different_ok _ list v1 (hm.now h1) (fun y0 => impl_ColoursUsed_1 y0) (.func (.func 164) #[] #[]) (fun w y0 r hB hq => ⟨164, [], rfl, call164, impl_ColoursUsed_1_ok w y0  r hq⟩)) fun aA aB w hm => gA rfl (gE (gRt (gr1 results98 rfl ⟨rfl, hm.below⟩))))))))))
theorem impl_recoloured_1_ok (w0 : World) (hz : Heap) (r_ : Int) (hx0 : Heap) (bp0 ip0 : Nat) (c0_ : Code_) (bpc0 : Nat) (v1p : Value) (h1p : GT.rep hz [v1p] c0_.blocks) (hbbpc0 : hz bpc0 = some (.cells ([nV c0_.params, nV c0_.regs, v1p] : List Value).toArray 49 (0, 0))) (c1_ : List Int) (bpc1 : Nat) (v2p : Value) (h2p : GT.rep hz [v2p] c1_) (hbbpc1 : hz bpc1 = some (.cells ([v2p] : List Value).toArray 43 (0, 0))) (hm0 : Mem w0 hz w0 [celc hx0 bp0 ip0 (nV r_)]) :
    ConM Tryz.prog 100 [(.pointer (some ⟨bp0, ip0, none⟩)), (pV bpc0), (pV bpc1)] w0 (impl_recoloured_1 r_ c0_ c1_) fun r v w' => v = (.tuple #[]) ∧ Mem w0 hz w' [celc hx0 bp0 ip0 (nV r)] := by
  unfold impl_recoloured_1
  refine gcon func100 rfl fun r => ?_
  have hm := hm0
  refine gW (.p 0 (.p 1 (.p 4 (.p 5 (.q 2 (.q 3 (.e 6 (.p 7 (.e 8 (.p 9 (.p 10 (.e 11 .fin .nil))) .nil)) .nil))))))) [2, 3, 6, 8] [0, 1, 4, 5, 7, 9, 10] hm [0] [celc hx0 bp0 ip0 (nV r_)] rfl mxo (by kernel_rfl) (fun _ _ _ h => h.2) fun w hm hS => tP rfl (fun w => yM rfl) (tP rfl (fun w => yF fo_49_0 rfl) (tP rfl (fun w => yM rfl) (tP rfl (fun w => yG rfl (y_nilptr rfl rfl)) (tQ rfl hS (fun w hm => yl isAgg3 (hm.hz_cell hbbpc0 rfl) rfl) (tQ rfl hS (fun w hm => yl isAgg43 (hm.hz_cell hbbpc1 rfl) rfl) (tO (tY rfl (yl isAgg3 (hm.cel_cell 0 rfl) rfl) (tAs hS (gg fun aB aC aA => ?_)))))))))
  obtain ⟨aD, aE, aF, he⟩ := idx_form h2p aA
  subst he
  refine tP rfl (fun w => yI st_43 aC (idx_lt aA) rfl) (tO (tY rfl (yl isAgg3 ((flat_cells (cs := [nV aB]) (hm.now h2p) aA rfl).cell (j := 0) rfl) rfl) (tAs hS (tP rfl (fun w => yB rfl) (tP rfl (fun w => yG rfl (y_nilptr rfl rfl)) (tO (tf0 rfl rfl (fun a hf => e_storeC 0 hf hm rfl sizeOf3 rfl rfl rfl rfl) ?_)))))))
  rintro _ w hm
  exact tAn rfl (tE (gre results100 ⟨rfl, hm.pk [0] rfl rfl⟩))
end Go.Proofs.YtabgclojkbijbaaGreat
