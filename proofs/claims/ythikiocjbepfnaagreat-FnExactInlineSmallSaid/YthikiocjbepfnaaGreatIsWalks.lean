/- A part of the proof of FnExactInlineSmallSaid. -/
import Derived.Test.YthikiocjbepfnaaGreatIsWalksC
namespace Go.Proofs.YthikiocjbepfnaaGreat
open Go Go.Wk Go.RowKit
set_option maxRecDepth 4000
set_option maxHeartbeats 4000000
open Tryz
theorem impl_InlineCall_ok (w0 : World) (u : Unit_) (v1 : Value) (h1 : GT.rep (hp w0) [v1] u.codes) (k_ : Int) (b_ : Int) (i_ : Int) :
    ConM Tryz.prog 9 [(.agg #[v1]),nV k_,nV b_,nV i_] w0 (impl_InlineCall u k_ b_ i_) λr v w'=>∃ (x1:Value),v=(.tuple #[(.agg #[x1]),(.bool (r.2))])∧Mem w0 (hp w0) w' [ow [x1] r.1.codes]:=by
  unfold impl_InlineCall
  refine gcon func9 rfl λr=>?_
  have hm:=Mem.start w0
  refine gS (gR (gBx hm rfl λaC w hm=>gAl hm zeroValue28 rfl λaD w hm=>gA rfl (gE (gS (gS (gJ hm (λaJ=>[(1,(nV k_)),(2,(nV b_)),(3,(nV i_)),(4,(pV aC)),(8,(pV aD)),(61,(.bool (aJ)))]) (λaJ=>[blk aC [v1] 28,blk aD [.slice none 0 0] 28]) (λaJ=>?_) ?_))))))
  ·refine gR (gY (yn (hm.blk_at 1 rfl) isAgg28 sizeOf28 rfl) (gM rfl (gC hm rfl call24 (impl_codeAt_ok _ u v1 (hm.now h1) k_) fun bM bN w hm => gN rfl (gM rfl (gsn 15 rfl (fun ak => ?_) fun ak => ?_)))))
   ·refine gO rfl (gO rfl (gO rfl (gO rfl (gO rfl (gO rfl (gO rfl (gO rfl (gO rfl (gO rfl (gO rfl (gKt rfl (gM rfl (gO rfl (gO rfl (gO rfl (gO rfl (gO rfl (gO rfl (gO rfl (gO rfl (gO rfl (gO rfl (gO rfl (gO rfl (gO rfl (gO rfl (gO rfl (gKt rfl (gM rfl (gO rfl ?_))))))))))))))))))))))))))))))
    exact gO rfl (gO rfl (gO rfl (gO rfl (gO rfl (gO rfl (gO rfl (gO rfl (gO rfl (gO rfl (gO rfl (gO rfl (gO rfl (gO rfl (gKt rfl (gE (gz hm [1,0] rfl))))))))))))))))
   refine gM rfl (gF fo_28_0 rfl (gL hm 1 isAgg26 rfl (gM rfl (gg λal aM aE=>?_))))
   obtain ⟨bO,bP,bQ,he⟩:=idx_form' h1 aE
   subst he
   obtain ⟨bR,aN,aO⟩:=rk_Code_ h1 aE
   refine gI st_26 aM (idx_lt aE) rfl (gF fo_44_2 rfl (gY (yl isAgg42 ((aN.mono hm.lez).cell (j:=2) rfl) rfl) ?_))
   obtain ⟨bS,bT,rfl,bU⟩:=ro_slice aO
   refine gY (yV st_42 rfl) (gY (yS (by omega) (by omega) rfl) (gC hm rfl call25 (impl_within_ok _ b_ 0 (((al.blocks.length:Int)) - 1)) λbV bW w hm=>gN rfl (gKf rfl (gM rfl (gsn 28 rfl (λam=>?_) λam=>?_)))))
   ·refine gO rfl (gO rfl (gO rfl (gO rfl (gO rfl (gO rfl (gO rfl (gO rfl (gO rfl (gO rfl (gO rfl (gO rfl (gO rfl (gO rfl (gO rfl (gKt rfl (gM rfl (gO rfl (gO rfl (gO rfl (gO rfl (gO rfl (gO rfl (gO rfl (gO rfl (gO rfl (gO rfl (gO rfl (gO rfl (gO rfl (gO rfl ?_))))))))))))))))))))))))))))))
    exact gO rfl (gKt rfl (gE (gz hm [1,0] rfl)))
   refine gM rfl (gF fo_28_0 rfl (gL hm 1 isAgg26 rfl (gM rfl (gI st_26 aM (idx_lt aE) rfl (gF fo_44_2 rfl (gY (yl isAgg42 ((aN.mono hm.lez).cell (j:=2) rfl) rfl) (gM rfl (gg λan aW aK=>?_))))))))
   obtain ⟨bX,bY,bZ,he⟩:=idx_form' aO aK
   obtain ⟨rfl,_,rfl⟩:=sl3 he
   obtain ⟨b6,b7,b8,aX,b9,aP,ba⟩:=rk_Block_ aO aK
   refine gI st_42 aW (idx_lt aK) rfl (gF fo_49_1 rfl (gY (yl isAgg46 ((aX.mono hm.lez).cell (j:=1) rfl) rfl) ?_))
   obtain ⟨bc,bd,rfl,be⟩:=ro_slice aP
   refine gY (yV st_46 rfl) (gY (yS (by omega) (by omega) rfl) (gC hm rfl call25 (impl_within_ok _ i_ 0 (((an.ins.length:Int)) - 1)) λbf bg w hm=>gN rfl (gKf rfl (gM rfl (gsn 45 rfl (λao=>?_) λao=>?_)))))
   ·exact gO rfl (gO rfl (gO rfl (gO rfl (gO rfl (gO rfl (gO rfl (gO rfl (gO rfl (gO rfl (gO rfl (gO rfl (gO rfl (gO rfl (gO rfl (gKt rfl (gE (gz hm [1,0] rfl)))))))))))))))))
   refine gF fo_28_0 rfl (gL hm 1 isAgg26 rfl (gM rfl (gI st_26 aM (idx_lt aE) rfl (gF fo_44_2 rfl (gY (yl isAgg42 ((aN.mono hm.lez).cell (j:=2) rfl) rfl) (gM rfl (gI st_42 aW (idx_lt aK) rfl (gF fo_49_1 rfl (gY (yl isAgg46 ((aX.mono hm.lez).cell (j:=1) rfl) rfl) (gM rfl (gg λbh ap aQ=>?_)))))))))))
   obtain ⟨bi,bj,bk,he⟩:=idx_form' aP aQ
   obtain ⟨rfl,_,rfl⟩:=sl3 he
   obtain ⟨bm,aq,bp⟩:=rk_Ins_ aP aQ
   exact gI st_46 ap (idx_lt aQ) rfl (gF fo_51_0 rfl (gY (yl isAgg3 ((aq.mono hm.lez).cell (j:=0) rfl) rfl) (gB rfl (gKf rfl (gE (gz hm [1,0] rfl))))))
  repeat clear hm
  intro aJ w hm
  refine gs 61 rfl (λar=>?_) λar=>?_
  ·refine gct rfl (gS (gR (gY (yG rfl (y_build (vs := []) (cs := #[.slice none 0 0]) rfl rfl (by kernel_rfl))) (gSN hm 1 sizeOf28 (one_cons rfl one_nil) rfl fun w hm => gA rfl (gE (gRt ?_))))))
   replace hm:=hm.nilow (α:=Code_)
   exact grct 2 results9 hm rfl isAgg28 sizeOf28 ⟨.slice none 0 0,rfl,hm.pk [0] rfl rfl⟩
  refine gcf rfl (gSk (gS (gR (gY (yn (hm.blk_at 0 rfl) isAgg28 sizeOf28 rfl) (gCg rfl call26 (impl_cloneUnit_ok _ u v1 (hm.now h1)) ?_)))))
  rintro aB bq br w ⟨aY,rfl,hB⟩
  replace hm:=hm.give hB;clear hB
  refine gAl hm zeroValue28 rfl λaR w hm=>gSN hm 0 sizeOf28 (one_cons (rep_one (hm.ow_rep 1 rfl)) one_nil) rfl λw hm=>gE (gS (gW (.p 0 (.p 2 (.p 3 (.p 5 (.p 8 (.p 10 (.p 12 (.p 16 (.p 20 (.p 26 (.p 27 (.q 1 (.q 4 (.p 6 (.q 7 (.q 9 (.e 11 (.p 13 (.p 14 (.e 15 (.p 17 (.p 18 (.e 19 (.p 21 (.p 22 (.e 23 (.p 24 (.e 25 (.e 28 (.p 29 (.e 30 .fin .nil)) .nil) .nil)) .nil))) .nil))) .nil))) .nil))))))))))))))))) [1,4,7,9,11,15,19,23,25,28] [0,2,3,5,6,8,10,12,13,14,16,17,18,20,21,22,24,26,27,29] hm [0,1,2,3] [blk aR [aY] 28,ow [aY] aB.codes,blk aC [v1] 28,blk aD [.slice none 0 0] 28] rfl mxo (by kernel_rfl) (λ_ _ _ h=>h.2) λw hm hS=>tP rfl (λw=>yF fo_28_0 rfl) (tP rfl (λw=>yM rfl) (tP rfl (λw=>yF fo_28_0 rfl) (tP rfl (λw=>yM rfl) (tP rfl (λw=>yF fo_28_0 rfl) (tP rfl (λw=>yF fo_28_0 rfl) (tP rfl (λw=>yM rfl) (tP rfl (λw=>yM rfl) (tP rfl (λw=>yM rfl) (tP rfl (λw=>yM rfl) (tP rfl (λw=>yM rfl) (tQ rfl hS (λw hm=>yL hm 0 isAgg26 rfl) (tQ rfl hS (λw hm=>yL hm 2 isAgg26 rfl) (gg λaZ aa aL=>?_)))))))))))))))
  obtain ⟨ab,ac,ae,he⟩:=idx_form' h1 aL
  subst he
  obtain ⟨bs,af,aS⟩:=rk_Code_ h1 aL
  refine tP rfl (λw=>yI st_26 aa (idx_lt aL) rfl) (tQ rfl hS (λw hm=>yn (af.mono hm.lez) isAgg44 sizeOf44 rfl) (tQ rfl hS (λw hm=>yL hm 2 isAgg26 rfl) (tO (tY rfl (yL hm 2 isAgg26 rfl) (tAs hS (tP rfl (λw=>yI st_26 aa (idx_lt aL) rfl) (tP rfl (λw=>yF fo_44_2 rfl) (tO (tY rfl (yl isAgg42 ((af.mono hm.lez).cell (j:=2) rfl) rfl) (tAs hS (gg λbt au aT=>?_)))))))))))
  obtain ⟨av,aw,ax,he⟩:=idx_form' aS aT
  subst he
  obtain ⟨bu,bv,bx,ay,bz,ah,cA⟩:=rk_Block_ aS aT
  refine tP rfl (λw=>yI st_42 au (idx_lt aT) rfl) (tP rfl (λw=>yF fo_49_1 rfl) (tO (tY rfl (yl isAgg46 ((ay.mono hm.lez).cell (j:=1) rfl) rfl) (tAs hS (gg λcB az aV=>?_)))))
  obtain ⟨cC,cD,cE,he⟩:=idx_form' ah aV
  subst he
  obtain ⟨cF,bA,cG⟩:=rk_Ins_ ah aV
  refine tP rfl (λw=>yI st_46 az (idx_lt aV) rfl) (tP rfl (λw=>yF fo_51_3 rfl) (tO (tY rfl (yl isAgg3 ((bA.mono hm.lez).cell (j:=3) rfl) rfl) (tAs hS (gg λbB bC ai=>?_)))))
  obtain ⟨bD,bE,bF⟩:=rk_Code_ h1 ai
  refine tP rfl (λw=>yI st_26 bC (idx_lt ai) rfl) (tO (tY rfl (yn (bE.mono hm.lez) isAgg44 sizeOf44 rfl) (tAs hS (tO (gb λaA bG=>tf rfl rfl (λa hf=>e_call hf rfl call27 rfl (impl_inlined_ok _ aZ (sV av aw aZ.blocks.length ax) (hm.now aS) bB bD (hm.now bF) b_ i_ _ bG)) ?_)))))
  rintro cH w ⟨aj,rfl,hB⟩
  replace hm:=hm.give hB;clear hB
  refine tAk hm [1,2,3,4] rfl λhS=>gg λcI bH aF=>?_
  obtain ⟨aG,aH,aI,he⟩:=idx_form' (hm.ow_rep 2 rfl) aF
  subst he
  obtain ⟨cJ,cK,cL⟩:=rk_Code_ (hm.ow_rep 2 rfl) aF
  refine tP rfl (λw=>yI st_26 bH (idx_lt aF) rfl) (tO ?_)
  replace hm:Mem w0 (hp w0) _ [ow [nV aA.params,nV aA.regs,aj] (aA:Code_),blk aR [sV aG aH aB.codes.length aI] 28,ow [sV aG aH aB.codes.length aI] aB.codes,blk aC [sV ab ac u.codes.length ae] 28,blk aD [.slice none 0 0] 28]:=mk_Code_ aA.params aA.regs hm 0 rfl
  replace hm:=(hm.both 2 0 (by decide) rfl rfl).pk (L':=[_,_,_,_]) [1,2,3,4] rfl rfl
  refine tf0 rfl rfl (λa hf=>e_putElem (x1:=(aA:Code_)) (vs:=[nV aA.params,nV aA.regs,aj]) 1 hf hm rfl aF rfl sizeOf44 rfl rfl rfl rfl) ?_
  rintro _ w hm
  have cM:=List.getElem?_set_self (a:=(aA:Code_)) (idx_lt aF)
  refine tAn rfl (tE (gS (gR (gY (yn (hm.blk_at 0 rfl) isAgg28 sizeOf28 rfl) ?_))))
  obtain ⟨bJ,hle,hm1,hsub,bK⟩:=hm.take2 (L1:=[ow [sV aG aH aB.codes.length aI] (aB.codes.set (k_).toNat aA)]) (L2:=[blk aR [sV aG aH aB.codes.length aI] 28,blk aC [sV ab ac u.codes.length ae] 28,blk aD [.slice none 0 0] 28]) [1] [0,2,3] (by decide) rfl rfl
  refine gCg rfl call28 (impl_onlyValid_ok _ bJ (⟨(aB.codes.set (k_).toNat aA)⟩:Unit_) (sV aG aH aB.codes.length aI) true hm1 ) ?_
  rintro cN cO cP w ⟨bL,rfl,hB⟩
  replace hm:=bK _ _ hB;clear hB
  exact gX rfl (gX rfl (gSN hm 3 sizeOf28 (one_cons (rep_one (hm.ow_rep 0 rfl)) one_nil) rfl λw hm=>gA rfl (gE (gRt (grct 3 results9 hm rfl isAgg28 sizeOf28 ⟨bL,rfl,hm.pk [0] rfl rfl⟩)))))
theorem impl_InlineSmall_ok (w0 : World) (u : Unit_) (v1 : Value) (h1 : GT.rep (hp w0) [v1] u.codes) (most : Int) :
    ConM Tryz.prog 14 [(.agg #[v1]),nV most] w0 (impl_InlineSmall u most) λr v w'=>∃ (x1:Value),v=(.tuple #[(.agg #[x1]),(.bool (r.2))])∧Mem w0 (hp w0) w' [ow [x1] r.1.codes]:=by
  unfold impl_InlineSmall
  refine gcon func14 rfl λr=>?_
  have hm:=Mem.start w0
  refine gS (gR (gBx hm rfl λao w hm=>gBx hm rfl λaG w hm=>gAl hm zeroValue28 rfl λaL w hm=>gA rfl (gE (gS (gS (gJ hm (λaV=>[(2,(pV ao)),(3,(pV aG)),(4,(pV aL)),(19,(.bool (aV)))]) (λaV=>[blk ao [v1] 28,blk aG [nV most] 3,blk aL [.slice none 0 0] 28]) (λaV=>?_) ?_))))))
  ·refine gR (gY (yn (hm.blk_at 2 rfl) isAgg28 sizeOf28 rfl) (gC hm rfl call34 (impl_UnitValid_ok _ u v1 (hm.now h1)) fun bz cA w hm => gN rfl (gM rfl (gsn 16 rfl (fun bF => ?_) fun bF => ?_))))
   ·exact gO rfl (gO rfl (gKt rfl (gE (gz hm [2,1,0] rfl))))
   exact gL hm 1 isAgg3 rfl (gB rfl (gKf rfl (gE (gz hm [2,1,0] rfl))))
  repeat clear hm
  intro aV w hm
  refine gs 19 rfl (λbG=>?_) λbG=>?_
  ·refine gct rfl (gS (gR (gY (yG rfl (y_build (vs := []) (cs := #[.slice none 0 0]) rfl rfl (by kernel_rfl))) (gSN hm 2 sizeOf28 (one_cons rfl one_nil) rfl fun w hm => gA rfl (gE (gRt ?_))))))
   replace hm:=hm.nilow (α:=Code_)
   exact grct 3 results14 hm rfl isAgg28 sizeOf28 ⟨.slice none 0 0,rfl,hm.pk [0] rfl rfl⟩
  refine gcf rfl (gSk (gS (gR (gY (yn (hm.blk_at 0 rfl) isAgg28 sizeOf28 rfl) (gCg rfl call26 (impl_cloneUnit_ok _ u v1 (hm.now h1)) ?_)))))
  rintro bH cB cC w ⟨cD,rfl,hB⟩
  replace hm:=hm.give hB;clear hB
  refine gAl hm zeroValue28 rfl λaK w hm=>gSN hm 0 sizeOf28 (one_cons (rep_one (hm.ow_rep 1 rfl)) one_nil) rfl λw hm=>gE (gS (gR (gF fo_28_0 rfl (gL hm 2 isAgg26 rfl ?_))))
  obtain ⟨cE,cF,rfl,cG⟩:=ro_slice h1
  refine gY (yV st_26 rfl) (gY (yS (by omega) (by omega) rfl) (gA rfl (gE ?_)))
  obtain ⟨bJ,bK,rfl,cH⟩:=ro_slice (hm.ow_rep 1 rfl)
  refine gBk (gMg (λaA a w=>∃ (aZ:Value),St 62 [(3,(pV aG)),(4,(pV aL)),(6,(pV aK)),(7,(nV (((u.codes.length:Int)) - 1)))] w0 (hp w0) [blk aG [nV most] 3,blk aL [.slice none 0 0] 28,blk aK [aZ] 28,ow [aZ] aA] a w) (λa hf=>⟨.slice bJ bH.codes.length bK,hf.sb rfl,hm.pk [3,4,0,1] rfl rfl⟩) ?_)
  repeat clear hm
  rintro cI ap aA a w ⟨aZ,hf,hm⟩ cJ aq
  refine gv hf (gBk (gS (gR (gF fo_28_0 rfl (gL hm 2 isAgg26 rfl (gM rfl (gg λaB bL aQ=>?_)))))))
  obtain ⟨aD,aE,aF,he⟩:=idx_form' (hm.ow_rep 3 rfl) aQ
  subst he
  obtain ⟨cK,cL,cM⟩:=rk_Code_ (hm.ow_rep 3 rfl) aQ
  refine gI st_26 bL (idx_lt aQ) rfl ?_
  obtain ⟨aM,hm⟩:=pin_Code_ hm 3 rfl aQ
  refine gY (yn (hm.holeE_at 4 rfl) isAgg44 sizeOf44 rfl) (gAl hm zeroValue44 rfl λaO w hm=>gSN hm 0 sizeOf44 (one_cons rfl (one_cons rfl (one_cons (rep_one (hm.ow_rep 1 rfl)) one_nil))) rfl λw hm=>gE (gS (gR (gY (yn (hm.blk_at 0 rfl) isAgg44 sizeOf44 rfl) (gCg rfl call35 (impl_callPlaces_ok _ aB aM (hm.ow_rep 1 rfl)) ?_)))))
  rintro aP cN aa w ⟨_,rfl,hB⟩
  replace hm:=hm.give hB;clear hB
  refine gA rfl (gE (gS (gR (gM rfl (gY (yU rfl) ?_)))))
  have hmS:=hm
  replace hm:Mem w0 (hp w0) _ [ow [aa] aP,blk aO [nV aB.params,nV aB.regs,aM] 44,ow [nV aB.params,nV aB.regs,aM] (aB:Code_),blk aG [nV most] 3,blk aL [.slice none 0 0] 28,blk aK [sV aD aE aA.length aF] 28,holeE aD aE aA.length aF (aA:List Code_) (((u.codes.length:Int)) - 1).toNat [nV aB.params,nV aB.regs,aM]]:=mk_Code_ aB.params aB.regs hm 2 rfl
  replace hm:=(hm.shutE (y:=(aB:Code_)) 6 2 (by decide) rfl rfl).pk (L':=[_,_,_,_,_,_]) [0,1,3,4,5,6] rfl rfl
  rw [set_same aQ] at hm
  have bM:=hm.ow_rep 5 rfl
  replace hm:=hmS
  refine gC hm rfl call36 (slices_IndexFunc_S_S_int_S_int_ok _ aP aa (hm.ow_rep 0 rfl) (λy0=>impl_InlineSmall_1 y0 (⟨aA⟩:Unit_) aB most) (.func (.func 37) #[] #[(pV aK),(pV aO),(pV aG)]) (λw y0 bN bO r hB hq=>⟨37,[(pV aK),(pV aO),(pV aG)],rfl,call37,impl_InlineSmall_1_ok w y0 bN bO (⟨aA⟩:Unit_) (sV aD aE aA.length aF) (rep_later bM hB) aK (hm.blk_later 5 rfl hB) aB aM (rep_later (hm.ow_rep 2 rfl) hB) aO (hm.blk_later 1 rfl hB) most aG (hm.blk_later 3 rfl hB) r hq⟩)) λar cO w hm=>gA rfl (gE (gS (gS ?_)))
  replace hm:Mem w0 (hp w0) _ [ow [aa] aP,blk aO [nV aB.params,nV aB.regs,aM] 44,ow [nV aB.params,nV aB.regs,aM] (aB:Code_),blk aG [nV most] 3,blk aL [.slice none 0 0] 28,blk aK [sV aD aE aA.length aF] 28,holeE aD aE aA.length aF (aA:List Code_) (((u.codes.length:Int)) - 1).toNat [nV aB.params,nV aB.regs,aM]]:=mk_Code_ aB.params aB.regs hm 2 rfl
  replace hm:=(hm.shutE (y:=(aB:Code_)) 6 2 (by decide) rfl rfl).pk (L':=[_,_,_,_,_,_]) [0,1,3,4,5,6] rfl rfl
  rw [set_same aQ] at hm
  refine gR (gM rfl (gB rfl (gE (gsd 38 rfl (λbP=>?_) λbP=>?_))))
  ·exact gct rfl (gS (gR (gY (yn (hm.blk_at 4 rfl) isAgg28 sizeOf28 rfl) (gSN hm 3 sizeOf28 (one_cons rfl one_nil) rfl λw hm=>gA rfl (gE (gRt (gLp aq ap (grct 3 results14 hm rfl isAgg28 sizeOf28 ⟨sV aD aE aA.length aF,rfl,hm.pk [5] rfl rfl⟩))))))))
  refine gcf rfl (gSk (gS (gg λaC au aJ=>?_)))
  obtain ⟨av,aw,ax,he⟩:=idx_form' (hm.ow_rep 0 rfl) aJ
  subst he
  obtain ⟨_,bQ,hm⟩:=hm.openE 0 rfl aJ
  have bR:=hm.ow_rep 0 rfl
  have aW:=bR
  obtain ⟨aR,rfl,-⟩:=id aW
  replace aW:GT.rep (hp _) [aR] aC:=aW
  clear bQ aW
  replace hm:Mem w0 (hp w0) _ [ow [aR] (aC:List Int),holeE av aw aP.length ax (aP:List (List Int)) (ar).toNat [aR],blk aO [nV aB.params,nV aB.regs,aM] 44,blk aG [nV most] 3,blk aL [.slice none 0 0] 28,blk aK [sV aD aE aA.length aF] 28,ow [sV aD aE aA.length aF] aA]:=hm
  replace hm:=hm.pk (L':=[_,_,_,_,_,_,_]) [0,1,2,3,4,5,6] rfl rfl
  refine gJg (λaX a w=>∃ (ab:Nat) (aY:Value),St 62 [(3,(pV aG)),(4,(pV aL)),(6,(pV aK)),(7,(nV (((u.codes.length:Int)) - 1))),(11,(pV ab)),(12,(.bool (aX.2)))] w0 (hp w0) [blk aG [nV most] 3,blk aL [.slice none 0 0] 28,blk aK [sV aD aE aA.length aF] 28,ow [sV aD aE aA.length aF] aA,blk ab [aY] 28,ow [aY] aX.1] a w) (λaX=>?_) ?_
  ·refine gW (.p 1 (.p 2 (.p 3 (.p 4 (.p 8 (.p 9 (.p 10 (.q 0 (.e 5 (.p 6 (.q 7 (.e 11 (.p 12 (.q 13 (.e 14 (.p 15 (.p 16 (.p 17 (.e 18 (.e 19 (.p 20 .fin) .nil) .nil)))) (.e 18 (.e 14 (.p 15 (.p 16 (.p 17 (.e 19 (.p 20 .fin) .nil)))) .nil) .nil)))) (.e 18 (.e 11 (.p 12 (.e 13 (.e 14 (.p 15 (.p 16 (.p 17 (.e 19 (.p 20 .fin) .nil)))) .nil) .nil)) .nil) .nil)))) (.e 11 (.p 12 (.q 13 (.e 5 (.p 6 (.q 7 (.e 14 (.p 15 (.p 16 (.p 17 (.e 18 (.e 19 (.p 20 .fin) .nil) .nil)))) (.e 18 (.e 14 (.p 15 (.p 16 (.p 17 (.e 19 (.p 20 .fin) .nil)))) .nil) .nil)))) (.e 18 (.e 5 (.p 6 (.e 7 (.e 14 (.p 15 (.p 16 (.p 17 (.e 19 (.p 20 .fin) .nil)))) .nil) .nil)) .nil) .nil)))) (.e 18 (.e 5 (.p 6 (.q 7 (.e 11 (.p 12 (.e 13 (.e 14 (.p 15 (.p 16 (.p 17 (.e 19 (.p 20 .fin) .nil)))) .nil) .nil)) .nil))) (.e 11 (.p 12 (.q 13 (.e 5 (.p 6 (.e 7 (.e 14 (.p 15 (.p 16 (.p 17 (.e 19 (.p 20 .fin) .nil)))) .nil) .nil)) .nil))) .nil)) .nil))))))))))) [0, 5, 7, 11, 13, 18] [1, 2, 3, 4, 6, 8, 9, 10, 12, 15, 16, 17, 20] hm [0, 1, 2, 3, 4, 5, 6] [ow [aR] aC, holeE av aw aP.length ax (aP : List (List Int)) (ar).toNat [aR], blk aO [nV aB.params, nV aB.regs, aM] 44, blk aG [nV most] 3, blk aL [.slice none 0 0] 28, blk aK [sV aD aE aA.length aF] 28, ow [sV aD aE aA.length aF] aA] rfl mxo (by kernel_rfl) (fun _ _ _ h => h.2) fun w hm hS => tP rfl (fun w => yM rfl) (tP rfl (fun w => yM rfl) (tP rfl (fun w => yM rfl) ?_))
   have hL2_1:=hm.holeE_len 1 rfl
   refine tP rfl (λw=>yI st_59 au (idx_lt2 aJ hL2_1) rfl) (tP rfl (λw=>yM rfl) (tP rfl (λw=>yM rfl) ?_))
   have hL2_2:=hm.holeE_len 1 rfl
   refine tP rfl (λw=>yI st_59 au (idx_lt2 aJ hL2_2) rfl) (tQ rfl hS (λw hm=>yn (hm.blk_at 5 rfl) isAgg28 sizeOf28 rfl) (gb λaH aS=>gb λaI aT=>gb λcP aN=>tMo ?_ ?_))
   ·refine tY rfl (yl isAgg47 ((hm.holeE_at 1 rfl).cell (j := 0) rfl) rfl) (tAs hS ?_)
    obtain ⟨bS,ac⟩:=getI_some.1 aS
    obtain ⟨ae,af,ah,he⟩:=idx_form (hm.ow_rep 0 rfl) ac
    subst he
    refine tP rfl (λw=>yI st_47 bS (idx_lt ac) rfl) (tQ rfl hS (λw hm=>yl isAgg3 ((flat_cells (cs:=[nV aH]) (hm.ow_rep 0 rfl) ac rfl).cell (j:=0) rfl) rfl) (tMo ?_ ?_))
    ·refine tY rfl (yl isAgg47 ((hm.holeE_at 1 rfl).cell (j := 0) rfl) rfl) (tAs hS ?_)
     obtain ⟨bT,ay⟩:=getI_some.1 aT
     refine tP rfl (λw=>yI st_47 bT (idx_lt ay) rfl) (tQ rfl hS (λw hm=>yl isAgg3 ((flat_cells (cs:=[nV aI]) (hm.ow_rep 0 rfl) ay rfl).cell (j:=0) rfl) rfl) (tMo ?_ ?_))
     ·refine tf rfl rfl (fun a hf => e_call hf rfl call9 rfl (impl_InlineCall_ok _ (⟨aA⟩ : Unit_) (sV aD aE aA.length aF) (hm.ow_rep 6 rfl) (((u.codes.length : Int)) - 1) aH aI _ aN)) ?_
      rintro cQ w ⟨bU,rfl,hB⟩
      replace hm:=hm.give hB;clear hB
      refine tAn rfl (tP rfl (λw=>yM rfl) (tP rfl (λw=>yX rfl) (tP rfl (λw=>yX rfl) (tO (tf rfl rfl (λa hf=>e_alloc hm zeroValue28 rfl rfl) ?_)))))
      rintro _ w ⟨bV,rfl,hm⟩
      refine tAk hm [2,3,4,5,6,7,8] rfl λhS=>tO (tf0 rfl rfl (λa hf=>e_storeN 0 hf hm rfl sizeOf28 rfl rfl rfl (one_cons (rep_one (hm.ow_rep 1 rfl)) one_nil) rfl rfl) ?_)
      rintro _ w hm
      refine tAn rfl (tP rfl (λw=>yA rfl) (tE ?_))
      replace hm:=hm.imp (c':=ow [sV ae af aC.length ah] (aC:List Int)) 2 rfl (λF h0=>h0)
      replace hm:=(hm.shutE (y:=(aC:List Int)) 3 2 (by decide) rfl rfl).pk (L':=[_,_,_,_,_,_,_,_]) [0,1,3,4,5,6,7,8] rfl rfl
      rw [set_same aJ] at hm
      exact gZ λa hf=>⟨bV,bU,hf.sb rfl,hm.pk [4,5,6,7,0,1] rfl rfl⟩
     refine tO (tf rfl rfl (λa hf=>e_alloc hm zeroValue28 rfl rfl) ?_)
     rintro _ w ⟨bW,rfl,hm⟩
     refine tAk hm [1,2,3,4,5,6,7] rfl λhS=>tO (tf rfl rfl (λa hf=>e_call hf rfl call9 rfl (impl_InlineCall_ok _ (⟨aA⟩:Unit_) (sV aD aE aA.length aF) (hm.ow_rep 7 rfl) (((u.codes.length:Int)) - 1) aH aI _ aN)) ?_)
     rintro cR w ⟨bX,rfl,hB⟩
     replace hm:=hm.give hB;clear hB
     refine tAn rfl (tP rfl (λw=>yM rfl) (tP rfl (λw=>yX rfl) (tP rfl (λw=>yX rfl) (tO (tf0 rfl rfl (λa hf=>e_storeN 1 hf hm rfl sizeOf28 rfl rfl rfl (one_cons (rep_one (hm.ow_rep 0 rfl)) one_nil) rfl rfl) ?_)))))
     rintro _ w hm
     refine tAn rfl (tP rfl (λw=>yA rfl) (tE ?_))
     replace hm:=hm.imp (c':=ow [sV ae af aC.length ah] (aC:List Int)) 2 rfl (λF h0=>h0)
     replace hm:=(hm.shutE (y:=(aC:List Int)) 3 2 (by decide) rfl rfl).pk (L':=[_,_,_,_,_,_,_,_]) [0,1,3,4,5,6,7,8] rfl rfl
     rw [set_same aJ] at hm
     exact gZ λa hf=>⟨bW,bX,hf.sb rfl,hm.pk [4,5,6,7,1,0] rfl rfl⟩
    refine tO (tf rfl rfl (λa hf=>e_alloc hm zeroValue28 rfl rfl) ?_)
    rintro _ w ⟨bY,rfl,hm⟩
    refine tAk hm [1,2,3,4,5,6,7] rfl λhS=>tO (tY rfl (yl isAgg47 ((hm.holeE_at 2 rfl).cell (j:=0) rfl) rfl) (tAs hS ?_))
    obtain ⟨bZ,az⟩:=getI_some.1 aT
    refine tP rfl (λw=>yI st_47 bZ (idx_lt az) rfl) (tO (tY rfl (yl isAgg3 ((flat_cells (cs:=[nV aI]) (hm.ow_rep 1 rfl) az rfl).cell (j:=0) rfl) rfl) (tAs hS (tO (tf rfl rfl (λa hf=>e_call hf rfl call9 rfl (impl_InlineCall_ok _ (⟨aA⟩:Unit_) (sV aD aE aA.length aF) (hm.ow_rep 7 rfl) (((u.codes.length:Int)) - 1) aH aI _ aN)) ?_)))))
    rintro cS w ⟨b6,rfl,hB⟩
    replace hm:=hm.give hB;clear hB
    refine tAn rfl (tP rfl (λw=>yM rfl) (tP rfl (λw=>yX rfl) (tP rfl (λw=>yX rfl) (tO (tf0 rfl rfl (λa hf=>e_storeN 1 hf hm rfl sizeOf28 rfl rfl rfl (one_cons (rep_one (hm.ow_rep 0 rfl)) one_nil) rfl rfl) ?_)))))
    rintro _ w hm
    refine tAn rfl (tP rfl (λw=>yA rfl) (tE ?_))
    replace hm:=hm.imp (c':=ow [sV ae af aC.length ah] (aC:List Int)) 2 rfl (λF h0=>h0)
    replace hm:=(hm.shutE (y:=(aC:List Int)) 3 2 (by decide) rfl rfl).pk (L':=[_,_,_,_,_,_,_,_]) [0,1,3,4,5,6,7,8] rfl rfl
    rw [set_same aJ] at hm
    exact gZ λa hf=>⟨bY,b6,hf.sb rfl,hm.pk [4,5,6,7,1,0] rfl rfl⟩
   refine tMo ?_ ?_
   ·refine tY rfl (yl isAgg47 ((hm.holeE_at 1 rfl).cell (j := 0) rfl) rfl) (tAs hS ?_)
    obtain ⟨b7,ai⟩:=getI_some.1 aT
    obtain ⟨aj,ak,al,he⟩:=idx_form (hm.ow_rep 0 rfl) ai
    subst he
    refine tP rfl (λw=>yI st_47 b7 (idx_lt ai) rfl) (tQ rfl hS (λw hm=>yl isAgg3 ((flat_cells (cs:=[nV aI]) (hm.ow_rep 0 rfl) ai rfl).cell (j:=0) rfl) rfl) (tMo ?_ ?_))
    ·refine tY rfl (yl isAgg47 ((hm.holeE_at 1 rfl).cell (j := 0) rfl) rfl) (tAs hS ?_)
     obtain ⟨b8,bA⟩:=getI_some.1 aS
     refine tP rfl (λw=>yI st_47 b8 (idx_lt bA) rfl) (tQ rfl hS (λw hm=>yl isAgg3 ((flat_cells (cs:=[nV aH]) (hm.ow_rep 0 rfl) bA rfl).cell (j:=0) rfl) rfl) (tMo ?_ ?_))
     ·refine tf rfl rfl (fun a hf => e_call hf rfl call9 rfl (impl_InlineCall_ok _ (⟨aA⟩ : Unit_) (sV aD aE aA.length aF) (hm.ow_rep 6 rfl) (((u.codes.length : Int)) - 1) aH aI _ aN)) ?_
      rintro cT w ⟨b9,rfl,hB⟩
      replace hm:=hm.give hB;clear hB
      refine tAn rfl (tP rfl (λw=>yM rfl) (tP rfl (λw=>yX rfl) (tP rfl (λw=>yX rfl) (tO (tf rfl rfl (λa hf=>e_alloc hm zeroValue28 rfl rfl) ?_)))))
      rintro _ w ⟨ba,rfl,hm⟩
      refine tAk hm [2,3,4,5,6,7,8] rfl λhS=>tO (tf0 rfl rfl (λa hf=>e_storeN 0 hf hm rfl sizeOf28 rfl rfl rfl (one_cons (rep_one (hm.ow_rep 1 rfl)) one_nil) rfl rfl) ?_)
      rintro _ w hm
      refine tAn rfl (tP rfl (λw=>yA rfl) (tE ?_))
      replace hm:=hm.imp (c':=ow [sV aj ak aC.length al] (aC:List Int)) 2 rfl (λF h0=>h0)
      replace hm:=(hm.shutE (y:=(aC:List Int)) 3 2 (by decide) rfl rfl).pk (L':=[_,_,_,_,_,_,_,_]) [0,1,3,4,5,6,7,8] rfl rfl
      rw [set_same aJ] at hm
      exact gZ λa hf=>⟨ba,b9,hf.sb rfl,hm.pk [4,5,6,7,0,1] rfl rfl⟩
     refine tO (tf rfl rfl (λa hf=>e_alloc hm zeroValue28 rfl rfl) ?_)
     rintro _ w ⟨bc,rfl,hm⟩
     refine tAk hm [1,2,3,4,5,6,7] rfl λhS=>tO (tf rfl rfl (λa hf=>e_call hf rfl call9 rfl (impl_InlineCall_ok _ (⟨aA⟩:Unit_) (sV aD aE aA.length aF) (hm.ow_rep 7 rfl) (((u.codes.length:Int)) - 1) aH aI _ aN)) ?_)
     rintro cU w ⟨bd,rfl,hB⟩
     replace hm:=hm.give hB;clear hB
     refine tAn rfl (tP rfl (λw=>yM rfl) (tP rfl (λw=>yX rfl) (tP rfl (λw=>yX rfl) (tO (tf0 rfl rfl (λa hf=>e_storeN 1 hf hm rfl sizeOf28 rfl rfl rfl (one_cons (rep_one (hm.ow_rep 0 rfl)) one_nil) rfl rfl) ?_)))))
     rintro _ w hm
     refine tAn rfl (tP rfl (λw=>yA rfl) (tE ?_))
     replace hm:=hm.imp (c':=ow [sV aj ak aC.length al] (aC:List Int)) 2 rfl (λF h0=>h0)
     replace hm:=(hm.shutE (y:=(aC:List Int)) 3 2 (by decide) rfl rfl).pk (L':=[_,_,_,_,_,_,_,_]) [0,1,3,4,5,6,7,8] rfl rfl
     rw [set_same aJ] at hm
     exact gZ λa hf=>⟨bc,bd,hf.sb rfl,hm.pk [4,5,6,7,1,0] rfl rfl⟩
    refine tO (tf rfl rfl (λa hf=>e_alloc hm zeroValue28 rfl rfl) ?_)
    rintro _ w ⟨be,rfl,hm⟩
    refine tAk hm [1,2,3,4,5,6,7] rfl λhS=>tO (tY rfl (yl isAgg47 ((hm.holeE_at 2 rfl).cell (j:=0) rfl) rfl) (tAs hS ?_))
    obtain ⟨bf,bB⟩:=getI_some.1 aS
    refine tP rfl (λw=>yI st_47 bf (idx_lt bB) rfl) (tO (tY rfl (yl isAgg3 ((flat_cells (cs:=[nV aH]) (hm.ow_rep 1 rfl) bB rfl).cell (j:=0) rfl) rfl) (tAs hS (tO (tf rfl rfl (λa hf=>e_call hf rfl call9 rfl (impl_InlineCall_ok _ (⟨aA⟩:Unit_) (sV aD aE aA.length aF) (hm.ow_rep 7 rfl) (((u.codes.length:Int)) - 1) aH aI _ aN)) ?_)))))
    rintro cV w ⟨bg,rfl,hB⟩
    replace hm:=hm.give hB;clear hB
    refine tAn rfl (tP rfl (λw=>yM rfl) (tP rfl (λw=>yX rfl) (tP rfl (λw=>yX rfl) (tO (tf0 rfl rfl (λa hf=>e_storeN 1 hf hm rfl sizeOf28 rfl rfl rfl (one_cons (rep_one (hm.ow_rep 0 rfl)) one_nil) rfl rfl) ?_)))))
    rintro _ w hm
    refine tAn rfl (tP rfl (λw=>yA rfl) (tE ?_))
    replace hm:=hm.imp (c':=ow [sV aj ak aC.length al] (aC:List Int)) 2 rfl (λF h0=>h0)
    replace hm:=(hm.shutE (y:=(aC:List Int)) 3 2 (by decide) rfl rfl).pk (L':=[_,_,_,_,_,_,_,_]) [0,1,3,4,5,6,7,8] rfl rfl
    rw [set_same aJ] at hm
    exact gZ λa hf=>⟨be,bg,hf.sb rfl,hm.pk [4,5,6,7,1,0] rfl rfl⟩
   refine tO (tf rfl rfl (λa hf=>e_alloc hm zeroValue28 rfl rfl) ?_)
   rintro _ w ⟨bC,rfl,hm⟩
   refine tAk hm [1,2,3,4,5,6,7] rfl λhS=>tMo ?_ ?_
   ·refine tY rfl (yl isAgg47 ((hm.holeE_at 2 rfl).cell (j := 0) rfl) rfl) (tAs hS ?_)
    obtain ⟨bh,am⟩:=getI_some.1 aS
    obtain ⟨bi,bj,bk,he⟩:=idx_form (hm.ow_rep 1 rfl) am
    subst he
    refine tP rfl (λw=>yI st_47 bh (idx_lt am) rfl) (tQ rfl hS (λw hm=>yl isAgg3 ((flat_cells (cs:=[nV aH]) (hm.ow_rep 0 rfl) am rfl).cell (j:=0) rfl) rfl) (tO (tY rfl (yl isAgg47 ((hm.holeE_at 2 rfl).cell (j:=0) rfl) rfl) (tAs hS ?_))))
    obtain ⟨bm,bD⟩:=getI_some.1 aT
    refine tP rfl (λw=>yI st_47 bm (idx_lt bD) rfl) (tO (tY rfl (yl isAgg3 ((flat_cells (cs:=[nV aI]) (hm.ow_rep 1 rfl) bD rfl).cell (j:=0) rfl) rfl) (tAs hS (tO (tf rfl rfl (λa hf=>e_call hf rfl call9 rfl (impl_InlineCall_ok _ (⟨aA⟩:Unit_) (sV aD aE aA.length aF) (hm.ow_rep 7 rfl) (((u.codes.length:Int)) - 1) aH aI _ aN)) ?_)))))
    rintro cW w ⟨bp,rfl,hB⟩
    replace hm:=hm.give hB;clear hB
    refine tAn rfl (tP rfl (λw=>yM rfl) (tP rfl (λw=>yX rfl) (tP rfl (λw=>yX rfl) (tO (tf0 rfl rfl (λa hf=>e_storeN 1 hf hm rfl sizeOf28 rfl rfl rfl (one_cons (rep_one (hm.ow_rep 0 rfl)) one_nil) rfl rfl) ?_)))))
    rintro _ w hm
    refine tAn rfl (tP rfl (λw=>yA rfl) (tE ?_))
    replace hm:=hm.imp (c':=ow [sV bi bj aC.length bk] (aC:List Int)) 2 rfl (λF h0=>h0)
    replace hm:=(hm.shutE (y:=(aC:List Int)) 3 2 (by decide) rfl rfl).pk (L':=[_,_,_,_,_,_,_,_]) [0,1,3,4,5,6,7,8] rfl rfl
    rw [set_same aJ] at hm
    exact gZ λa hf=>⟨bC,bp,hf.sb rfl,hm.pk [4,5,6,7,1,0] rfl rfl⟩
   refine tO (tY rfl (yl isAgg47 ((hm.holeE_at 2 rfl).cell (j:=0) rfl) rfl) (tAs hS ?_))
   obtain ⟨bq,an⟩:=getI_some.1 aT
   obtain ⟨br,bs,bt,he⟩:=idx_form (hm.ow_rep 1 rfl) an
   subst he
   refine tP rfl (λw=>yI st_47 bq (idx_lt an) rfl) (tQ rfl hS (λw hm=>yl isAgg3 ((flat_cells (cs:=[nV aI]) (hm.ow_rep 0 rfl) an rfl).cell (j:=0) rfl) rfl) (tO (tY rfl (yl isAgg47 ((hm.holeE_at 2 rfl).cell (j:=0) rfl) rfl) (tAs hS ?_))))
   obtain ⟨bu,bE⟩:=getI_some.1 aS
   refine tP rfl (λw=>yI st_47 bu (idx_lt bE) rfl) (tO (tY rfl (yl isAgg3 ((flat_cells (cs:=[nV aH]) (hm.ow_rep 1 rfl) bE rfl).cell (j:=0) rfl) rfl) (tAs hS (tO (tf rfl rfl (λa hf=>e_call hf rfl call9 rfl (impl_InlineCall_ok _ (⟨aA⟩:Unit_) (sV aD aE aA.length aF) (hm.ow_rep 7 rfl) (((u.codes.length:Int)) - 1) aH aI _ aN)) ?_)))))
   rintro cX w ⟨bv,rfl,hB⟩
   replace hm:=hm.give hB;clear hB
   refine tAn rfl (tP rfl (λw=>yM rfl) (tP rfl (λw=>yX rfl) (tP rfl (λw=>yX rfl) (tO (tf0 rfl rfl (λa hf=>e_storeN 1 hf hm rfl sizeOf28 rfl rfl rfl (one_cons (rep_one (hm.ow_rep 0 rfl)) one_nil) rfl rfl) ?_)))))
   rintro _ w hm
   refine tAn rfl (tP rfl (λw=>yA rfl) (tE ?_))
   replace hm:=hm.imp (c':=ow [sV br bs aC.length bt] (aC:List Int)) 2 rfl (λF h0=>h0)
   replace hm:=(hm.shutE (y:=(aC:List Int)) 3 2 (by decide) rfl rfl).pk (L':=[_,_,_,_,_,_,_,_]) [0,1,3,4,5,6,7,8] rfl rfl
   rw [set_same aJ] at hm
   exact gZ λa hf=>⟨bC,bv,hf.sb rfl,hm.pk [4,5,6,7,1,0] rfl rfl⟩
  repeat clear hm
  rintro aX a w ⟨ab,aY,hf,hm⟩
  refine gv hf (gS (gS (gR (gM rfl (gN rfl (gE (gsn 59 rfl (λbx=>?_) λbx=>?_)))))))
  ·exact gct rfl (gS (gR (gY (yn (hm.blk_at 2 rfl) isAgg28 sizeOf28 rfl) (gSN hm 1 sizeOf28 (one_cons rfl one_nil) rfl λw hm=>gA rfl (gE (gRt (gLp aq ap (grct 1 results14 hm rfl isAgg28 sizeOf28 ⟨sV aD aE aA.length aF,rfl,hm.pk [3] rfl rfl⟩))))))))
  exact gcf rfl (gSk (gR (gY (yn (hm.blk_at 4 rfl) isAgg28 sizeOf28 rfl) (gSN hm 2 sizeOf28 (one_cons (rep_one (hm.ow_rep 5 rfl)) one_nil) rfl λw hm=>gE (gZe λa hf=>⟨aY,hf.sb rfl,hm.pk [0,1,2,5] rfl rfl⟩)))))
theorem laws_eqIntS_ok (w0 : World) (a_ : List Int) (v1 : Value) (h1 : GT.rep (hp w0) [v1] a_) (b_ : List Int) (v2 : Value) (h2 : GT.rep (hp w0) [v2] b_) :
    ConM Tryz.prog 215 [v1,v2] w0 (laws_eqIntS a_ b_) λr v w'=>v=(.bool (r))∧Below w0.heap.size w0 w':=by
  unfold laws_eqIntS
  refine gcon func215 rfl λr=>?_
  have hm:=Mem.start w0
  refine gS (gR (gA rfl (gE (gS (gS (gR (gM rfl ?_)))))))
  obtain ⟨aE,aF,rfl,aQ⟩:=ro_slice h1
  refine gY (yV st_47 rfl) (gM rfl ?_)
  obtain ⟨aG,aH,rfl,aR⟩:=ro_slice h2
  refine gY (yV st_47 rfl) (gB rfl (gE (gsd 10 rfl (λaI=>?_) λaI=>?_)))
  ·exact gct rfl (gS (gR (gA rfl (gE (gRt (gr1 results215 rfl ⟨rfl,hm.below⟩))))))
  refine gcf rfl (gSk (gS (gS (gR (gA rfl (gE (gBk (gNf hm (λaA aD=>[(0,(.slice aE a_.length aF)),(1,(.slice aG b_.length aH)),(5,(nV aA))]) (λaA aD=>[]) [] rfl ?_ ?_))))))))
  ·repeat clear hm
   intro aS aJ aA aD w hm aT aV aW aK
   refine gS (gS (gR (gM rfl (gM rfl (gY (yV st_47 rfl) (gB rfl (gE (go _ 14 rfl (decide_eq_true (by omega)) (gct rfl (gSk (gS (gBk (gS (gW (.p 0 (.p 1 (.p 2 (.p 4 (.p 5 (.p 6 (.q 3 (.e 7 (.p 8 .fin) .nil)))))))) [7] [0,1,2,4,5,6,8] hm [] [] rfl mxo (by kernel_rfl) (λ_ _ _ h=>h.2) λw hm hS=>tP rfl (λw=>yM rfl) (tP rfl (λw=>yM rfl) (gg λaL aM aB=>?_))))))))))))))))
   obtain ⟨aX,aY,aZ,he⟩:=idx_form h1 aB
   obtain ⟨rfl,_,rfl⟩:=sl3 he
   refine tP rfl (λw=>yI st_47 aM (idx_lt aB) rfl) (tP rfl (λw=>yM rfl) (tP rfl (λw=>yM rfl) (gg λaN aO aC=>?_)))
   obtain ⟨aa,ab,ac,he⟩:=idx_form h2 aC
   obtain ⟨rfl,_,rfl⟩:=sl3 he
   refine tP rfl (λw=>yI st_47 aO (idx_lt aC) rfl) (tQ rfl hS (λw hm=>yl isAgg3 ((flat_cells (cs:=[nV aL]) (hm.now h1) aB rfl).cell (j:=0) rfl) rfl) (tO (tY rfl (yl isAgg3 ((flat_cells (cs:=[nV aN]) (hm.now h2) aC rfl).cell (j:=0) rfl) rfl) (tAs hS (tP rfl (λw=>yB rfl) (tE (gsd 25 rfl (λaP=>?_) λaP=>?_)))))))
   ·exact gct rfl (gS (gR (gA rfl (gE (gRt (gLr aK aJ (gr1 results215 rfl ⟨rfl,hm.below⟩)))))))
   exact gcf rfl (gSk (gR (gM rfl (gP (by omega) (by omega) rfl (gA rfl (gE (gze hm [] rfl)))))))
  repeat clear hm
  intro ae af w hm ah ai
  exact gS (gS (gR (gM rfl (gM rfl (gY (yV st_47 rfl) (gB rfl (gE (go _ 14 rfl (decide_eq_false (by omega)) (gcf rfl (gXt (gHh (gS (gR (gA rfl (gE (gRt (gr1 results215 rfl ⟨rfl,hm.below⟩)))))))))))))))))
theorem laws_eqPhi_ok (w0 : World) (a_ : Phi_) (v1 : Value) (h1 : GT.rep (hp w0) [v1] a_.args) (b_ : Phi_) (v2 : Value) (h2 : GT.rep (hp w0) [v2] b_.args) :
    ConM Tryz.prog 243 [(.agg #[nV a_.to,v1]),(.agg #[nV b_.to,v2])] w0 (laws_eqPhi a_ b_) λr v w'=>v=(.bool (r))∧Below w0.heap.size w0 w':=by
  unfold laws_eqPhi
  refine gcon func243 rfl λr=>?_
  have hm:=Mem.start w0
  refine gS (gR (gBx hm rfl λaC w hm=>gBx hm rfl λaD w hm=>gA rfl (gE (gS (gS (gR (gF fo_105_0 rfl (gL hm 1 isAgg3 rfl (gF fo_105_0 rfl (gL hm 0 isAgg3 rfl (gB rfl (gE (gsd 9 rfl (λaA=>?_) λaA=>?_)))))))))))))
  ·exact gct rfl (gS (gR (gA rfl (gE (gRt (gr1 results243 rfl ⟨rfl,hm.below⟩))))))
  refine gcf rfl (gSk (gS (gS (gR (gF fo_105_1 rfl (gL hm 1 isAgg47 rfl (gF fo_105_1 rfl (gL hm 0 isAgg47 rfl (gC hm rfl call215 (laws_eqIntS_ok _ a_.args v1 (hm.now h1) b_.args v2 (hm.now h2)) λaE aF w hm=>gN rfl (gE (gsn 15 rfl (λaB=>?_) λaB=>?_)))))))))))
  ·exact gct rfl (gS (gR (gA rfl (gE (gRt (gr1 results243 rfl ⟨rfl,hm.below⟩))))))
  exact gcf rfl (gSk (gS (gR (gA rfl (gE (gRt (gr1 results243 rfl ⟨rfl,hm.below⟩)))))))
theorem laws_eqPhiS_ok (w0 : World) (a_ : List Phi_) (v1 : Value) (h1 : GT.rep (hp w0) [v1] a_) (b_ : List Phi_) (v2 : Value) (h2 : GT.rep (hp w0) [v2] b_) :
    ConM Tryz.prog 213 [v1,v2] w0 (laws_eqPhiS a_ b_) λr v w'=>v=(.bool (r))∧Below w0.heap.size w0 w':=by
  unfold laws_eqPhiS
  refine gcon func213 rfl λr=>?_
  have hm:=Mem.start w0
  refine gS (gR (gA rfl (gE (gS (gS (gR (gM rfl ?_)))))))
  obtain ⟨aE,aF,rfl,aY⟩:=ro_slice h1
  refine gY (yV st_45 rfl) (gM rfl ?_)
  obtain ⟨aG,aH,rfl,aZ⟩:=ro_slice h2
  refine gY (yV st_45 rfl) (gB rfl (gE (gsd 10 rfl (λaI=>?_) λaI=>?_)))
  ·exact gct rfl (gS (gR (gA rfl (gE (gRt (gr1 results213 rfl ⟨rfl,hm.below⟩))))))
  refine gcf rfl (gSk (gS (gS (gR (gA rfl (gE (gBk (gNf hm (λaA aD=>[(0,(.slice aE a_.length aF)),(1,(.slice aG b_.length aH)),(5,(nV aA))]) (λaA aD=>[]) [] rfl ?_ ?_))))))))
  ·repeat clear hm
   intro aa aJ aA aD w hm ab ac ae aK
   refine gS (gS (gR (gM rfl (gM rfl (gY (yV st_45 rfl) (gB rfl (gE (go _ 14 rfl (decide_eq_true (by omega)) (gct rfl (gSk (gS (gBk (gS (gW (.p 0 (.p 1 (.p 2 (.p 4 (.p 5 (.p 6 (.q 3 (.e 7 (.e 8 (.p 9 .fin) .nil) .nil)))))))) [7] [0,1,2,4,5,6,9] hm [] [] rfl mxo (by kernel_rfl) (λ_ _ _ h=>h.2) λw hm hS=>tP rfl (λw=>yM rfl) (tP rfl (λw=>yM rfl) (gg λaL aM aB=>?_))))))))))))))))
   obtain ⟨af,ah,ai,he⟩:=idx_form' h1 aB
   obtain ⟨rfl,_,rfl⟩:=sl3 he
   obtain ⟨aN,aO,aP⟩:=rk_Phi_ h1 aB
   refine tP rfl (λw=>yI st_45 aM (idx_lt aB) rfl) (tP rfl (λw=>yM rfl) (tP rfl (λw=>yM rfl) (gg λaQ aR aC=>?_)))
   obtain ⟨aj,ak,al,he⟩:=idx_form' h2 aC
   obtain ⟨rfl,_,rfl⟩:=sl3 he
   obtain ⟨aS,aT,aV⟩:=rk_Phi_ h2 aC
   refine tP rfl (λw=>yI st_45 aR (idx_lt aC) rfl) (tQ rfl hS (λw hm=>yn (aO.mono hm.lez) isAgg105 sizeOf105 rfl) (tO (tY rfl (yn (aT.mono hm.lez) isAgg105 sizeOf105 rfl) (tAs hS (tO (gb λam aW=>tf rfl rfl (λa hf=>e_call hf rfl call243 rfl (laws_eqPhi_ok _ aL aN (hm.now aP) aQ aS (hm.now aV) _ aW)) ?_))))))
   rintro an w ⟨rfl,hB⟩
   replace hm:=hm.below' hB;clear hB
   refine tAn rfl (tP rfl (λw=>yN rfl) (tE (gsn 26 rfl (λaX=>?_) λaX=>?_)))
   ·exact gct rfl (gS (gR (gA rfl (gE (gRt (gLr aK aJ (gr1 results213 rfl ⟨rfl,hm.below⟩)))))))
   exact gcf rfl (gSk (gR (gM rfl (gP (by omega) (by omega) rfl (gA rfl (gE (gze hm [] rfl)))))))
  repeat clear hm
  intro ao ap w hm aq ar
  exact gS (gS (gR (gM rfl (gM rfl (gY (yV st_45 rfl) (gB rfl (gE (go _ 14 rfl (decide_eq_false (by omega)) (gcf rfl (gXt (gHh (gS (gR (gA rfl (gE (gRt (gr1 results213 rfl ⟨rfl,hm.below⟩)))))))))))))))))
theorem laws_eqIns_ok (w0 : World) (a_ : Ins_) (v1 : Value) (h1 : GT.rep (hp w0) [v1] a_.args) (b_ : Ins_) (v2 : Value) (h2 : GT.rep (hp w0) [v2] b_.args) :
    ConM Tryz.prog 244 [(.agg #[nV a_.op,nV a_.to,v1,nV a_.n_]),(.agg #[nV b_.op,nV b_.to,v2,nV b_.n_])] w0 (laws_eqIns a_ b_) λr v w'=>v=(.bool (r))∧Below w0.heap.size w0 w':=by
  unfold laws_eqIns
  refine gcon func244 rfl λr=>?_
  have hm:=Mem.start w0
  refine gS (gR (gBx hm rfl λaE w hm=>gBx hm rfl λaF w hm=>gA rfl (gE (gS (gS (gR (gF fo_51_0 rfl (gL hm 1 isAgg3 rfl (gF fo_51_0 rfl (gL hm 0 isAgg3 rfl (gB rfl (gE (gsd 9 rfl (λaA=>?_) λaA=>?_)))))))))))))
  ·exact gct rfl (gS (gR (gA rfl (gE (gRt (gr1 results244 rfl ⟨rfl,hm.below⟩))))))
  refine gcf rfl (gSk (gS (gS (gR (gF fo_51_1 rfl (gL hm 1 isAgg3 rfl (gF fo_51_1 rfl (gL hm 0 isAgg3 rfl (gB rfl (gE (gsd 14 rfl (λaB=>?_) λaB=>?_)))))))))))
  ·exact gct rfl (gS (gR (gA rfl (gE (gRt (gr1 results244 rfl ⟨rfl,hm.below⟩))))))
  refine gcf rfl (gSk (gS (gS (gR (gF fo_51_2 rfl (gL hm 1 isAgg47 rfl (gF fo_51_2 rfl (gL hm 0 isAgg47 rfl (gC hm rfl call215 (laws_eqIntS_ok _ a_.args v1 (hm.now h1) b_.args v2 (hm.now h2)) λaG aH w hm=>gN rfl (gE (gsn 20 rfl (λaC=>?_) λaC=>?_)))))))))))
  ·exact gct rfl (gS (gR (gA rfl (gE (gRt (gr1 results244 rfl ⟨rfl,hm.below⟩))))))
  refine gcf rfl (gSk (gS (gS (gR (gF fo_51_3 rfl (gL hm 1 isAgg3 rfl (gF fo_51_3 rfl (gL hm 0 isAgg3 rfl (gB rfl (gE (gsd 25 rfl (λaD=>?_) λaD=>?_)))))))))))
  ·exact gct rfl (gS (gR (gA rfl (gE (gRt (gr1 results244 rfl ⟨rfl,hm.below⟩))))))
  exact gcf rfl (gSk (gS (gR (gA rfl (gE (gRt (gr1 results244 rfl ⟨rfl,hm.below⟩)))))))
theorem laws_eqInsS_ok (w0 : World) (a_ : List Ins_) (v1 : Value) (h1 : GT.rep (hp w0) [v1] a_) (b_ : List Ins_) (v2 : Value) (h2 : GT.rep (hp w0) [v2] b_) :
    ConM Tryz.prog 214 [v1,v2] w0 (laws_eqInsS a_ b_) λr v w'=>v=(.bool (r))∧Below w0.heap.size w0 w':=by
  unfold laws_eqInsS
  refine gcon func214 rfl λr=>?_
  have hm:=Mem.start w0
  refine gS (gR (gA rfl (gE (gS (gS (gR (gM rfl ?_)))))))
  obtain ⟨aE,aF,rfl,aY⟩:=ro_slice h1
  refine gY (yV st_46 rfl) (gM rfl ?_)
  obtain ⟨aG,aH,rfl,aZ⟩:=ro_slice h2
  refine gY (yV st_46 rfl) (gB rfl (gE (gsd 10 rfl (λaI=>?_) λaI=>?_)))
  ·exact gct rfl (gS (gR (gA rfl (gE (gRt (gr1 results214 rfl ⟨rfl,hm.below⟩))))))
  refine gcf rfl (gSk (gS (gS (gR (gA rfl (gE (gBk (gNf hm (λaA aD=>[(0,(.slice aE a_.length aF)),(1,(.slice aG b_.length aH)),(5,(nV aA))]) (λaA aD=>[]) [] rfl ?_ ?_))))))))
  ·repeat clear hm
   intro aa aJ aA aD w hm ab ac ae aK
   refine gS (gS (gR (gM rfl (gM rfl (gY (yV st_46 rfl) (gB rfl (gE (go _ 14 rfl (decide_eq_true (by omega)) (gct rfl (gSk (gS (gBk (gS (gW (.p 0 (.p 1 (.p 2 (.p 4 (.p 5 (.p 6 (.q 3 (.e 7 (.e 8 (.p 9 .fin) .nil) .nil)))))))) [7] [0,1,2,4,5,6,9] hm [] [] rfl mxo (by kernel_rfl) (λ_ _ _ h=>h.2) λw hm hS=>tP rfl (λw=>yM rfl) (tP rfl (λw=>yM rfl) (gg λaL aM aB=>?_))))))))))))))))
   obtain ⟨af,ah,ai,he⟩:=idx_form' h1 aB
   obtain ⟨rfl,_,rfl⟩:=sl3 he
   obtain ⟨aN,aO,aP⟩:=rk_Ins_ h1 aB
   refine tP rfl (λw=>yI st_46 aM (idx_lt aB) rfl) (tP rfl (λw=>yM rfl) (tP rfl (λw=>yM rfl) (gg λaQ aR aC=>?_)))
   obtain ⟨aj,ak,al,he⟩:=idx_form' h2 aC
   obtain ⟨rfl,_,rfl⟩:=sl3 he
   obtain ⟨aS,aT,aV⟩:=rk_Ins_ h2 aC
   refine tP rfl (λw=>yI st_46 aR (idx_lt aC) rfl) (tQ rfl hS (λw hm=>yn (aO.mono hm.lez) isAgg51 sizeOf51 rfl) (tO (tY rfl (yn (aT.mono hm.lez) isAgg51 sizeOf51 rfl) (tAs hS (tO (gb λam aW=>tf rfl rfl (λa hf=>e_call hf rfl call244 rfl (laws_eqIns_ok _ aL aN (hm.now aP) aQ aS (hm.now aV) _ aW)) ?_))))))
   rintro an w ⟨rfl,hB⟩
   replace hm:=hm.below' hB;clear hB
   refine tAn rfl (tP rfl (λw=>yN rfl) (tE (gsn 26 rfl (λaX=>?_) λaX=>?_)))
   ·exact gct rfl (gS (gR (gA rfl (gE (gRt (gLr aK aJ (gr1 results214 rfl ⟨rfl,hm.below⟩)))))))
   exact gcf rfl (gSk (gR (gM rfl (gP (by omega) (by omega) rfl (gA rfl (gE (gze hm [] rfl)))))))
  repeat clear hm
  intro ao ap w hm aq ar
  exact gS (gS (gR (gM rfl (gM rfl (gY (yV st_46 rfl) (gB rfl (gE (go _ 14 rfl (decide_eq_false (by omega)) (gcf rfl (gXt (gHh (gS (gR (gA rfl (gE (gRt (gr1 results214 rfl ⟨rfl,hm.below⟩)))))))))))))))))
theorem laws_eqBlock_ok (w0 : World) (a_ : Block_) (v1 : Value) (h1 : GT.rep (hp w0) [v1] a_.phis) (v2 : Value) (h2 : GT.rep (hp w0) [v2] a_.ins) (v3 : Value) (h3 : GT.rep (hp w0) [v3] a_.next_) (b_ : Block_) (v4 : Value) (h4 : GT.rep (hp w0) [v4] b_.phis) (v5 : Value) (h5 : GT.rep (hp w0) [v5] b_.ins) (v6 : Value) (h6 : GT.rep (hp w0) [v6] b_.next_) :
    ConM Tryz.prog 155 [(.agg #[v1,v2,nV a_.jump,nV a_.on,v3]),(.agg #[v4,v5,nV b_.jump,nV b_.on,v6])] w0 (laws_eqBlock a_ b_) λr v w'=>v=(.bool (r))∧Below w0.heap.size w0 w':=by
  unfold laws_eqBlock
  refine gcon func155 rfl λr=>?_
  have hm:=Mem.start w0
  refine gS (gR (gBx hm rfl λaF w hm=>gBx hm rfl λaG w hm=>gA rfl (gE (gS (gS (gR (gF fo_49_0 rfl (gL hm 1 isAgg45 rfl (gF fo_49_0 rfl (gL hm 0 isAgg45 rfl (gC hm rfl call213 (laws_eqPhiS_ok _ a_.phis v1 (hm.now h1) b_.phis v4 (hm.now h4)) λaH aI w hm=>gN rfl (gE (gsn 10 rfl (λaA=>?_) λaA=>?_)))))))))))))
  ·exact gct rfl (gS (gR (gA rfl (gE (gRt (gr1 results155 rfl ⟨rfl,hm.below⟩))))))
  refine gcf rfl (gSk (gS (gS (gR (gF fo_49_1 rfl (gL hm 1 isAgg46 rfl (gF fo_49_1 rfl (gL hm 0 isAgg46 rfl (gC hm rfl call214 (laws_eqInsS_ok _ a_.ins v2 (hm.now h2) b_.ins v5 (hm.now h5)) λaJ aK w hm=>gN rfl (gE (gsn 16 rfl (λaB=>?_) λaB=>?_)))))))))))
  ·exact gct rfl (gS (gR (gA rfl (gE (gRt (gr1 results155 rfl ⟨rfl,hm.below⟩))))))
  refine gcf rfl (gSk (gS (gS (gR (gF fo_49_2 rfl (gL hm 1 isAgg3 rfl (gF fo_49_2 rfl (gL hm 0 isAgg3 rfl (gB rfl (gE (gsd 21 rfl (λaC=>?_) λaC=>?_)))))))))))
  ·exact gct rfl (gS (gR (gA rfl (gE (gRt (gr1 results155 rfl ⟨rfl,hm.below⟩))))))
  refine gcf rfl (gSk (gS (gS (gR (gF fo_49_3 rfl (gL hm 1 isAgg3 rfl (gF fo_49_3 rfl (gL hm 0 isAgg3 rfl (gB rfl (gE (gsd 26 rfl (λaD=>?_) λaD=>?_)))))))))))
  ·exact gct rfl (gS (gR (gA rfl (gE (gRt (gr1 results155 rfl ⟨rfl,hm.below⟩))))))
  refine gcf rfl (gSk (gS (gS (gR (gF fo_49_4 rfl (gL hm 1 isAgg47 rfl (gF fo_49_4 rfl (gL hm 0 isAgg47 rfl (gC hm rfl call215 (laws_eqIntS_ok _ a_.next_ v3 (hm.now h3) b_.next_ v6 (hm.now h6)) λaL aM w hm=>gN rfl (gE (gsn 32 rfl (λaE=>?_) λaE=>?_)))))))))))
  ·exact gct rfl (gS (gR (gA rfl (gE (gRt (gr1 results155 rfl ⟨rfl,hm.below⟩))))))
  exact gcf rfl (gSk (gS (gR (gA rfl (gE (gRt (gr1 results155 rfl ⟨rfl,hm.below⟩)))))))
theorem laws_eqBlockS_ok (w0 : World) (a_ : List Block_) (v1 : Value) (h1 : GT.rep (hp w0) [v1] a_) (b_ : List Block_) (v2 : Value) (h2 : GT.rep (hp w0) [v2] b_) :
    ConM Tryz.prog 97 [v1,v2] w0 (laws_eqBlockS a_ b_) λr v w'=>v=(.bool (r))∧Below w0.heap.size w0 w':=by
  unfold laws_eqBlockS
  refine gcon func97 rfl λr=>?_
  have hm:=Mem.start w0
  refine gS (gR (gA rfl (gE (gS (gS (gR (gM rfl ?_)))))))
  obtain ⟨aE,aF,rfl,ai⟩:=ro_slice h1
  refine gY (yV st_42 rfl) (gM rfl ?_)
  obtain ⟨aG,aH,rfl,aj⟩:=ro_slice h2
  refine gY (yV st_42 rfl) (gB rfl (gE (gsd 10 rfl (λaI=>?_) λaI=>?_)))
  ·exact gct rfl (gS (gR (gA rfl (gE (gRt (gr1 results97 rfl ⟨rfl,hm.below⟩))))))
  refine gcf rfl (gSk (gS (gS (gR (gA rfl (gE (gBk (gNf hm (λaA aD=>[(0,(.slice aE a_.length aF)),(1,(.slice aG b_.length aH)),(5,(nV aA))]) (λaA aD=>[]) [] rfl ?_ ?_))))))))
  ·repeat clear hm
   intro ak aJ aA aD w hm al am an aK
   refine gS (gS (gR (gM rfl (gM rfl (gY (yV st_42 rfl) (gB rfl (gE (go _ 14 rfl (decide_eq_true (by omega)) (gct rfl (gSk (gS (gBk (gS (gW (.p 0 (.p 1 (.p 2 (.p 4 (.p 5 (.p 6 (.q 3 (.e 7 (.e 8 (.p 9 .fin) .nil) .nil)))))))) [7] [0,1,2,4,5,6,9] hm [] [] rfl mxo (by kernel_rfl) (λ_ _ _ h=>h.2) λw hm hS=>tP rfl (λw=>yM rfl) (tP rfl (λw=>yM rfl) (gg λaL aM aB=>?_))))))))))))))))
   obtain ⟨ao,ap,aq,he⟩:=idx_form' h1 aB
   obtain ⟨rfl,_,rfl⟩:=sl3 he
   obtain ⟨aN,aO,aP,aQ,aR,aS,aT⟩:=rk_Block_ h1 aB
   refine tP rfl (λw=>yI st_42 aM (idx_lt aB) rfl) (tP rfl (λw=>yM rfl) (tP rfl (λw=>yM rfl) (gg λaV aW aC=>?_)))
   obtain ⟨ar,au,av,he⟩:=idx_form' h2 aC
   obtain ⟨rfl,_,rfl⟩:=sl3 he
   obtain ⟨aX,aY,aZ,aa,ab,ac,ae⟩:=rk_Block_ h2 aC
   refine tP rfl (λw=>yI st_42 aW (idx_lt aC) rfl) (tQ rfl hS (λw hm=>yn (aQ.mono hm.lez) isAgg49 sizeOf49 rfl) (tO (tY rfl (yn (aa.mono hm.lez) isAgg49 sizeOf49 rfl) (tAs hS (tO (gb λaw af=>tf rfl rfl (λa hf=>e_call hf rfl call155 rfl (laws_eqBlock_ok _ aL aN (hm.now aR) aO (hm.now aS) aP (hm.now aT) aV aX (hm.now ab) aY (hm.now ac) aZ (hm.now ae) _ af)) ?_))))))
   rintro ax w ⟨rfl,hB⟩
   replace hm:=hm.below' hB;clear hB
   refine tAn rfl (tP rfl (λw=>yN rfl) (tE (gsn 26 rfl (λah=>?_) λah=>?_)))
   ·exact gct rfl (gS (gR (gA rfl (gE (gRt (gLr aK aJ (gr1 results97 rfl ⟨rfl,hm.below⟩)))))))
   exact gcf rfl (gSk (gR (gM rfl (gP (by omega) (by omega) rfl (gA rfl (gE (gze hm [] rfl)))))))
  repeat clear hm
  intro ay az w hm bA bB
  exact gS (gS (gR (gM rfl (gM rfl (gY (yV st_42 rfl) (gB rfl (gE (go _ 14 rfl (decide_eq_false (by omega)) (gcf rfl (gXt (gHh (gS (gR (gA rfl (gE (gRt (gr1 results97 rfl ⟨rfl,hm.below⟩)))))))))))))))))
theorem laws_eqCode_ok (w0 : World) (a_ : Code_) (v1 : Value) (h1 : GT.rep (hp w0) [v1] a_.blocks) (b_ : Code_) (v2 : Value) (h2 : GT.rep (hp w0) [v2] b_.blocks) :
    ConM Tryz.prog 63 [(.agg #[nV a_.params,nV a_.regs,v1]),(.agg #[nV b_.params,nV b_.regs,v2])] w0 (laws_eqCode a_ b_) λr v w'=>v=(.bool (r))∧Below w0.heap.size w0 w':=by
  unfold laws_eqCode
  refine gcon func63 rfl λr=>?_
  have hm:=Mem.start w0
  refine gS (gR (gBx hm rfl λaD w hm=>gBx hm rfl λaE w hm=>gA rfl (gE (gS (gS (gR (gF fo_44_0 rfl (gL hm 1 isAgg3 rfl (gF fo_44_0 rfl (gL hm 0 isAgg3 rfl (gB rfl (gE (gsd 9 rfl (λaA=>?_) λaA=>?_)))))))))))))
  ·exact gct rfl (gS (gR (gA rfl (gE (gRt (gr1 results63 rfl ⟨rfl,hm.below⟩))))))
  refine gcf rfl (gSk (gS (gS (gR (gF fo_44_1 rfl (gL hm 1 isAgg3 rfl (gF fo_44_1 rfl (gL hm 0 isAgg3 rfl (gB rfl (gE (gsd 14 rfl (λaB=>?_) λaB=>?_)))))))))))
  ·exact gct rfl (gS (gR (gA rfl (gE (gRt (gr1 results63 rfl ⟨rfl,hm.below⟩))))))
  refine gcf rfl (gSk (gS (gS (gR (gF fo_44_2 rfl (gL hm 1 isAgg42 rfl (gF fo_44_2 rfl (gL hm 0 isAgg42 rfl (gC hm rfl call97 (laws_eqBlockS_ok _ a_.blocks v1 (hm.now h1) b_.blocks v2 (hm.now h2)) λaF aG w hm=>gN rfl (gE (gsn 20 rfl (λaC=>?_) λaC=>?_)))))))))))
  ·exact gct rfl (gS (gR (gA rfl (gE (gRt (gr1 results63 rfl ⟨rfl,hm.below⟩))))))
  exact gcf rfl (gSk (gS (gR (gA rfl (gE (gRt (gr1 results63 rfl ⟨rfl,hm.below⟩)))))))
theorem laws_eqCodeS_ok (w0 : World) (a_ : List Code_) (v1 : Value) (h1 : GT.rep (hp w0) [v1] a_) (b_ : List Code_) (v2 : Value) (h2 : GT.rep (hp w0) [v2] b_) :
    ConM Tryz.prog 29 [v1,v2] w0 (laws_eqCodeS a_ b_) λr v w'=>v=(.bool (r))∧Below w0.heap.size w0 w':=by
  unfold laws_eqCodeS
  refine gcon func29 rfl λr=>?_
  have hm:=Mem.start w0
  refine gS (gR (gA rfl (gE (gS (gS (gR (gM rfl ?_)))))))
  obtain ⟨aE,aF,rfl,aY⟩:=ro_slice h1
  refine gY (yV st_26 rfl) (gM rfl ?_)
  obtain ⟨aG,aH,rfl,aZ⟩:=ro_slice h2
  refine gY (yV st_26 rfl) (gB rfl (gE (gsd 10 rfl (λaI=>?_) λaI=>?_)))
  ·exact gct rfl (gS (gR (gA rfl (gE (gRt (gr1 results29 rfl ⟨rfl,hm.below⟩))))))
  refine gcf rfl (gSk (gS (gS (gR (gA rfl (gE (gBk (gNf hm (λaA aD=>[(0,(.slice aE a_.length aF)),(1,(.slice aG b_.length aH)),(5,(nV aA))]) (λaA aD=>[]) [] rfl ?_ ?_))))))))
  ·repeat clear hm
   intro aa aJ aA aD w hm ab ac ae aK
   refine gS (gS (gR (gM rfl (gM rfl (gY (yV st_26 rfl) (gB rfl (gE (go _ 14 rfl (decide_eq_true (by omega)) (gct rfl (gSk (gS (gBk (gS (gW (.p 0 (.p 1 (.p 2 (.p 4 (.p 5 (.p 6 (.q 3 (.e 7 (.e 8 (.p 9 .fin) .nil) .nil)))))))) [7] [0,1,2,4,5,6,9] hm [] [] rfl mxo (by kernel_rfl) (λ_ _ _ h=>h.2) λw hm hS=>tP rfl (λw=>yM rfl) (tP rfl (λw=>yM rfl) (gg λaL aM aB=>?_))))))))))))))))
   obtain ⟨af,ah,ai,he⟩:=idx_form' h1 aB
   obtain ⟨rfl,_,rfl⟩:=sl3 he
   obtain ⟨aN,aO,aP⟩:=rk_Code_ h1 aB
   refine tP rfl (λw=>yI st_26 aM (idx_lt aB) rfl) (tP rfl (λw=>yM rfl) (tP rfl (λw=>yM rfl) (gg λaQ aR aC=>?_)))
   obtain ⟨aj,ak,al,he⟩:=idx_form' h2 aC
   obtain ⟨rfl,_,rfl⟩:=sl3 he
   obtain ⟨aS,aT,aV⟩:=rk_Code_ h2 aC
   refine tP rfl (λw=>yI st_26 aR (idx_lt aC) rfl) (tQ rfl hS (λw hm=>yn (aO.mono hm.lez) isAgg44 sizeOf44 rfl) (tO (tY rfl (yn (aT.mono hm.lez) isAgg44 sizeOf44 rfl) (tAs hS (tO (gb λam aW=>tf rfl rfl (λa hf=>e_call hf rfl call63 rfl (laws_eqCode_ok _ aL aN (hm.now aP) aQ aS (hm.now aV) _ aW)) ?_))))))
   rintro an w ⟨rfl,hB⟩
   replace hm:=hm.below' hB;clear hB
   refine tAn rfl (tP rfl (λw=>yN rfl) (tE (gsn 26 rfl (λaX=>?_) λaX=>?_)))
   ·exact gct rfl (gS (gR (gA rfl (gE (gRt (gLr aK aJ (gr1 results29 rfl ⟨rfl,hm.below⟩)))))))
   exact gcf rfl (gSk (gR (gM rfl (gP (by omega) (by omega) rfl (gA rfl (gE (gze hm [] rfl)))))))
  repeat clear hm
  intro ao ap w hm aq ar
  exact gS (gS (gR (gM rfl (gM rfl (gY (yV st_26 rfl) (gB rfl (gE (go _ 14 rfl (decide_eq_false (by omega)) (gcf rfl (gXt (gHh (gS (gR (gA rfl (gE (gRt (gr1 results29 rfl ⟨rfl,hm.below⟩)))))))))))))))))
theorem laws_eqUnit_ok (w0 : World) (a_ : Unit_) (v1 : Value) (h1 : GT.rep (hp w0) [v1] a_.codes) (b_ : Unit_) (v2 : Value) (h2 : GT.rep (hp w0) [v2] b_.codes) :
    ConM Tryz.prog 10 [(.agg #[v1]),(.agg #[v2])] w0 (laws_eqUnit a_ b_) λr v w'=>v=(.bool (r))∧Below w0.heap.size w0 w':=by
  unfold laws_eqUnit
  refine gcon func10 rfl λr=>?_
  have hm:=Mem.start w0
  refine gS (gR (gBx hm rfl λaB w hm=>gBx hm rfl λaC w hm=>gA rfl (gE (gS (gS (gR (gF fo_28_0 rfl (gL hm 1 isAgg26 rfl (gF fo_28_0 rfl (gL hm 0 isAgg26 rfl (gC hm rfl call29 (laws_eqCodeS_ok _ a_.codes v1 (hm.now h1) b_.codes v2 (hm.now h2)) λaD aE w hm=>gN rfl (gE (gsn 10 rfl (λaA=>?_) λaA=>?_)))))))))))))
  ·exact gct rfl (gS (gR (gA rfl (gE (gRt (gr1 results10 rfl ⟨rfl,hm.below⟩))))))
  exact gcf rfl (gSk (gS (gR (gA rfl (gE (gRt (gr1 results10 rfl ⟨rfl,hm.below⟩)))))))
theorem laws_markIntS_ok (w0 : World) (hz : Heap) (a_ : List Int) (v1 : Value) (k_ : Int) (hm0 : Mem w0 hz w0 [ow [v1] a_]) :
    ConM Tryz.prog 100 [v1,nV k_] w0 (laws_markIntS a_ k_) λr v w'=>v=(nV r.1)∧Mem w0 hz w' [ow [v1] r.2]:=by
  unfold laws_markIntS
  refine gcon func100 rfl λr=>?_
  have hm:=hm0
  refine gS (gR (gA rfl (gE (gS (gS (gR (gA rfl (gE ?_))))))))
  obtain ⟨aD,aE,rfl,aG⟩:=ro_slice (hm.ow_rep 0 rfl)
  refine gBk (gNf hm (λaC aA=>[(0,(.slice aD a_.length aE)),(1,(nV aA.2)),(5,(nV aC))]) (λaC aA=>[ow [.slice aD a_.length aE] aA.1]) [0] rfl ?_ ?_)
  ·repeat clear hm
   intro _ _ aC aA w hm aH aI aJ _
   refine gS (gS (gR (gM rfl (gM rfl ?_))))
   have aK:=rep_len (hm.ow_rep 0 rfl)
   refine gY (yV st_47 rfl) (gB rfl (gE (go _ 9 rfl (decide_eq_true (by omega)) (gct rfl (gSk (gS (gBk (gS (gR (gM rfl (gM rfl (gM rfl (gg λaL aF aB=>?_)))))))))))))
   obtain ⟨aM,aN,aO,he⟩:=idx_form (hm.ow_rep 0 rfl) aB
   obtain ⟨rfl,_,rfl⟩:=sl3 he
   have hL1_1:=rep_slice_len (hm.ow_rep 0 rfl)
   refine gI st_47 aF (idx_lt2 aB hL1_1) rfl (gf0 rfl (λa hf=>e_setElem (x1:=aA.2) (j:=0) (vs:=[nV aA.2]) 0 hf hm rfl aB rfl sizeOf3 rfl rfl rfl (one_cons rfl one_nil) rfl rfl) ?_)
   rintro _ w hm
   have aP:=List.getElem?_set_self (a:=aA.2) (idx_lt aB)
   exact gE (gR (gM rfl (gB rfl (gA rfl (gE (gR (gM rfl (gP (by omega) (by omega) rfl (gA rfl (gE (gze hm [0] rfl)))))))))))
  repeat clear hm
  intro aQ aR w hm aS aT
  refine gS (gS (gR (gM rfl (gM rfl ?_))))
  have aV:=rep_len (hm.ow_rep 0 rfl)
  exact gY (yV st_47 rfl) (gB rfl (gE (go _ 9 rfl (decide_eq_false (by omega)) (gcf rfl (gXt (gHh (gS (gR (gM rfl (gA rfl (gE (gRt (gr1 results100 rfl ⟨rfl,hm.pk [0] rfl rfl⟩)))))))))))))
theorem laws_markPhiS_ok (w0 : World) (hz : Heap) (a_ : List Phi_) (v1 : Value) (k_ : Int) (hm0 : Mem w0 hz w0 [ow [v1] a_]) :
    ConM Tryz.prog 98 [v1,nV k_] w0 (laws_markPhiS a_ k_) λr v w'=>v=(nV r.1)∧Mem w0 hz w' [ow [v1] r.2]:=by
  unfold laws_markPhiS
  refine gcon func98 rfl λr=>?_
  have hm:=hm0
  refine gS (gR (gA rfl (gE (gS (gS (gR (gA rfl (gE ?_))))))))
  obtain ⟨aL,aF,rfl,aS⟩:=ro_slice (hm.ow_rep 0 rfl)
  refine gBk (gNf hm (λaD aA=>[(0,(.slice aL a_.length aF)),(1,(nV aA.2)),(5,(nV aD))]) (λaD aA=>[ow [.slice aL a_.length aF] aA.1]) [0] rfl ?_ ?_)
  ·repeat clear hm
   intro _ _ aD aA w hm aT aV aW _
   refine gS (gS (gR (gM rfl (gM rfl ?_))))
   have aX:=rep_len (hm.ow_rep 0 rfl)
   refine gY (yV st_45 rfl) (gB rfl (gE (go _ 9 rfl (decide_eq_true (by omega)) (gct rfl (gSk (gS (gBk (gS (gR (gM rfl (gM rfl (gM rfl (gg λaB aM aE=>?_)))))))))))))
   obtain ⟨aH,aI,aY,he⟩:=idx_form' (hm.ow_rep 0 rfl) aE
   obtain ⟨rfl,_,rfl⟩:=sl3 he
   obtain ⟨aN,aO,aZ⟩:=rk_Phi_ (hm.ow_rep 0 rfl) aE
   have hL1_1:=rep_slice_len (hm.ow_rep 0 rfl)
   refine gI st_45 aM (idx_lt2 aE hL1_1) rfl (gF fo_105_0 rfl (gf0 rfl (λa hf=>e_setElemR (x1:=((⟨aA.2,aB.args⟩:Phi_):Phi_)) (j:=0) (vs:=[nV aA.2]) 0 hf hm rfl aE aO rfl (λF h ho=>(λ_=>own_fst_map (α:=Int) (β:=(List Int)) (cs:=[nV aB.to]) (cs':=[nV aA.2]) (ds:=[aN]) rfl (λ_ _=>Flat.own_iff.2 rfl)) F ho) rfl sizeOf3 rfl rfl rfl (one_cons rfl one_nil) rfl) ?_))
   rintro _ w hm
   have aJ:=List.getElem?_set_self (a:=((⟨aA.2,aB.args⟩:Phi_):Phi_)) (idx_lt aE)
   refine gE (gS (gR (gM rfl (gB rfl (gA rfl (gE (gR (gM rfl (gM rfl ?_)))))))))
   obtain ⟨_,_,aG,aP⟩:=ro_get' (hm.ow_rep 0 rfl) aJ
   obtain ⟨_,_,rfl,rfl,aK⟩:=aP
   obtain ⟨aC,rfl,-⟩:=id aK
   replace aK:GT.rep (hp _) [aC] aB.args:=aK
   replace aG:CellsAt (hp _) aH (aI+(aD).toNat*2) [nV aA.2,aC]:=aG
   have hL1_2:=rep_slice_len (hm.ow_rep 0 rfl)
   refine gI st_45 aM (idx_lt2 aJ hL1_2) rfl (gF fo_105_1 rfl (gY (yl isAgg47 (aG.cell (j:=1) rfl) rfl) (gM rfl ?_)))
   replace hm:Mem w0 hz _ [ow [aC] aB.args,hole [sV aH aI a_.length aF] [aC] (λ(y:List Int)=>((aA.1.set (aD).toNat (⟨aA.2,aB.args⟩:Phi_)):List Phi_).set (aD).toNat (⟨aA.2,y⟩:Phi_))]:=hm.open 0 rfl (foc_elem aJ aG rfl (show FocH (α:=Phi_) _ _ (⟨aA.2,aB.args⟩:Phi_) [aC] aB.args (λy=>(⟨aA.2,y⟩:Phi_)) from (foc_snd (α:=Int) (β:=(List Int)) (cs:=[nV aA.2]) (ds:=[aC]) (v:=[aC]) (inner:=aB.args) (x:=aB.args) (z:=aA.2) (put:=λ(y:List Int)=>y) rfl (foc_id [aC] aB.args))))
   obtain ⟨aQ,hle,hm1,hsub,aR⟩:=hm.take2 (L1:=[ow [aC] aB.args]) (L2:=[hole [sV aH aI a_.length aF] [aC] (λ(y:List Int)=>((aA.1.set (aD).toNat (⟨aA.2,aB.args⟩:Phi_)):List Phi_).set (aD).toNat (⟨aA.2,y⟩:Phi_))]) [0] [1] (by decide) rfl rfl
   refine gCg rfl call100 (laws_markIntS_ok _ aQ aB.args aC (w64 (aA.2+1)) hm1 ) ?_
   rintro aa ab ac w ⟨rfl,hB⟩
   replace hm:=aR _ _ hB;clear hB
   replace hm:=(hm.shut 1 0 (by decide) rfl rfl).pk (L':=[_]) [1] rfl rfl
   exact gA rfl (gE (gR (gM rfl (gP (by omega) (by omega) rfl (gA rfl (gE (gze hm [0] rfl)))))))
  repeat clear hm
  intro ae af w hm ah ai
  refine gS (gS (gR (gM rfl (gM rfl ?_))))
  have aj:=rep_len (hm.ow_rep 0 rfl)
  exact gY (yV st_45 rfl) (gB rfl (gE (go _ 9 rfl (decide_eq_false (by omega)) (gcf rfl (gXt (gHh (gS (gR (gM rfl (gA rfl (gE (gRt (gr1 results98 rfl ⟨rfl,hm.pk [0] rfl rfl⟩)))))))))))))
theorem laws_markInsS_ok (w0 : World) (hz : Heap) (a_ : List Ins_) (v1 : Value) (k_ : Int) (hm0 : Mem w0 hz w0 [ow [v1] a_]) :
    ConM Tryz.prog 99 [v1,nV k_] w0 (laws_markInsS a_ k_) λr v w'=>v=(nV r.1)∧Mem w0 hz w' [ow [v1] r.2]:=by
  unfold laws_markInsS
  refine gcon func99 rfl λr=>?_
  have hm:=hm0
  refine gS (gR (gA rfl (gE (gS (gS (gR (gA rfl (gE ?_))))))))
  obtain ⟨aV,aJ,rfl,af⟩:=ro_slice (hm.ow_rep 0 rfl)
  refine gBk (gNf hm (λaE aB=>[(0,(.slice aV a_.length aJ)),(1,(nV aB.2)),(5,(nV aE))]) (λaE aB=>[ow [.slice aV a_.length aJ] aB.1]) [0] rfl ?_ ?_)
  ·repeat clear hm
   intro _ _ aE aB w hm ah ai aj _
   refine gS (gS (gR (gM rfl (gM rfl ?_))))
   have ak:=rep_len (hm.ow_rep 0 rfl)
   refine gY (yV st_46 rfl) (gB rfl (gE (go _ 9 rfl (decide_eq_true (by omega)) (gct rfl (gSk (gS (gBk (gS (gR (gM rfl (gM rfl (gM rfl (gg λaA aP aG=>?_)))))))))))))
   obtain ⟨aK,aL,al,he⟩:=idx_form' (hm.ow_rep 0 rfl) aG
   obtain ⟨rfl,_,rfl⟩:=sl3 he
   obtain ⟨aW,aX,am⟩:=rk_Ins_ (hm.ow_rep 0 rfl) aG
   have hL1_1:=rep_slice_len (hm.ow_rep 0 rfl)
   refine gI st_46 aP (idx_lt2 aG hL1_1) rfl (gF fo_51_0 rfl (gf0 rfl (λa hf=>e_setElemR (x1:=((⟨aB.2,aA.to,aA.args,aA.n_⟩:Ins_):Ins_)) (j:=0) (vs:=[nV aB.2]) 0 hf hm rfl aG aX rfl (λF h ho=>(λ_=>own_fst_map (α:=Int) (β:=Int × (List Int) × Int) (cs:=[nV aA.op]) (cs':=[nV aB.2]) (ds:=[nV aA.to,aW,nV aA.n_]) rfl (λ_ _=>Flat.own_iff.2 rfl)) F ho) rfl sizeOf3 rfl rfl rfl (one_cons rfl one_nil) rfl) ?_))
   rintro _ w hm
   have aM:=List.getElem?_set_self (a:=((⟨aB.2,aA.to,aA.args,aA.n_⟩:Ins_):Ins_)) (idx_lt aG)
   refine gE (gS (gR (gM rfl (gB rfl (gA rfl (gE (gS (gR (gM rfl (gM rfl (gM rfl ?_)))))))))))
   obtain ⟨_,_,aQ,aY⟩:=ro_get' (hm.ow_rep 0 rfl) aM
   obtain ⟨_,_,rfl,rfl,_,_,rfl,rfl,_,_,rfl,aR,rfl⟩:=aY
   obtain ⟨aH,rfl,-⟩:=id aR
   replace aR:GT.rep (hp _) [aH] aA.args:=aR
   replace aQ:CellsAt (hp _) aK (aL+(aE).toNat*4) [nV aB.2,nV aA.to,aH,nV aA.n_]:=aQ
   have hL1_2:=rep_slice_len (hm.ow_rep 0 rfl)
   refine gI st_46 aP (idx_lt2 aM hL1_2) rfl (gF fo_51_1 rfl (gf0 rfl (λa hf=>e_setElemR (x1:=((⟨aB.2,w64 (aB.2+1),aA.args,aA.n_⟩:Ins_):Ins_)) (j:=1) (vs:=[nV (w64 (aB.2+1))]) 0 hf hm rfl aM aQ rfl (λF h ho=>(λ_=>own_snd_map (α:=Int) (β:=Int × (List Int) × Int) (cs:=[nV aB.2]) (ds:=[nV aA.to,aH,nV aA.n_]) (ds':=[nV (w64 (aB.2+1)),aH,nV aA.n_]) rfl (λ_=>own_fst_map (α:=Int) (β:=(List Int) × Int) (cs:=[nV aA.to]) (cs':=[nV (w64 (aB.2+1))]) (ds:=[aH,nV aA.n_]) rfl (λ_ _=>Flat.own_iff.2 rfl))) F ho) rfl sizeOf3 rfl rfl rfl (one_cons rfl one_nil) rfl) ?_))
   rintro _ w hm
   have aS:=List.getElem?_set_self (a:=((⟨aB.2,w64 (aB.2+1),aA.args,aA.n_⟩:Ins_):Ins_)) (idx_lt aM)
   refine gE (gS (gR (gM rfl (gB rfl (gA rfl (gE (gS (gR (gM rfl (gM rfl ?_))))))))))
   obtain ⟨_,_,aN,aZ⟩:=ro_get' (hm.ow_rep 0 rfl) aS
   obtain ⟨_,_,rfl,rfl,_,_,rfl,rfl,_,_,rfl,aT,rfl⟩:=aZ
   obtain ⟨aC,rfl,-⟩:=id aT
   replace aT:GT.rep (hp _) [aC] aA.args:=aT
   replace aN:CellsAt (hp _) aK (aL+(aE).toNat*4) [nV aB.2,nV (w64 (aB.2+1)),aC,nV aA.n_]:=aN
   have hL1_3:=rep_slice_len (hm.ow_rep 0 rfl)
   refine gI st_46 aP (idx_lt2 aS hL1_3) rfl (gF fo_51_2 rfl (gY (yl isAgg47 (aN.cell (j:=2) rfl) rfl) (gM rfl ?_)))
   replace hm:Mem w0 hz _ [ow [aC] aA.args,hole [sV aK aL a_.length aJ] [aC] (λ(y:List Int)=>(((aB.1.set (aE).toNat (⟨aB.2,aA.to,aA.args,aA.n_⟩:Ins_)).set (aE).toNat (⟨aB.2,w64 (aB.2+1),aA.args,aA.n_⟩:Ins_)):List Ins_).set (aE).toNat (⟨aB.2,w64 (aB.2+1),y,aA.n_⟩:Ins_))]:=hm.open 0 rfl (foc_elem aS aN rfl (show FocH (α:=Ins_) _ _ (⟨aB.2,w64 (aB.2+1),aA.args,aA.n_⟩:Ins_) [aC] aA.args (λy=>(⟨aB.2,w64 (aB.2+1),y,aA.n_⟩:Ins_)) from (foc_snd (α:=Int) (β:=Int × (List Int) × Int) (cs:=[nV aB.2]) (ds:=[nV (w64 (aB.2+1)),aC,nV aA.n_]) (v:=[aC]) (inner:=aA.args) (x:=(w64 (aB.2+1),aA.args,aA.n_)) (z:=aB.2) (put:=λ(y:List Int)=>(w64 (aB.2+1),y,aA.n_)) rfl (foc_snd (α:=Int) (β:=(List Int) × Int) (cs:=[nV (w64 (aB.2+1))]) (ds:=[aC,nV aA.n_]) (v:=[aC]) (inner:=aA.args) (x:=(aA.args,aA.n_)) (z:=w64 (aB.2+1)) (put:=λ(y:List Int)=>(y,aA.n_)) rfl (foc_fst (α:=List Int) (β:=Int) (cs:=[aC]) (ds:=[nV aA.n_]) (v:=[aC]) (inner:=aA.args) (x:=aA.args) (z:=aA.n_) (put:=λ(y:List Int)=>y) rfl (foc_id [aC] aA.args))))))
   obtain ⟨aa,hle,hm1,hsub,ab⟩:=hm.take2 (L1:=[ow [aC] aA.args]) (L2:=[hole [sV aK aL a_.length aJ] [aC] (λ(y:List Int)=>(((aB.1.set (aE).toNat (⟨aB.2,aA.to,aA.args,aA.n_⟩:Ins_)).set (aE).toNat (⟨aB.2,w64 (aB.2+1),aA.args,aA.n_⟩:Ins_)):List Ins_).set (aE).toNat (⟨aB.2,w64 (aB.2+1),y,aA.n_⟩:Ins_))]) [0] [1] (by decide) rfl rfl
   refine gCg rfl call100 (laws_markIntS_ok _ aa aA.args aC (w64 ((w64 (aB.2+1))+1)) hm1 ) ?_
   rintro aF an ao w ⟨rfl,hB⟩
   replace hm:=ab _ _ hB;clear hB
   replace hm:=(hm.shut 1 0 (by decide) rfl rfl).pk (L':=[_]) [1] rfl rfl
   refine gA rfl (gE (gS (gR (gM rfl (gM rfl (gM rfl (gg λaD ac aO=>?_)))))))
   obtain ⟨aI,ae,ap⟩:=rk_Ins_ (hm.ow_rep 0 rfl) aO
   have hL1_4:=rep_slice_len (hm.ow_rep 0 rfl)
   refine gI st_46 ac (idx_lt2 aO hL1_4) rfl (gF fo_51_3 rfl (gf0 rfl (λa hf=>e_setElemR (x1:=((⟨aD.op,aD.to,aD.args,aF.1⟩:Ins_):Ins_)) (j:=3) (vs:=[nV aF.1]) 0 hf hm rfl aO ae rfl (λF h ho=>(λ_=>own_snd_map (α:=Int) (β:=Int × (List Int) × Int) (cs:=[nV aD.op]) (ds:=[nV aD.to,aI,nV aD.n_]) (ds':=[nV aD.to,aI,nV aF.1]) rfl (λ_=>own_snd_map (α:=Int) (β:=(List Int) × Int) (cs:=[nV aD.to]) (ds:=[aI,nV aD.n_]) (ds':=[aI,nV aF.1]) rfl (λ_=>own_snd_map (α:=List Int) (β:=Int) (cs:=[aI]) (ds:=[nV aD.n_]) (ds':=[nV aF.1]) rfl (λ_ _=>Flat.own_iff.2 rfl)))) F ho) rfl sizeOf3 rfl rfl rfl (one_cons rfl one_nil) rfl) ?_))
   rintro _ w hm
   have aq:=List.getElem?_set_self (a:=((⟨aD.op,aD.to,aD.args,aF.1⟩:Ins_):Ins_)) (idx_lt aO)
   exact gE (gR (gM rfl (gB rfl (gA rfl (gE (gR (gM rfl (gP (by omega) (by omega) rfl (gA rfl (gE (gze hm [0] rfl)))))))))))
  repeat clear hm
  intro ar au w hm av aw
  refine gS (gS (gR (gM rfl (gM rfl ?_))))
  have ax:=rep_len (hm.ow_rep 0 rfl)
  exact gY (yV st_46 rfl) (gB rfl (gE (go _ 9 rfl (decide_eq_false (by omega)) (gcf rfl (gXt (gHh (gS (gR (gM rfl (gA rfl (gE (gRt (gr1 results99 rfl ⟨rfl,hm.pk [0] rfl rfl⟩)))))))))))))
theorem laws_markBlockS_ok (w0 : World) (hz : Heap) (a_ : List Block_) (v1 : Value) (k_ : Int) (hm0 : Mem w0 hz w0 [ow [v1] a_]) :
    ConM Tryz.prog 64 [v1,nV k_] w0 (laws_markBlockS a_ k_) λr v w'=>v=(nV r.1)∧Mem w0 hz w' [ow [v1] r.2]:=by
  unfold laws_markBlockS
  refine gcon func64 rfl λr=>?_
  have hm:=hm0
  refine gS (gR (gA rfl (gE (gS (gS (gR (gA rfl (gE ?_))))))))
  obtain ⟨al,aK,rfl,bG⟩:=ro_slice (hm.ow_rep 0 rfl)
  refine gBk (gNf hm (λaE aG=>[(0,(.slice al a_.length aK)),(1,(nV aG.2)),(5,(nV aE))]) (λaE aG=>[ow [.slice al a_.length aK] aG.1]) [0] rfl ?_ ?_)
  ·repeat clear hm
   intro _ _ aE aG w hm bH bJ bK _
   refine gS (gS (gR (gM rfl (gM rfl ?_))))
   have bL:=rep_len (hm.ow_rep 0 rfl)
   refine gY (yV st_42 rfl) (gB rfl (gE (go _ 9 rfl (decide_eq_true (by omega)) (gct rfl (gSk (gS (gBk (gS (gR (gM rfl (gM rfl (gg λaD ap aQ=>?_))))))))))))
   obtain ⟨aL,aM,bM,he⟩:=idx_form' (hm.ow_rep 0 rfl) aQ
   obtain ⟨rfl,_,rfl⟩:=sl3 he
   obtain ⟨aI,aq,ar,am,bN,bO,bP⟩:=rk_Block_ (hm.ow_rep 0 rfl) aQ
   have hL1_1:=rep_slice_len (hm.ow_rep 0 rfl)
   refine gI st_42 ap (idx_lt2 aQ hL1_1) rfl (gF fo_49_0 rfl (gY (yl isAgg45 (am.cell (j:=0) rfl) rfl) (gM rfl ?_)))
   replace hm:Mem w0 hz _ [ow [aI] aD.phis,hole [sV aL aM a_.length aK] [aI] (λ(y:List Phi_)=>(aG.1:List Block_).set (aE).toNat (⟨y,aD.ins,aD.jump,aD.on,aD.next_⟩:Block_))]:=hm.open 0 rfl (foc_elem aQ am rfl (show FocH (α:=Block_) _ _ aD [aI] aD.phis (λy=>(⟨y,aD.ins,aD.jump,aD.on,aD.next_⟩:Block_)) from (foc_fst (α:=List Phi_) (β:=(List Ins_) × Int × Int × (List Int)) (cs:=[aI]) (ds:=[aq,nV aD.jump,nV aD.on,ar]) (v:=[aI]) (inner:=aD.phis) (x:=aD.phis) (z:=(aD.ins,aD.jump,aD.on,aD.next_)) (put:=λ(y:List Phi_)=>y) rfl (foc_id [aI] aD.phis))))
   obtain ⟨au,hle,hm1,hsub,av⟩:=hm.take2 (L1:=[ow [aI] aD.phis]) (L2:=[hole [sV aL aM a_.length aK] [aI] (λ(y:List Phi_)=>(aG.1:List Block_).set (aE).toNat (⟨y,aD.ins,aD.jump,aD.on,aD.next_⟩:Block_))]) [0] [1] (by decide) rfl rfl
   refine gCg rfl call98 (laws_markPhiS_ok _ au aD.phis aI aG.2 hm1 ) ?_
   rintro aN bQ bR w ⟨rfl,hB⟩
   replace hm:=av _ _ hB;clear hB
   replace hm:=(hm.shut 1 0 (by decide) rfl rfl).pk (L':=[_]) [1] rfl rfl
   refine gA rfl (gE (gS (gR (gM rfl (gM rfl (gg λaC aw aW=>?_))))))
   obtain ⟨ax,aH,an,ao,bS,bT,bU⟩:=rk_Block_ (hm.ow_rep 0 rfl) aW
   have hL1_2:=rep_slice_len (hm.ow_rep 0 rfl)
   refine gI st_42 aw (idx_lt2 aW hL1_2) rfl (gF fo_49_1 rfl (gY (yl isAgg46 (ao.cell (j:=1) rfl) rfl) (gM rfl ?_)))
   replace hm:Mem w0 hz _ [ow [aH] aC.ins,hole [sV aL aM a_.length aK] [aH] (λ(y:List Ins_)=>((aG.1.set (aE).toNat (⟨aN.2,aD.ins,aD.jump,aD.on,aD.next_⟩:Block_)):List Block_).set (aE).toNat (⟨aC.phis,y,aC.jump,aC.on,aC.next_⟩:Block_))]:=hm.open 0 rfl (foc_elem aW ao rfl (show FocH (α:=Block_) _ _ aC [aH] aC.ins (λy=>(⟨aC.phis,y,aC.jump,aC.on,aC.next_⟩:Block_)) from (foc_snd (α:=List Phi_) (β:=(List Ins_) × Int × Int × (List Int)) (cs:=[ax]) (ds:=[aH,nV aC.jump,nV aC.on,an]) (v:=[aH]) (inner:=aC.ins) (x:=(aC.ins,aC.jump,aC.on,aC.next_)) (z:=aC.phis) (put:=λ(y:List Ins_)=>(y,aC.jump,aC.on,aC.next_)) rfl (foc_fst (α:=List Ins_) (β:=Int × Int × (List Int)) (cs:=[aH]) (ds:=[nV aC.jump,nV aC.on,an]) (v:=[aH]) (inner:=aC.ins) (x:=aC.ins) (z:=(aC.jump,aC.on,aC.next_)) (put:=λ(y:List Ins_)=>y) rfl (foc_id [aH] aC.ins)))))
   obtain ⟨ay,hle,hm1,hsub,az⟩:=hm.take2 (L1:=[ow [aH] aC.ins]) (L2:=[hole [sV aL aM a_.length aK] [aH] (λ(y:List Ins_)=>((aG.1.set (aE).toNat (⟨aN.2,aD.ins,aD.jump,aD.on,aD.next_⟩:Block_)):List Block_).set (aE).toNat (⟨aC.phis,y,aC.jump,aC.on,aC.next_⟩:Block_))]) [0] [1] (by decide) rfl rfl
   refine gCg rfl call99 (laws_markInsS_ok _ ay aC.ins aH aN.1 hm1 ) ?_
   rintro aB bV bW w ⟨rfl,hB⟩
   replace hm:=az _ _ hB;clear hB
   replace hm:=(hm.shut 1 0 (by decide) rfl rfl).pk (L':=[_]) [1] rfl rfl
   refine gA rfl (gE (gS (gR (gM rfl (gM rfl (gM rfl (gg λaA aX aR=>?_)))))))
   obtain ⟨bA,aY,aO,bB,bX,bY,bZ⟩:=rk_Block_ (hm.ow_rep 0 rfl) aR
   have hL1_3:=rep_slice_len (hm.ow_rep 0 rfl)
   refine gI st_42 aX (idx_lt2 aR hL1_3) rfl (gF fo_49_2 rfl (gf0 rfl (λa hf=>e_setElemR (x1:=((⟨aA.phis,aA.ins,aB.1,aA.on,aA.next_⟩:Block_):Block_)) (j:=2) (vs:=[nV aB.1]) 0 hf hm rfl aR bB rfl (λF h ho=>(λ_=>own_snd_map (α:=List Phi_) (β:=(List Ins_) × Int × Int × (List Int)) (cs:=[bA]) (ds:=[aY,nV aA.jump,nV aA.on,aO]) (ds':=[aY,nV aB.1,nV aA.on,aO]) rfl (λ_=>own_snd_map (α:=List Ins_) (β:=Int × Int × (List Int)) (cs:=[aY]) (ds:=[nV aA.jump,nV aA.on,aO]) (ds':=[nV aB.1,nV aA.on,aO]) rfl (λ_=>own_fst_map (α:=Int) (β:=Int × (List Int)) (cs:=[nV aA.jump]) (cs':=[nV aB.1]) (ds:=[nV aA.on,aO]) rfl (λ_ _=>Flat.own_iff.2 rfl)))) F ho) rfl sizeOf3 rfl rfl rfl (one_cons rfl one_nil) rfl) ?_))
   rintro _ w hm
   have aS:=List.getElem?_set_self (a:=((⟨aA.phis,aA.ins,aB.1,aA.on,aA.next_⟩:Block_):Block_)) (idx_lt aR)
   refine gE (gS (gR (gM rfl (gB rfl (gA rfl (gE (gS (gR (gM rfl (gM rfl (gM rfl ?_)))))))))))
   obtain ⟨_,_,aZ,bC⟩:=ro_get' (hm.ow_rep 0 rfl) aS
   obtain ⟨_,_,rfl,aa,_,_,rfl,ab,_,_,rfl,rfl,_,_,rfl,rfl,ac⟩:=bC
   obtain ⟨ae,rfl,-⟩:=id aa
   replace aa:GT.rep (hp _) [ae] aA.phis:=aa
   obtain ⟨aP,rfl,-⟩:=id ab
   replace ab:GT.rep (hp _) [aP] aA.ins:=ab
   obtain ⟨aJ,rfl,-⟩:=id ac
   replace ac:GT.rep (hp _) [aJ] aA.next_:=ac
   replace aZ:CellsAt (hp _) aL (aM+(aE).toNat*5) [ae,aP,nV aB.1,nV aA.on,aJ]:=aZ
   have hL1_4:=rep_slice_len (hm.ow_rep 0 rfl)
   refine gI st_42 aX (idx_lt2 aS hL1_4) rfl (gF fo_49_3 rfl (gf0 rfl (λa hf=>e_setElemR (x1:=((⟨aA.phis,aA.ins,aB.1,w64 (aB.1+1),aA.next_⟩:Block_):Block_)) (j:=3) (vs:=[nV (w64 (aB.1+1))]) 0 hf hm rfl aS aZ rfl (λF h ho=>(λ_=>own_snd_map (α:=List Phi_) (β:=(List Ins_) × Int × Int × (List Int)) (cs:=[ae]) (ds:=[aP,nV aB.1,nV aA.on,aJ]) (ds':=[aP,nV aB.1,nV (w64 (aB.1+1)),aJ]) rfl (λ_=>own_snd_map (α:=List Ins_) (β:=Int × Int × (List Int)) (cs:=[aP]) (ds:=[nV aB.1,nV aA.on,aJ]) (ds':=[nV aB.1,nV (w64 (aB.1+1)),aJ]) rfl (λ_=>own_snd_map (α:=Int) (β:=Int × (List Int)) (cs:=[nV aB.1]) (ds:=[nV aA.on,aJ]) (ds':=[nV (w64 (aB.1+1)),aJ]) rfl (λ_=>own_fst_map (α:=Int) (β:=(List Int)) (cs:=[nV aA.on]) (cs':=[nV (w64 (aB.1+1))]) (ds:=[aJ]) rfl (λ_ _=>Flat.own_iff.2 rfl))))) F ho) rfl sizeOf3 rfl rfl rfl (one_cons rfl one_nil) rfl) ?_))
   rintro _ w hm
   have af:=List.getElem?_set_self (a:=((⟨aA.phis,aA.ins,aB.1,w64 (aB.1+1),aA.next_⟩:Block_):Block_)) (idx_lt aS)
   refine gE (gS (gR (gM rfl (gB rfl (gA rfl (gE (gR (gM rfl (gM rfl ?_)))))))))
   obtain ⟨_,_,aT,bD⟩:=ro_get' (hm.ow_rep 0 rfl) af
   obtain ⟨_,_,rfl,ah,_,_,rfl,ai,_,_,rfl,rfl,_,_,rfl,rfl,aj⟩:=bD
   obtain ⟨ak,rfl,-⟩:=id ah
   replace ah:GT.rep (hp _) [ak] aA.phis:=ah
   obtain ⟨aV,rfl,-⟩:=id ai
   replace ai:GT.rep (hp _) [aV] aA.ins:=ai
   obtain ⟨aF,rfl,-⟩:=id aj
   replace aj:GT.rep (hp _) [aF] aA.next_:=aj
   replace aT:CellsAt (hp _) aL (aM+(aE).toNat*5) [ak,aV,nV aB.1,nV (w64 (aB.1+1)),aF]:=aT
   have hL1_5:=rep_slice_len (hm.ow_rep 0 rfl)
   refine gI st_42 aX (idx_lt2 af hL1_5) rfl (gF fo_49_4 rfl (gY (yl isAgg47 (aT.cell (j:=4) rfl) rfl) (gM rfl ?_)))
   replace hm:Mem w0 hz _ [ow [aF] aA.next_,hole [sV aL aM a_.length aK] [aF] (λ(y:List Int)=>(((((aG.1.set (aE).toNat (⟨aN.2,aD.ins,aD.jump,aD.on,aD.next_⟩:Block_)).set (aE).toNat (⟨aC.phis,aB.2,aC.jump,aC.on,aC.next_⟩:Block_)).set (aE).toNat (⟨aA.phis,aA.ins,aB.1,aA.on,aA.next_⟩:Block_)).set (aE).toNat (⟨aA.phis,aA.ins,aB.1,w64 (aB.1+1),aA.next_⟩:Block_)):List Block_).set (aE).toNat (⟨aA.phis,aA.ins,aB.1,w64 (aB.1+1),y⟩:Block_))]:=hm.open 0 rfl (foc_elem af aT rfl (show FocH (α:=Block_) _ _ (⟨aA.phis,aA.ins,aB.1,w64 (aB.1+1),aA.next_⟩:Block_) [aF] aA.next_ (λy=>(⟨aA.phis,aA.ins,aB.1,w64 (aB.1+1),y⟩:Block_)) from (foc_snd (α:=List Phi_) (β:=(List Ins_) × Int × Int × (List Int)) (cs:=[ak]) (ds:=[aV,nV aB.1,nV (w64 (aB.1+1)),aF]) (v:=[aF]) (inner:=aA.next_) (x:=(aA.ins,aB.1,w64 (aB.1+1),aA.next_)) (z:=aA.phis) (put:=λ(y:List Int)=>(aA.ins,aB.1,w64 (aB.1+1),y)) rfl (foc_snd (α:=List Ins_) (β:=Int × Int × (List Int)) (cs:=[aV]) (ds:=[nV aB.1,nV (w64 (aB.1+1)),aF]) (v:=[aF]) (inner:=aA.next_) (x:=(aB.1,w64 (aB.1+1),aA.next_)) (z:=aA.ins) (put:=λ(y:List Int)=>(aB.1,w64 (aB.1+1),y)) rfl (foc_snd (α:=Int) (β:=Int × (List Int)) (cs:=[nV aB.1]) (ds:=[nV (w64 (aB.1+1)),aF]) (v:=[aF]) (inner:=aA.next_) (x:=(w64 (aB.1+1),aA.next_)) (z:=aB.1) (put:=λ(y:List Int)=>(w64 (aB.1+1),y)) rfl (foc_snd (α:=Int) (β:=(List Int)) (cs:=[nV (w64 (aB.1+1))]) (ds:=[aF]) (v:=[aF]) (inner:=aA.next_) (x:=aA.next_) (z:=w64 (aB.1+1)) (put:=λ(y:List Int)=>y) rfl (foc_id [aF] aA.next_)))))))
   obtain ⟨bE,hle,hm1,hsub,bF⟩:=hm.take2 (L1:=[ow [aF] aA.next_]) (L2:=[hole [sV aL aM a_.length aK] [aF] (λ(y:List Int)=>(((((aG.1.set (aE).toNat (⟨aN.2,aD.ins,aD.jump,aD.on,aD.next_⟩:Block_)).set (aE).toNat (⟨aC.phis,aB.2,aC.jump,aC.on,aC.next_⟩:Block_)).set (aE).toNat (⟨aA.phis,aA.ins,aB.1,aA.on,aA.next_⟩:Block_)).set (aE).toNat (⟨aA.phis,aA.ins,aB.1,w64 (aB.1+1),aA.next_⟩:Block_)):List Block_).set (aE).toNat (⟨aA.phis,aA.ins,aB.1,w64 (aB.1+1),y⟩:Block_))]) [0] [1] (by decide) rfl rfl
   refine gCg rfl call100 (laws_markIntS_ok _ bE aA.next_ aF (w64 ((w64 (aB.1+1))+1)) hm1 ) ?_
   rintro b6 b7 b8 w ⟨rfl,hB⟩
   replace hm:=bF _ _ hB;clear hB
   replace hm:=(hm.shut 1 0 (by decide) rfl rfl).pk (L':=[_]) [1] rfl rfl
   exact gA rfl (gE (gR (gM rfl (gP (by omega) (by omega) rfl (gA rfl (gE (gze hm [0] rfl)))))))
  repeat clear hm
  intro b9 ba w hm bc bd
  refine gS (gS (gR (gM rfl (gM rfl ?_))))
  have be:=rep_len (hm.ow_rep 0 rfl)
  exact gY (yV st_42 rfl) (gB rfl (gE (go _ 9 rfl (decide_eq_false (by omega)) (gcf rfl (gXt (gHh (gS (gR (gM rfl (gA rfl (gE (gRt (gr1 results64 rfl ⟨rfl,hm.pk [0] rfl rfl⟩)))))))))))))
theorem laws_markCodeS_ok (w0 : World) (hz : Heap) (a_ : List Code_) (v1 : Value) (k_ : Int) (hm0 : Mem w0 hz w0 [ow [v1] a_]) :
    ConM Tryz.prog 30 [v1,nV k_] w0 (laws_markCodeS a_ k_) λr v w'=>v=(nV r.1)∧Mem w0 hz w' [ow [v1] r.2]:=by
  unfold laws_markCodeS
  refine gcon func30 rfl λr=>?_
  have hm:=hm0
  refine gS (gR (gA rfl (gE (gS (gS (gR (gA rfl (gE ?_))))))))
  obtain ⟨aQ,aG,rfl,aY⟩:=ro_slice (hm.ow_rep 0 rfl)
  refine gBk (gNf hm (λaD aA=>[(0,(.slice aQ a_.length aG)),(1,(nV aA.2)),(5,(nV aD))]) (λaD aA=>[ow [.slice aQ a_.length aG] aA.1]) [0] rfl ?_ ?_)
  ·repeat clear hm
   intro _ _ aD aA w hm aZ aa ab _
   refine gS (gS (gR (gM rfl (gM rfl ?_))))
   have ac:=rep_len (hm.ow_rep 0 rfl)
   refine gY (yV st_26 rfl) (gB rfl (gE (go _ 9 rfl (decide_eq_true (by omega)) (gct rfl (gSk (gS (gBk (gS (gR (gM rfl (gM rfl (gM rfl (gg λaB aL aE=>?_)))))))))))))
   obtain ⟨aH,aI,ae,he⟩:=idx_form' (hm.ow_rep 0 rfl) aE
   obtain ⟨rfl,_,rfl⟩:=sl3 he
   obtain ⟨aR,aS,af⟩:=rk_Code_ (hm.ow_rep 0 rfl) aE
   have hL1_1:=rep_slice_len (hm.ow_rep 0 rfl)
   refine gI st_26 aL (idx_lt2 aE hL1_1) rfl (gF fo_44_0 rfl (gf0 rfl (λa hf=>e_setElemR (x1:=((⟨aA.2,aB.regs,aB.blocks⟩:Code_):Code_)) (j:=0) (vs:=[nV aA.2]) 0 hf hm rfl aE aS rfl (λF h ho=>(λ_=>own_fst_map (α:=Int) (β:=Int × (List Block_)) (cs:=[nV aB.params]) (cs':=[nV aA.2]) (ds:=[nV aB.regs,aR]) rfl (λ_ _=>Flat.own_iff.2 rfl)) F ho) rfl sizeOf3 rfl rfl rfl (one_cons rfl one_nil) rfl) ?_))
   rintro _ w hm
   have aJ:=List.getElem?_set_self (a:=((⟨aA.2,aB.regs,aB.blocks⟩:Code_):Code_)) (idx_lt aE)
   refine gE (gS (gR (gM rfl (gB rfl (gA rfl (gE (gS (gR (gM rfl (gM rfl (gM rfl ?_)))))))))))
   obtain ⟨_,_,aM,aT⟩:=ro_get' (hm.ow_rep 0 rfl) aJ
   obtain ⟨_,_,rfl,rfl,_,_,rfl,rfl,aN⟩:=aT
   obtain ⟨aF,rfl,-⟩:=id aN
   replace aN:GT.rep (hp _) [aF] aB.blocks:=aN
   replace aM:CellsAt (hp _) aH (aI+(aD).toNat*3) [nV aA.2,nV aB.regs,aF]:=aM
   have hL1_2:=rep_slice_len (hm.ow_rep 0 rfl)
   refine gI st_26 aL (idx_lt2 aJ hL1_2) rfl (gF fo_44_1 rfl (gf0 rfl (λa hf=>e_setElemR (x1:=((⟨aA.2,w64 (aA.2+1),aB.blocks⟩:Code_):Code_)) (j:=1) (vs:=[nV (w64 (aA.2+1))]) 0 hf hm rfl aJ aM rfl (λF h ho=>(λ_=>own_snd_map (α:=Int) (β:=Int × (List Block_)) (cs:=[nV aA.2]) (ds:=[nV aB.regs,aF]) (ds':=[nV (w64 (aA.2+1)),aF]) rfl (λ_=>own_fst_map (α:=Int) (β:=(List Block_)) (cs:=[nV aB.regs]) (cs':=[nV (w64 (aA.2+1))]) (ds:=[aF]) rfl (λ_ _=>Flat.own_iff.2 rfl))) F ho) rfl sizeOf3 rfl rfl rfl (one_cons rfl one_nil) rfl) ?_))
   rintro _ w hm
   have aO:=List.getElem?_set_self (a:=((⟨aA.2,w64 (aA.2+1),aB.blocks⟩:Code_):Code_)) (idx_lt aJ)
   refine gE (gS (gR (gM rfl (gB rfl (gA rfl (gE (gR (gM rfl (gM rfl ?_)))))))))
   obtain ⟨_,_,aK,aV⟩:=ro_get' (hm.ow_rep 0 rfl) aO
   obtain ⟨_,_,rfl,rfl,_,_,rfl,rfl,aP⟩:=aV
   obtain ⟨aC,rfl,-⟩:=id aP
   replace aP:GT.rep (hp _) [aC] aB.blocks:=aP
   replace aK:CellsAt (hp _) aH (aI+(aD).toNat*3) [nV aA.2,nV (w64 (aA.2+1)),aC]:=aK
   have hL1_3:=rep_slice_len (hm.ow_rep 0 rfl)
   refine gI st_26 aL (idx_lt2 aO hL1_3) rfl (gF fo_44_2 rfl (gY (yl isAgg42 (aK.cell (j:=2) rfl) rfl) (gM rfl ?_)))
   replace hm:Mem w0 hz _ [ow [aC] aB.blocks,hole [sV aH aI a_.length aG] [aC] (λ(y:List Block_)=>(((aA.1.set (aD).toNat (⟨aA.2,aB.regs,aB.blocks⟩:Code_)).set (aD).toNat (⟨aA.2,w64 (aA.2+1),aB.blocks⟩:Code_)):List Code_).set (aD).toNat (⟨aA.2,w64 (aA.2+1),y⟩:Code_))]:=hm.open 0 rfl (foc_elem aO aK rfl (show FocH (α:=Code_) _ _ (⟨aA.2,w64 (aA.2+1),aB.blocks⟩:Code_) [aC] aB.blocks (λy=>(⟨aA.2,w64 (aA.2+1),y⟩:Code_)) from (foc_snd (α:=Int) (β:=Int × (List Block_)) (cs:=[nV aA.2]) (ds:=[nV (w64 (aA.2+1)),aC]) (v:=[aC]) (inner:=aB.blocks) (x:=(w64 (aA.2+1),aB.blocks)) (z:=aA.2) (put:=λ(y:List Block_)=>(w64 (aA.2+1),y)) rfl (foc_snd (α:=Int) (β:=(List Block_)) (cs:=[nV (w64 (aA.2+1))]) (ds:=[aC]) (v:=[aC]) (inner:=aB.blocks) (x:=aB.blocks) (z:=w64 (aA.2+1)) (put:=λ(y:List Block_)=>y) rfl (foc_id [aC] aB.blocks)))))
   obtain ⟨aW,hle,hm1,hsub,aX⟩:=hm.take2 (L1:=[ow [aC] aB.blocks]) (L2:=[hole [sV aH aI a_.length aG] [aC] (λ(y:List Block_)=>(((aA.1.set (aD).toNat (⟨aA.2,aB.regs,aB.blocks⟩:Code_)).set (aD).toNat (⟨aA.2,w64 (aA.2+1),aB.blocks⟩:Code_)):List Code_).set (aD).toNat (⟨aA.2,w64 (aA.2+1),y⟩:Code_))]) [0] [1] (by decide) rfl rfl
   refine gCg rfl call64 (laws_markBlockS_ok _ aW aB.blocks aC (w64 ((w64 (aA.2+1))+1)) hm1 ) ?_
   rintro ah ai aj w ⟨rfl,hB⟩
   replace hm:=aX _ _ hB;clear hB
   replace hm:=(hm.shut 1 0 (by decide) rfl rfl).pk (L':=[_]) [1] rfl rfl
   exact gA rfl (gE (gR (gM rfl (gP (by omega) (by omega) rfl (gA rfl (gE (gze hm [0] rfl)))))))
  repeat clear hm
  intro ak al w hm am an
  refine gS (gS (gR (gM rfl (gM rfl ?_))))
  have ao:=rep_len (hm.ow_rep 0 rfl)
  exact gY (yV st_26 rfl) (gB rfl (gE (go _ 9 rfl (decide_eq_false (by omega)) (gcf rfl (gXt (gHh (gS (gR (gM rfl (gA rfl (gE (gRt (gr1 results30 rfl ⟨rfl,hm.pk [0] rfl rfl⟩)))))))))))))
theorem laws_markUnit_ok (w0 : World) (hz : Heap) (a_ : Unit_) (v1 : Value) (k_ : Int) (hm0 : Mem w0 hz w0 [ow [v1] a_.codes]) :
    ConM Tryz.prog 11 [(.agg #[v1]),nV k_] w0 (laws_markUnit a_ k_) λr v w'=>v=(nV r.1)∧Mem w0 hz w' [ow [v1] r.2]:=by
  unfold laws_markUnit
  refine gcon func11 rfl λr=>?_
  have hm:=hm0
  refine gS (gR (gBx hm rfl λaA w hm=>gA rfl (gE (gS (gR (gF fo_28_0 rfl (gL hm 0 isAgg26 rfl (gM rfl ?_))))))))
  obtain ⟨aB,hle,hm1,hsub,aC⟩:=hm.take2 (L1:=[ow [v1] a_.codes]) (L2:=[blk aA [v1] 28]) [1] [0] (by decide) rfl rfl
  refine gCg rfl call30 (laws_markCodeS_ok _ aB a_.codes v1 k_ hm1 ) ?_
  rintro aD aE aF w ⟨rfl,hB⟩
  replace hm:=aC _ _ hB;clear hB
  exact gA rfl (gE (gS (gR (gM rfl (gA rfl (gE (gRt (gr1 results11 rfl ⟨rfl,hm.pk [0] rfl rfl⟩))))))))
theorem laws_heldIntS_ok (w0 : World) (a_ : List Int) (v1 : Value) (h1 : GT.rep (hp w0) [v1] a_) (k_ : Int) :
    ConM Tryz.prog 103 [v1,nV k_] w0 (laws_heldIntS a_ k_) λr v w'=>v=(nV r)∧Below w0.heap.size w0 w':=by
  unfold laws_heldIntS
  refine gcon func103 rfl λr=>?_
  have hm:=Mem.start w0
  refine gS (gR (gA rfl (gE (gS (gS (gR (gA rfl (gE (gBk (gNf hm (λaA aB=>[(0,v1),(1,(nV aB)),(5,(nV aA))]) (λaA aB=>[]) [] rfl ?_ ?_))))))))))
  ·repeat clear hm
   intro aI aD aA aB w hm aJ aK aL aE
   refine gS (gS (gR (gM rfl (gM rfl ?_))))
   obtain ⟨aM,aN,rfl,aO⟩:=ro_slice h1
   refine gY (yV st_47 rfl) (gB rfl (gE (go _ 9 rfl (decide_eq_true (by omega)) (gct rfl (gSk (gS (gBk (gS (gS (gR (gM rfl (gM rfl (gg λaF aG aC=>?_)))))))))))))
   obtain ⟨aP,aQ,aR,he⟩:=idx_form h1 aC
   obtain ⟨rfl,_,rfl⟩:=sl3 he
   refine gI st_47 aG (idx_lt aC) rfl (gY (yl isAgg3 ((flat_cells (cs:=[nV aF]) (hm.now h1) aC rfl).cell (j:=0) rfl) rfl) (gM rfl (gB rfl (gE (gsd 17 rfl (λaH=>?_) λaH=>?_)))))
   ·exact gct rfl (gS (gR (gA rfl (gE (gRt (gLr aE aD (gr1 results103 rfl ⟨rfl,hm.below⟩)))))))
   exact gcf rfl (gSk (gR (gM rfl (gB rfl (gA rfl (gE (gR (gM rfl (gP (by omega) (by omega) rfl (gA rfl (gE (gze hm [] rfl))))))))))))
  repeat clear hm
  intro aS aT w hm aV aW
  refine gS (gS (gR (gM rfl (gM rfl ?_))))
  obtain ⟨aX,aY,rfl,aZ⟩:=ro_slice h1
  exact gY (yV st_47 rfl) (gB rfl (gE (go _ 9 rfl (decide_eq_false (by omega)) (gcf rfl (gXt (gHh (gS (gR (gM rfl (gA rfl (gE (gRt (gr1 results103 rfl ⟨rfl,hm.below⟩)))))))))))))
theorem laws_heldPhiS_ok (w0 : World) (a_ : List Phi_) (v1 : Value) (h1 : GT.rep (hp w0) [v1] a_) (k_ : Int) :
    ConM Tryz.prog 101 [v1,nV k_] w0 (laws_heldPhiS a_ k_) λr v w'=>v=(nV r)∧Below w0.heap.size w0 w':=by
  unfold laws_heldPhiS
  refine gcon func101 rfl λr=>?_
  have hm:=Mem.start w0
  refine gS (gR (gA rfl (gE (gS (gS (gR (gA rfl (gE (gBk (gNf hm (λaC aA=>[(0,v1),(1,(nV aA)),(5,(nV aC))]) (λaC aA=>[]) [] rfl ?_ ?_))))))))))
  ·repeat clear hm
   intro aM aD aC aA w hm aN aO aP aE
   refine gS (gS (gR (gM rfl (gM rfl ?_))))
   obtain ⟨aQ,aR,rfl,aS⟩:=ro_slice h1
   refine gY (yV st_45 rfl) (gB rfl (gE (go _ 9 rfl (decide_eq_true (by omega)) (gct rfl (gSk (gS (gBk (gS (gS (gR (gM rfl (gM rfl (gg λaH aF aB=>?_)))))))))))))
   obtain ⟨aT,aV,aW,he⟩:=idx_form' h1 aB
   obtain ⟨rfl,_,rfl⟩:=sl3 he
   obtain ⟨aI,aG,aJ⟩:=rk_Phi_ h1 aB
   refine gI st_45 aF (idx_lt aB) rfl (gF fo_105_0 rfl (gY (yl isAgg3 ((aG.mono hm.lez).cell (j:=0) rfl) rfl) (gM rfl (gB rfl (gE (gsd 18 rfl (λaK=>?_) λaK=>?_))))))
   ·exact gct rfl (gS (gR (gA rfl (gE (gRt (gLr aE aD (gr1 results101 rfl ⟨rfl,hm.below⟩)))))))
   refine gcf rfl (gSk (gS (gR (gM rfl (gB rfl (gA rfl (gE (gS (gR (gM rfl (gM rfl (gI st_45 aF (idx_lt aB) rfl (gF fo_105_1 rfl (gY (yl isAgg47 ((aG.mono hm.lez).cell (j:=1) rfl) rfl) (gM rfl (gC hm rfl call103 (laws_heldIntS_ok _ aH.args aI (hm.now aJ) (w64 (aA+1))) λaX aY w hm=>gA rfl (gE (gS (gR (gM rfl (gB rfl (gE (gsd 29 rfl (λaL=>?_) λaL=>?_)))))))))))))))))))))))
   ·exact gct rfl (gS (gR (gA rfl (gE (gRt (gLr aE aD (gr1 results101 rfl ⟨rfl,hm.below⟩)))))))
   exact gcf rfl (gSk (gR (gM rfl (gP (by omega) (by omega) rfl (gA rfl (gE (gze hm [] rfl)))))))
  repeat clear hm
  intro aZ aa w hm ab ac
  refine gS (gS (gR (gM rfl (gM rfl ?_))))
  obtain ⟨ae,af,rfl,ah⟩:=ro_slice h1
  exact gY (yV st_45 rfl) (gB rfl (gE (go _ 9 rfl (decide_eq_false (by omega)) (gcf rfl (gXt (gHh (gS (gR (gM rfl (gA rfl (gE (gRt (gr1 results101 rfl ⟨rfl,hm.below⟩)))))))))))))
theorem laws_heldInsS_ok (w0 : World) (a_ : List Ins_) (v1 : Value) (h1 : GT.rep (hp w0) [v1] a_) (k_ : Int) :
    ConM Tryz.prog 102 [v1,nV k_] w0 (laws_heldInsS a_ k_) λr v w'=>v=(nV r)∧Below w0.heap.size w0 w':=by
  unfold laws_heldInsS
  refine gcon func102 rfl λr=>?_
  have hm:=Mem.start w0
  refine gS (gR (gA rfl (gE (gS (gS (gR (gA rfl (gE (gBk (gNf hm (λaG aB=>[(0,v1),(1,(nV aB)),(5,(nV aG))]) (λaG aB=>[]) [] rfl ?_ ?_))))))))))
  ·repeat clear hm
   intro aO aC aG aB w hm aP aQ aR aD
   refine gS (gS (gR (gM rfl (gM rfl ?_))))
   obtain ⟨aS,aT,rfl,aV⟩:=ro_slice h1
   refine gY (yV st_46 rfl) (gB rfl (gE (go _ 9 rfl (decide_eq_true (by omega)) (gct rfl (gSk (gS (gBk (gS (gS (gR (gM rfl (gM rfl (gg λaH aE aA=>?_)))))))))))))
   obtain ⟨aW,aX,aY,he⟩:=idx_form' h1 aA
   obtain ⟨rfl,_,rfl⟩:=sl3 he
   obtain ⟨aI,aF,aJ⟩:=rk_Ins_ h1 aA
   refine gI st_46 aE (idx_lt aA) rfl (gF fo_51_0 rfl (gY (yl isAgg3 ((aF.mono hm.lez).cell (j:=0) rfl) rfl) (gM rfl (gB rfl (gE (gsd 18 rfl (λaK=>?_) λaK=>?_))))))
   ·exact gct rfl (gS (gR (gA rfl (gE (gRt (gLr aD aC (gr1 results102 rfl ⟨rfl,hm.below⟩)))))))
   refine gcf rfl (gSk (gS (gR (gM rfl (gB rfl (gA rfl (gE (gS (gS (gR (gM rfl (gM rfl (gI st_46 aE (idx_lt aA) rfl (gF fo_51_1 rfl (gY (yl isAgg3 ((aF.mono hm.lez).cell (j:=1) rfl) rfl) (gM rfl (gB rfl (gE (gsd 27 rfl (λaL=>?_) λaL=>?_)))))))))))))))))))
   ·exact gct rfl (gS (gR (gA rfl (gE (gRt (gLr aD aC (gr1 results102 rfl ⟨rfl,hm.below⟩)))))))
   refine gcf rfl (gSk (gS (gR (gM rfl (gB rfl (gA rfl (gE (gS (gR (gM rfl (gM rfl (gI st_46 aE (idx_lt aA) rfl (gF fo_51_2 rfl (gY (yl isAgg47 ((aF.mono hm.lez).cell (j:=2) rfl) rfl) (gM rfl (gC hm rfl call103 (laws_heldIntS_ok _ aH.args aI (hm.now aJ) (w64 ((w64 (aB+1))+1))) λaZ aa w hm=>gA rfl (gE (gS (gS (gR (gM rfl (gB rfl (gE (gsd 38 rfl (λaM=>?_) λaM=>?_))))))))))))))))))))))))
   ·exact gct rfl (gS (gR (gA rfl (gE (gRt (gLr aD aC (gr1 results102 rfl ⟨rfl,hm.below⟩)))))))
   refine gcf rfl (gSk (gS (gS (gR (gM rfl (gM rfl (gI st_46 aE (idx_lt aA) rfl (gF fo_51_3 rfl (gY (yl isAgg3 ((aF.mono hm.lez).cell (j:=3) rfl) rfl) (gM rfl (gB rfl (gE (gsd 45 rfl (λaN=>?_) λaN=>?_)))))))))))))
   ·exact gct rfl (gS (gR (gA rfl (gE (gRt (gLr aD aC (gr1 results102 rfl ⟨rfl,hm.below⟩)))))))
   exact gcf rfl (gSk (gR (gM rfl (gB rfl (gA rfl (gE (gR (gM rfl (gP (by omega) (by omega) rfl (gA rfl (gE (gze hm [] rfl))))))))))))
  repeat clear hm
  intro ab ac w hm ae af
  refine gS (gS (gR (gM rfl (gM rfl ?_))))
  obtain ⟨ah,ai,rfl,aj⟩:=ro_slice h1
  exact gY (yV st_46 rfl) (gB rfl (gE (go _ 9 rfl (decide_eq_false (by omega)) (gcf rfl (gXt (gHh (gS (gR (gM rfl (gA rfl (gE (gRt (gr1 results102 rfl ⟨rfl,hm.below⟩)))))))))))))
theorem laws_heldBlockS_ok (w0 : World) (a_ : List Block_) (v1 : Value) (h1 : GT.rep (hp w0) [v1] a_) (k_ : Int) :
    ConM Tryz.prog 65 [v1,nV k_] w0 (laws_heldBlockS a_ k_) λr v w'=>v=(nV r)∧Below w0.heap.size w0 w':=by
  unfold laws_heldBlockS
  refine gcon func65 rfl λr=>?_
  have hm:=Mem.start w0
  refine gS (gR (gA rfl (gE (gS (gS (gR (gA rfl (gE (gBk (gNf hm (λaG aF=>[(0,v1),(1,(nV aF)),(5,(nV aG))]) (λaG aF=>[]) [] rfl ?_ ?_))))))))))
  ·repeat clear hm
   intro aW aB aG aF w hm aX aY aZ aC
   refine gS (gS (gR (gM rfl (gM rfl ?_))))
   obtain ⟨aa,ab,rfl,ac⟩:=ro_slice h1
   refine gY (yV st_42 rfl) (gB rfl (gE (go _ 9 rfl (decide_eq_true (by omega)) (gct rfl (gSk (gS (gBk (gS (gR (gM rfl (gM rfl (gg λaH aD aA=>?_))))))))))))
   obtain ⟨ae,af,ah,he⟩:=idx_form' h1 aA
   obtain ⟨rfl,_,rfl⟩:=sl3 he
   obtain ⟨aI,aJ,aK,aE,aL,aM,aN⟩:=rk_Block_ h1 aA
   refine gI st_42 aD (idx_lt aA) rfl (gF fo_49_0 rfl (gY (yl isAgg45 ((aE.mono hm.lez).cell (j:=0) rfl) rfl) (gM rfl (gC hm rfl call101 (laws_heldPhiS_ok _ aH.phis aI (hm.now aL) aF) λaO ai w hm=>gA rfl (gE (gS (gS (gR (gM rfl (gB rfl (gE (gsd 20 rfl (λaP=>?_) λaP=>?_))))))))))))
   ·exact gct rfl (gS (gR (gA rfl (gE (gRt (gLr aC aB (gr1 results65 rfl ⟨rfl,hm.below⟩)))))))
   refine gcf rfl (gSk (gS (gR (gM rfl (gM rfl (gI st_42 aD (idx_lt aA) rfl (gF fo_49_1 rfl (gY (yl isAgg46 ((aE.mono hm.lez).cell (j:=1) rfl) rfl) (gM rfl (gC hm rfl call102 (laws_heldInsS_ok _ aH.ins aJ (hm.now aM) aO) λaQ aj w hm=>gA rfl (gE (gS (gS (gR (gM rfl (gB rfl (gE (gsd 29 rfl (λaR=>?_) λaR=>?_))))))))))))))))))
   ·exact gct rfl (gS (gR (gA rfl (gE (gRt (gLr aC aB (gr1 results65 rfl ⟨rfl,hm.below⟩)))))))
   refine gcf rfl (gSk (gS (gS (gR (gM rfl (gM rfl (gI st_42 aD (idx_lt aA) rfl (gF fo_49_2 rfl (gY (yl isAgg3 ((aE.mono hm.lez).cell (j:=2) rfl) rfl) (gM rfl (gB rfl (gE (gsd 36 rfl (λaS=>?_) λaS=>?_)))))))))))))
   ·exact gct rfl (gS (gR (gA rfl (gE (gRt (gLr aC aB (gr1 results65 rfl ⟨rfl,hm.below⟩)))))))
   refine gcf rfl (gSk (gS (gR (gM rfl (gB rfl (gA rfl (gE (gS (gS (gR (gM rfl (gM rfl (gI st_42 aD (idx_lt aA) rfl (gF fo_49_3 rfl (gY (yl isAgg3 ((aE.mono hm.lez).cell (j:=3) rfl) rfl) (gM rfl (gB rfl (gE (gsd 45 rfl (λaT=>?_) λaT=>?_)))))))))))))))))))
   ·exact gct rfl (gS (gR (gA rfl (gE (gRt (gLr aC aB (gr1 results65 rfl ⟨rfl,hm.below⟩)))))))
   refine gcf rfl (gSk (gS (gR (gM rfl (gB rfl (gA rfl (gE (gS (gR (gM rfl (gM rfl (gI st_42 aD (idx_lt aA) rfl (gF fo_49_4 rfl (gY (yl isAgg47 ((aE.mono hm.lez).cell (j:=4) rfl) rfl) (gM rfl (gC hm rfl call103 (laws_heldIntS_ok _ aH.next_ aK (hm.now aN) (w64 ((w64 (aQ+1))+1))) λak al w hm=>gA rfl (gE (gS (gR (gM rfl (gB rfl (gE (gsd 56 rfl (λaV=>?_) λaV=>?_)))))))))))))))))))))))
   ·exact gct rfl (gS (gR (gA rfl (gE (gRt (gLr aC aB (gr1 results65 rfl ⟨rfl,hm.below⟩)))))))
   exact gcf rfl (gSk (gR (gM rfl (gP (by omega) (by omega) rfl (gA rfl (gE (gze hm [] rfl)))))))
  repeat clear hm
  intro am an w hm ao ap
  refine gS (gS (gR (gM rfl (gM rfl ?_))))
  obtain ⟨aq,ar,rfl,au⟩:=ro_slice h1
  exact gY (yV st_42 rfl) (gB rfl (gE (go _ 9 rfl (decide_eq_false (by omega)) (gcf rfl (gXt (gHh (gS (gR (gM rfl (gA rfl (gE (gRt (gr1 results65 rfl ⟨rfl,hm.below⟩)))))))))))))
theorem laws_heldCodeS_ok (w0 : World) (a_ : List Code_) (v1 : Value) (h1 : GT.rep (hp w0) [v1] a_) (k_ : Int) :
    ConM Tryz.prog 31 [v1,nV k_] w0 (laws_heldCodeS a_ k_) λr v w'=>v=(nV r)∧Below w0.heap.size w0 w':=by
  unfold laws_heldCodeS
  refine gcon func31 rfl λr=>?_
  have hm:=Mem.start w0
  refine gS (gR (gA rfl (gE (gS (gS (gR (gA rfl (gE (gBk (gNf hm (λaC aB=>[(0,v1),(1,(nV aB)),(5,(nV aC))]) (λaC aB=>[]) [] rfl ?_ ?_))))))))))
  ·repeat clear hm
   intro aN aD aC aB w hm aO aP aQ aE
   refine gS (gS (gR (gM rfl (gM rfl ?_))))
   obtain ⟨aR,aS,rfl,aT⟩:=ro_slice h1
   refine gY (yV st_26 rfl) (gB rfl (gE (go _ 9 rfl (decide_eq_true (by omega)) (gct rfl (gSk (gS (gBk (gS (gS (gR (gM rfl (gM rfl (gg λaH aF aA=>?_)))))))))))))
   obtain ⟨aV,aW,aX,he⟩:=idx_form' h1 aA
   obtain ⟨rfl,_,rfl⟩:=sl3 he
   obtain ⟨aI,aG,aJ⟩:=rk_Code_ h1 aA
   refine gI st_26 aF (idx_lt aA) rfl (gF fo_44_0 rfl (gY (yl isAgg3 ((aG.mono hm.lez).cell (j:=0) rfl) rfl) (gM rfl (gB rfl (gE (gsd 18 rfl (λaK=>?_) λaK=>?_))))))
   ·exact gct rfl (gS (gR (gA rfl (gE (gRt (gLr aE aD (gr1 results31 rfl ⟨rfl,hm.below⟩)))))))
   refine gcf rfl (gSk (gS (gR (gM rfl (gB rfl (gA rfl (gE (gS (gS (gR (gM rfl (gM rfl (gI st_26 aF (idx_lt aA) rfl (gF fo_44_1 rfl (gY (yl isAgg3 ((aG.mono hm.lez).cell (j:=1) rfl) rfl) (gM rfl (gB rfl (gE (gsd 27 rfl (λaL=>?_) λaL=>?_)))))))))))))))))))
   ·exact gct rfl (gS (gR (gA rfl (gE (gRt (gLr aE aD (gr1 results31 rfl ⟨rfl,hm.below⟩)))))))
   refine gcf rfl (gSk (gS (gR (gM rfl (gB rfl (gA rfl (gE (gS (gR (gM rfl (gM rfl (gI st_26 aF (idx_lt aA) rfl (gF fo_44_2 rfl (gY (yl isAgg42 ((aG.mono hm.lez).cell (j:=2) rfl) rfl) (gM rfl (gC hm rfl call65 (laws_heldBlockS_ok _ aH.blocks aI (hm.now aJ) (w64 ((w64 (aB+1))+1))) λaY aZ w hm=>gA rfl (gE (gS (gR (gM rfl (gB rfl (gE (gsd 38 rfl (λaM=>?_) λaM=>?_)))))))))))))))))))))))
   ·exact gct rfl (gS (gR (gA rfl (gE (gRt (gLr aE aD (gr1 results31 rfl ⟨rfl,hm.below⟩)))))))
   exact gcf rfl (gSk (gR (gM rfl (gP (by omega) (by omega) rfl (gA rfl (gE (gze hm [] rfl)))))))
  repeat clear hm
  intro aa ab w hm ac ae
  refine gS (gS (gR (gM rfl (gM rfl ?_))))
  obtain ⟨af,ah,rfl,ai⟩:=ro_slice h1
  exact gY (yV st_26 rfl) (gB rfl (gE (go _ 9 rfl (decide_eq_false (by omega)) (gcf rfl (gXt (gHh (gS (gR (gM rfl (gA rfl (gE (gRt (gr1 results31 rfl ⟨rfl,hm.below⟩)))))))))))))
theorem laws_heldUnit_ok (w0 : World) (a_ : Unit_) (v1 : Value) (h1 : GT.rep (hp w0) [v1] a_.codes) (k_ : Int) :
    ConM Tryz.prog 12 [(.agg #[v1]),nV k_] w0 (laws_heldUnit a_ k_) λr v w'=>v=(nV r)∧Below w0.heap.size w0 w':=by
  unfold laws_heldUnit
  refine gcon func12 rfl λr=>?_
  have hm:=Mem.start w0
  refine gS (gR (gBx hm rfl λaB w hm=>gA rfl (gE (gS (gR (gF fo_28_0 rfl (gL hm 0 isAgg26 rfl (gM rfl (gC hm rfl call31 (laws_heldCodeS_ok _ a_.codes v1 (hm.now h1) k_) λaC aD w hm=>gA rfl (gE (gS (gS (gR (gM rfl (gB rfl (gE (gsd 10 rfl (λaA=>?_) λaA=>?_)))))))))))))))))
  ·exact gct rfl (gS (gR (gA rfl (gE (gRt (gr1 results12 rfl ⟨rfl,hm.below⟩))))))
  exact gcf rfl (gSk (gS (gR (gM rfl (gA rfl (gE (gRt (gr1 results12 rfl ⟨rfl,hm.below⟩))))))))
theorem laws_FnExactInlineSmall_ok (w0 : World) (aU : Unit_) (v1 : Value) (h1 : GT.rep (hp w0) [v1] aU.codes) (aMost : Int) :
    ConM Tryz.prog 4 [(.agg #[v1]),nV aMost] w0 (laws_FnExactInlineSmall aU aMost) λr v w'=>v=(.bool (r))∧Below w0.heap.size w0 w':=by
  unfold laws_FnExactInlineSmall
  refine gcon func4 rfl λr=>?_
  have hm:=Mem.start w0
  refine gS (gR (gBx hm rfl λaG w hm=>gA rfl (gE (gS (gR (gA rfl (gE (gS (gR (gY (yn (hm.blk_at 0 rfl) isAgg24 sizeOf24 rfl) (gM rfl (gC hm rfl call6 (laws_szUnit_ok _ aU v1 (hm.now h1) 1048576) λau av w hm=>gA rfl (gE (gS (gS (gR (gM rfl (gB rfl (gE (gsd 20 rfl (λaQ=>?_) λaQ=>?_))))))))))))))))))))
  ·exact gct rfl (gS (gR (gA rfl (gE (gRt (gr1 results4 rfl ⟨rfl,hm.below⟩))))))
  refine gcf rfl (gSk (gS (gR (gY (yn (hm.blk_at 0 rfl) isAgg24 sizeOf24 rfl) (gCg rfl call8 (laws_toUnit_ok _ aU v1 (hm.now h1)) ?_)))))
  rintro aR aw ax w ⟨aS,rfl,hB⟩
  replace hm:=hm.give hB;clear hB
  refine gM rfl (gCg rfl call13 (spec_InlineSmall_ok _ aR aS (hm.ow_rep 0 rfl) aMost) ?_)
  rintro aC ay az w ⟨aB,rfl,hB⟩
  replace hm:=hm.give hB;clear hB
  refine gM rfl (gX rfl (gX rfl (gAl hm zeroValue28 rfl λaH w hm=>gSN hm 0 sizeOf28 (one_cons (rep_one (hm.ow_rep 1 rfl)) one_nil) rfl λw hm=>gA rfl (gE (gS (gR (gY (yn (hm.blk_at 3 rfl) isAgg24 sizeOf24 rfl) (gCg rfl call8 (laws_toUnit_ok _ aU v1 (hm.now h1)) ?_))))))))
  rintro aI bA bB w ⟨aD,rfl,hB⟩
  replace hm:=hm.give hB;clear hB
  refine gAl hm zeroValue28 rfl λaJ w hm=>gSN hm 0 sizeOf28 (one_cons (rep_one (hm.ow_rep 1 rfl)) one_nil) rfl λw hm=>gE (gS (gR (gY (yn (hm.blk_at 0 rfl) isAgg28 sizeOf28 rfl) (gM rfl (gCg rfl call14 (impl_InlineSmall_ok _ aI aD (hm.ow_rep 1 rfl) aMost) ?_)))))
  rintro aE bC bD w ⟨aA,rfl,hB⟩
  replace hm:=hm.give hB;clear hB
  refine gM rfl (gX rfl (gX rfl (gAl hm zeroValue28 rfl λaF w hm=>gSN hm 0 sizeOf28 (one_cons (rep_one (hm.ow_rep 1 rfl)) one_nil) rfl λw hm=>gA rfl (gE (gS (gS (gJ hm (λaK=>[(1,(nV aMost)),(2,(pV aG)),(6,(pV aH)),(7,(.bool (aC.2))),(8,(pV aJ)),(9,(pV aF)),(10,(.bool (aE.2))),(44,(.bool (aK)))]) (λaK=>[blk aG [v1] 24,blk aH [aB] 28,ow [aB] aC.1.codes,blk aJ [aD] 28,ow [aD] aI.codes,blk aF [aA] 28,ow [aA] aE.1.codes]) (λaK=>?_) ?_)))))))
  ·refine gR (gY (yn (hm.blk_at 0 rfl) isAgg28 sizeOf28 rfl) (gY (yn (hm.blk_at 4 rfl) isAgg28 sizeOf28 rfl) (gC hm rfl call10 (laws_eqUnit_ok _ aE.1 aA (hm.ow_rep 1 rfl) aC.1 aB (hm.ow_rep 5 rfl)) fun bE bF w hm => gN rfl (gM rfl (gsn 40 rfl (fun aT => ?_) fun aT => ?_)))))
   ·exact gO rfl (gO rfl (gO rfl (gKt rfl (gE (gz hm [7,4,5,2,3,0,1] rfl)))))
   exact gM rfl (gM rfl (gY (yG rfl (y_neqb underlying4 rfl rfl rfl)) (gKf rfl (gE (gz hm [7,4,5,2,3,0,1] rfl)))))
  repeat clear hm
  intro aK w hm
  refine gs 44 rfl (λaV=>?_) λaV=>?_
  ·exact gct rfl (gS (gR (gA rfl (gE (gRt (gr1 results4 rfl ⟨rfl,hm.below⟩))))))
  refine gcf rfl (gSk (gS (gS (gW (.q 0 (.e 1 (.e 2 (.e 3 (.p 4 .fin) .nil) .nil) .nil)) [1,2] [4] hm [0,1,2,3,4,5,6] [blk aG [v1] 24,blk aH [aB] 28,ow [aB] aC.1.codes,blk aJ [aD] 28,ow [aD] aI.codes,blk aF [aA] 28,ow [aA] aE.1.codes] rfl mxo (by kernel_rfl) (λ_ _ _ h=>h.2) λw hm hS=>tQ rfl hS (λw hm=>yn (hm.blk_at 3 rfl) isAgg28 sizeOf28 rfl) (tO (tY rfl (yn (hm.blk_at 0 rfl) isAgg24 sizeOf24 rfl) (tAs hS (tO (gb λaO aW=>tf rfl rfl (λa hf=>e_call hf rfl call8 rfl (laws_toUnit_ok _ aU v1 (hm.now h1) _ aW)) ?_)))))))))
  rintro bG w ⟨aP,rfl,hB⟩
  replace hm:=hm.give hB;clear hB
  refine tAk hm [1,2,3,4,5,6,7] rfl λhS=>tO (gb λbH aX=>tf rfl rfl (λa hf=>e_call hf rfl call10 rfl (laws_eqUnit_ok _ aI aD (hm.ow_rep 5 rfl) aO aP (hm.ow_rep 0 rfl) _ aX)) ?_)
  rintro bJ w ⟨rfl,hB⟩
  replace hm:=hm.below' hB;clear hB
  refine tAn rfl (tP rfl (λw=>yN rfl) (tE (gsn 49 rfl (λaY=>?_) λaY=>?_)))
  ·exact gct rfl (gS (gR (gA rfl (gE (gRt (gr1 results4 rfl ⟨rfl,hm.below⟩))))))
  refine gcf rfl (gSk (gS (gR (gA rfl (gE (gS (gR (gY (yn (hm.blk_at 4 rfl) isAgg28 sizeOf28 rfl) (gM rfl ?_)))))))))
  obtain ⟨aZ,hle,hm1,hsub,aa⟩:=hm.take2 (L1:=[ow [aD] aI.codes]) (L2:=[ow [aP] aO.codes,blk aG [v1] 24,blk aH [aB] 28,ow [aB] aC.1.codes,blk aJ [aD] 28,blk aF [aA] 28,ow [aA] aE.1.codes]) [5] [0,1,2,3,4,6,7] (by decide) rfl rfl
  refine gCg rfl call11 (laws_markUnit_ok _ aZ aI aD 1 hm1 ) ?_
  rintro bK bL bM w ⟨rfl,hB⟩
  replace hm:=aa _ _ hB;clear hB
  refine gA rfl (gE (gS (gS (gJ hm (λaL=>[(1,(nV aMost)),(2,(pV aG)),(6,(pV aH)),(7,(.bool (aC.2))),(9,(pV aF)),(65,(.bool (aL)))]) (λaL=>[blk aG [v1] 24,blk aH [aB] 28,ow [aB] aC.1.codes,blk aF [aA] 28,ow [aA] aE.1.codes]) (λaL=>?_) ?_))))
  ·refine gR (gM rfl (gB rfl (gM rfl (gsd 55 rfl (fun ab => ?_) fun ab => ?_))))
   ·exact gO rfl (gO rfl (gO rfl (gO rfl (gKt rfl (gM rfl (gO rfl (gO rfl (gO rfl (gKt rfl (gE (gz hm [2,3,4,6,7] rfl)))))))))))
   refine gY (yn (hm.blk_at 6 rfl) isAgg28 sizeOf28 rfl) (gY (yn (hm.blk_at 3 rfl) isAgg28 sizeOf28 rfl) (gC hm rfl call10 (laws_eqUnit_ok _ aE.1 aA (hm.ow_rep 7 rfl) aC.1 aB (hm.ow_rep 4 rfl)) λbN bO w hm=>gN rfl (gKf rfl (gM rfl (gsn 61 rfl (λac=>?_) λac=>?_)))))
   ·exact gO rfl (gO rfl (gO rfl (gKt rfl (gE (gz hm [2,3,4,6,7] rfl)))))
   exact gM rfl (gM rfl (gY (yG rfl (y_neqb underlying4 rfl rfl rfl)) (gKf rfl (gE (gz hm [2,3,4,6,7] rfl)))))
  repeat clear hm
  intro aL w hm
  refine gs 65 rfl (λae=>?_) λae=>?_
  ·exact gct rfl (gS (gR (gA rfl (gE (gRt (gr1 results4 rfl ⟨rfl,hm.below⟩))))))
  refine gcf rfl (gSk (gS (gR (gA rfl (gE (gS (gR (gY (yn (hm.blk_at 3 rfl) isAgg28 sizeOf28 rfl) (gM rfl ?_)))))))))
  obtain ⟨af,hle,hm1,hsub,ah⟩:=hm.take2 (L1:=[ow [aA] aE.1.codes]) (L2:=[blk aG [v1] 24,blk aH [aB] 28,ow [aB] aC.1.codes,blk aF [aA] 28]) [4] [0,1,2,3] (by decide) rfl rfl
  refine gCg rfl call11 (laws_markUnit_ok _ af aE.1 aA 1 hm1 ) ?_
  rintro aM bP bQ w ⟨rfl,hB⟩
  replace hm:=ah _ _ hB;clear hB
  refine gA rfl (gE (gS (gR (gA rfl (gE (gS (gR (gY (yn (hm.blk_at 4 rfl) isAgg28 sizeOf28 rfl) (gM rfl (gC hm rfl call12 (laws_heldUnit_ok _ (⟨aM.2⟩:Unit_) aA (hm.ow_rep 0 rfl) 1) λbR bS w hm=>gA rfl (gE (gS (gS (gR (gM rfl (gB rfl (gE (gsd 73 rfl (λai=>?_) λai=>?_))))))))))))))))))
  ·exact gct rfl (gS (gR (gA rfl (gE (gRt (gr1 results4 rfl ⟨rfl,hm.below⟩))))))
  refine gcf rfl (gSk (gS (gS (gR (gM rfl (gM rfl (gB rfl (gE (gsd 76 rfl (λaj=>?_) λaj=>?_)))))))))
  ·exact gct rfl (gS (gR (gA rfl (gE (gRt (gr1 results4 rfl ⟨rfl,hm.below⟩))))))
  refine gcf rfl (gSk (gS (gR (gY (yn (hm.blk_at 1 rfl) isAgg24 sizeOf24 rfl) (gCg rfl call8 (laws_toUnit_ok _ aU v1 (hm.now h1)) ?_)))))
  rintro ak bT bU w ⟨al,rfl,hB⟩
  replace hm:=hm.give hB;clear hB
  refine gM rfl (gCg rfl call14 (impl_InlineSmall_ok _ ak al (hm.ow_rep 0 rfl) aMost) ?_)
  rintro am bV bW w ⟨an,rfl,hB⟩
  replace hm:=hm.give hB;clear hB
  refine gM rfl (gX rfl (gX rfl (gAl hm zeroValue28 rfl λbX w hm=>gSN hm 0 sizeOf28 (one_cons (rep_one (hm.ow_rep 1 rfl)) one_nil) rfl λw hm=>gA rfl (gE (gS (gS (gJ hm (λaN=>[(9,(pV aF)),(12,(nV aM.1)),(92,(.bool (aN)))]) (λaN=>[blk aF [aA] 28,ow [aA] aM.2]) (λaN=>?_) ?_)))))))
  ·refine gR (gY (yn (hm.blk_at 0 rfl) isAgg28 sizeOf28 rfl) (gY (yn (hm.blk_at 5 rfl) isAgg28 sizeOf28 rfl) (gC hm rfl call10 (laws_eqUnit_ok _ am.1 an (hm.ow_rep 1 rfl) aC.1 aB (hm.ow_rep 6 rfl)) fun bY bZ w hm => gN rfl (gM rfl (gsn 88 rfl (fun ao => ?_) fun ao => ?_)))))
   ·exact gO rfl (gO rfl (gO rfl (gKt rfl (gE (gz hm [7,3] rfl)))))
   exact gM rfl (gM rfl (gY (yG rfl (y_neqb underlying4 rfl rfl rfl)) (gKf rfl (gE (gz hm [7,3] rfl)))))
  repeat clear hm
  intro aN w hm
  refine gs 92 rfl (λap=>?_) λap=>?_
  ·exact gct rfl (gS (gR (gA rfl (gE (gRt (gr1 results4 rfl ⟨rfl,hm.below⟩))))))
  refine gcf rfl (gSk (gS (gR (gA rfl (gE (gS (gR (gY (yn (hm.blk_at 0 rfl) isAgg28 sizeOf28 rfl) (gM rfl (gC hm rfl call12 (laws_heldUnit_ok _ (⟨aM.2⟩:Unit_) aA (hm.ow_rep 1 rfl) 1) λb6 b7 w hm=>gA rfl (gE (gS (gS (gR (gM rfl (gB rfl (gE (gsd 97 rfl (λaq=>?_) λaq=>?_))))))))))))))))))
  ·exact gct rfl (gS (gR (gA rfl (gE (gRt (gr1 results4 rfl ⟨rfl,hm.below⟩))))))
  refine gcf rfl (gSk (gS (gS (gR (gM rfl (gM rfl (gB rfl (gE (gsd 100 rfl (λar=>?_) λar=>?_)))))))))
  ·exact gct rfl (gS (gR (gA rfl (gE (gRt (gr1 results4 rfl ⟨rfl,hm.below⟩))))))
  exact gcf rfl (gSk (gS (gR (gA rfl (gE (gRt (gr1 results4 rfl ⟨rfl,hm.below⟩)))))))
end Go.Proofs.YthikiocjbepfnaaGreat
