/- A part of the proof of FnExactInlineSmallSaid. -/
import Derived.Test.YthikiocjbepfnaaGreatIsWalksA
namespace Go.Proofs.YthikiocjbepfnaaGreat
open Go Go.Wk Go.RowKit
set_option maxRecDepth 4000
set_option maxHeartbeats 4000000
open Tryz
theorem spec_l19Phis_ok (w0 : World) (hz : Heap) (old : Code_) (v1 : Value) (h1 : GT.rep hz [v1] old.blocks) (out : Code_) (bp1 : Nat) (v1p : Value) (n_ : Int) (b_ : Int) (rest_ : Int) (hm0 : Mem w0 hz w0 [blk bp1 [nV out.params, nV out.regs, v1p] 44, ow [v1p] out.blocks]) :
    ConM Tryz.prog 48 [(.agg #[nV old.params,nV old.regs,v1]),(pV bp1),nV n_,nV b_,nV rest_] w0 (spec_l19Phis old out n_ b_ rest_) λr v w'=>∃ (x1:Value),v=(.tuple #[])∧Mem w0 hz w' [blk bp1 [nV r.params,nV r.regs,x1] 44,ow [x1] r.blocks]:=by
  unfold spec_l19Phis
  refine gcon func48 rfl λr=>?_
  have hm:=hm0
  refine gS (gR (gBx hm rfl λaK w hm=>gE (gS (gR (gY (yn (hm.blk_at 0 rfl) isAgg44 sizeOf44 rfl) (gM rfl (gCg rfl call83 (spec_l7Preds_ok _ old v1 (hm.now h1) n_) ?_)))))))
  rintro aB bQ bR w ⟨_,rfl,hB⟩
  replace hm:=hm.give hB;clear hB
  refine gA rfl (gE (gS (gR (gM rfl (gY (yG rfl (y_nilptr rfl rfl)) (gY (yn (hm.blk_at 2 rfl) isAgg44 sizeOf44 rfl) (gM rfl (gCg rfl call83 (spec_l7Preds_ok _ out v1p (hm.ow_rep 3 rfl) n_) ?_))))))))
  rintro aC bS bT w ⟨_,rfl,hB⟩
  replace hm:=hm.give hB;clear hB
  refine gA rfl (gE (gS (gR (gA rfl (gE ?_)))))
  obtain ⟨aS,aD,rfl,bU⟩:=ro_slice (hm.ow_rep 4 rfl)
  obtain ⟨aG,aH,rfl,bV⟩:=ro_slice (hm.ow_rep 1 rfl)
  obtain ⟨aM,aL,rfl,bW⟩:=ro_slice (hm.ow_rep 0 rfl)
  refine gJ hm (λaW=>[]) (λaW=>[blk bp1 [nV out.params,nV out.regs,.slice aS out.blocks.length aD] 44,ow [.slice aS out.blocks.length aD] aW]) (λaW=>?_) ?_
  ·refine gBk (gMf hm (fun aE => [(1, (pV bp1)), (2, (nV n_)), (3, (nV b_)), (4, (nV rest_)), (5, (pV aK)), (10, (.slice aG aB.length aH)), (11, (.slice aM aC.length aL)), (12, (nV aE.2))]) (fun aE => [blk bp1 [nV out.params, nV out.regs, .slice aS out.blocks.length aD] 44, ow [.slice aS out.blocks.length aD] aE.1, blk aK [nV old.params, nV old.regs, v1] 44, ow [.slice aG aB.length aH] aB, ow [.slice aM aC.length aL] aC]) [3, 4, 2, 1, 0] rfl ?_)
   repeat clear hm
   intro bX au aE w hm bY av
   refine gS (gS (gR (gM rfl (gM rfl (gY (yG rfl (y_nilptr rfl rfl)) (gF fo_44_2 rfl (gL hm 0 isAgg42 rfl (gM rfl (gg λaN aw aO=>?_)))))))))
   obtain ⟨aI,aJ,bZ,he⟩:=idx_form' (hm.ow_rep 1 rfl) aO
   obtain ⟨rfl,_,rfl⟩:=sl3 he
   obtain ⟨b6,b7,b8,b9,ba,bc,bd⟩:=rk_Block_ (hm.ow_rep 1 rfl) aO
   have hL2_1:=rep_slice_len (hm.ow_rep 1 rfl)
   refine gI st_42 aw (idx_lt2 aO hL2_1) rfl (gF fo_49_0 rfl ?_)
   obtain ⟨be,bf,bg,hm⟩:=pin_Block_ hm 1 rfl aO
   refine gY (yl isAgg45 ((hm.holeE_at 4 rfl).cell (j:=0) rfl) rfl) ?_
   obtain ⟨bh,bi,rfl,bj⟩:=ro_slice (hm.ow_rep 2 rfl)
   refine gY (yV st_45 rfl) (gB rfl (gE (gsd 34 rfl (λax=>?_) λax=>?_)))
   ·refine gct rfl (gSk (gS (gBk (gS ?_))))
    replace hm:=(mk_Block_ aN.jump aN.on hm 2 1 0 rfl).pk (L':=[_,_,_,_,_,_]) [2,3,4,5,6,7] rfl rfl
    replace hm:=(hm.shutE (y:=(aN:Block_)) 2 0 (by decide) rfl rfl).pk (L':=[_,_,_,_,_]) [1,2,3,4,5] rfl rfl
    rw [set_same aO] at hm
    refine gR (gf rfl (λa hf=>e_build0 (α:=Int) et_47 hm rfl) ?_)
    rintro bk w hm
    refine gA rfl (gE (gS (gS (gR (gA rfl (gE ?_))))))
    obtain ⟨ay,az,rfl,bm⟩:=ro_slice (hm.ow_rep 0 rfl)
    refine gBk (gNg (λah aX a w=>∃ (aP:Value),St 82 [(1,(pV bp1)),(2,(nV n_)),(3,(nV b_)),(4,(nV rest_)),(5,(pV aK)),(10,(.slice aG aB.length aH)),(11,(.slice aM aC.length aL)),(12,(nV aE.2)),(13,aP),(14,(nV ah))] w0 hz [blk bp1 [nV out.params,nV out.regs,sV aI aJ out.blocks.length aD] 44,ow [sV aI aJ out.blocks.length aD] aE.1,blk aK [nV old.params,nV old.regs,v1] 44,ow [.slice aG aB.length aH] aB,ow [.slice aM aC.length aL] aC,ow [aP] aX] a w) (λa hf=>⟨.slice ay ([]:List Int).length az,hf.sb rfl,hm.pk [1,2,3,4,5,0] rfl rfl⟩) ?_ ?_)
    ·repeat clear hm
     rintro _ _ ah aX a w ⟨aP,hf,hm⟩ bp bq br _
     refine gv hf (gS (gS (gR (gM rfl (gM rfl (gY (yV st_47 rfl) (gB rfl (gE (go _ 41 rfl (decide_eq_true (by omega)) (gct rfl (gSk (gS (gBk (gS (gR (gM rfl (gM rfl (gg λbA bB ai=>?_))))))))))))))))))
     obtain ⟨aj,ak,bs,he⟩:=idx_form (hm.ow_rep 4 rfl) ai
     obtain ⟨rfl,_,rfl⟩:=sl3 he
     refine gI st_47 bB (idx_lt ai) rfl (gY (yl isAgg3 ((flat_cells (cs:=[nV bA]) (hm.ow_rep 4 rfl) ai rfl).cell (j:=0) rfl) rfl) (gA rfl (gE (gS (gS (gR (gM rfl (gM rfl (gB rfl (gE (gJ hm (λaT=>[(1,(pV bp1)),(2,(nV n_)),(3,(nV b_)),(4,(nV rest_)),(5,(pV aK)),(10,(.slice aG aB.length aH)),(11,(sV aj ak aC.length aL)),(12,(nV aE.2)),(13,aP),(14,(nV ah)),(15,(nV aT))]) (λaT=>[blk bp1 [nV out.params,nV out.regs,sV aI aJ out.blocks.length aD] 44,ow [sV aI aJ out.blocks.length aD] aE.1,blk aK [nV old.params,nV old.regs,v1] 44,ow [.slice aG aB.length aH] aB,ow [sV aj ak aC.length aL] aC,ow [aP] aX]) (λaT=>?_) ?_)))))))))))
     ·refine gsd 50 rfl (fun bC => ?_) fun bC => ?_
      ·exact gct rfl (gR (gM rfl (gA rfl (gE (gz hm [0,1,2,3,4,5] rfl)))))
      exact gcf rfl (gSk (gz hm [0,1,2,3,4,5] rfl))
     repeat clear hm
     intro aT w hm
     refine gW (.p 0 (.p 1 (.p 3 (.p 7 (.p 11 (.p 12 (.q 2 (.p 4 (.p 5 (.q 6 (.p 8 (.p 9 (.q 10 (.e 13 (.p 14 (.e 15 (.e 16 (.e 17 (.p 18 .fin) .nil) .nil) .nil)) .nil)))))))))))))) [13] [0,1,3,4,5,7,8,9,11,12,14,18] hm [0,1,2,3,4,5] [blk bp1 [nV out.params,nV out.regs,sV aI aJ out.blocks.length aD] 44,ow [sV aI aJ out.blocks.length aD] aE.1,blk aK [nV old.params,nV old.regs,v1] 44,ow [.slice aG aB.length aH] aB,ow [sV aj ak aC.length aL] aC,ow [aP] aX] rfl mxo (by kernel_rfl) (λ_ _ _ h=>h.2) λw hm hS=>tP rfl (λw=>yM rfl) (tP rfl (λw=>yF fo_44_2 rfl) (tP rfl (λw=>yM rfl) (tP rfl (λw=>yM rfl) (tP rfl (λw=>yM rfl) (tP rfl (λw=>yM rfl) (tQ rfl hS (λw hm=>yL hm 2 isAgg42 rfl) (gg λbt bD al=>?_)))))))
     obtain ⟨bu,bv,bx,he⟩:=idx_form' h1 al
     subst he
     obtain ⟨bz,cA,cB,bE,ao,cC,cD⟩:=rk_Block_ h1 al
     refine tP rfl (λw=>yI st_42 bD (idx_lt al) rfl) (tP rfl (λw=>yF fo_49_0 rfl) (tQ rfl hS (λw hm=>yl isAgg45 ((bE.mono hm.lez).cell (j:=0) rfl) rfl) (gg λcE bF am=>?_)))
     obtain ⟨cF,cG,cH,he⟩:=idx_form' ao am
     subst he
     obtain ⟨cI,bG,ap⟩:=rk_Phi_ ao am
     refine tP rfl (λw=>yI st_45 bF (idx_lt am) rfl) (tP rfl (λw=>yF fo_105_1 rfl) (tQ rfl hS (λw hm=>yl isAgg47 ((bG.mono hm.lez).cell (j:=1) rfl) rfl) (tO (gb λcJ bH=>tf rfl rfl (λa hf=>e_call hf rfl call84 rfl (spec_l10At_ok _ aB (.slice aG aB.length aH) (hm.ow_rep 3 rfl) aT _ bH)) ?_))))
     rintro cK w ⟨rfl,hB⟩
     replace hm:=hm.below' hB;clear hB
     refine tAk hm [0,1,2,3,4,5] rfl λhS=>gg λaY bJ an=>?_
     obtain ⟨cL,cM,cN,he⟩:=idx_form ap an
     subst he
     refine tP rfl (λw=>yI st_47 bJ (idx_lt an) rfl) (tO (tY rfl (yl isAgg3 ((flat_cells (cs:=[nV aY]) (hm.now ap) an rfl).cell (j:=0) rfl) rfl) (tAn rfl (tO (tf rfl rfl (λa hf=>e_build (vs:=#[(0,(nV aY))]) (cs:=[nV aY]) et_47 hf hm rfl rfl (by kernel_rfl) rfl rfl) ?_)))))
     rintro _ w ⟨cO,rfl,hm⟩
     replace hm:=hm.lit (xs:=([aY]:List Int)) 0 rfl rfl rfl rfl
     refine tAn rfl (tO (gb λcP bK=>?_))
     obtain ⟨bL,bM⟩:=appM_some.1 bK
     refine tf rfl rfl (λa hf=>e_append 6 et_47 hf hm rfl (hm.ow_rep 0 rfl) rfl rfl rfl bL) ?_
     rintro bN w hm
     rw [bM] at hm
     exact tAn rfl (tP rfl (λw=>yA rfl) (tE (gR (gM rfl (gP (by omega) (by omega) rfl (gA rfl (gE (gZe λa hf=>⟨bN,hf.sb rfl,hm.pk [1,2,3,4,5,6] rfl rfl⟩))))))))
    repeat clear hm
    rintro cQ aQ a w ⟨aR,hf,hm⟩ cR cS
    refine gv hf (gS (gS (gR (gM rfl (gM rfl (gY (yV st_47 rfl) (gB rfl (gE (go _ 41 rfl (decide_eq_false (by omega)) (gcf rfl (gXt (gHh (gR (gM rfl (gY (yG rfl (y_nilptr rfl rfl)) (gF fo_44_2 rfl (gL hm 0 isAgg42 rfl (gM rfl (gg λaA bO aZ=>?_)))))))))))))))))))
    obtain ⟨cT,cU,cV,cW,cX,cY,cZ⟩:=rk_Block_ (hm.ow_rep 1 rfl) aZ
    have hL2_2:=rep_slice_len (hm.ow_rep 1 rfl)
    refine gI st_42 bO (idx_lt2 aZ hL2_2) rfl (gF fo_49_0 rfl ?_)
    obtain ⟨c4,aa,ab,hm⟩:=pin_Block_ hm 1 rfl aZ
    refine gY (yl isAgg45 ((hm.holeE_at 4 rfl).cell (j:=0) rfl) rfl) (gM rfl (gM rfl (gg λaF bP aV=>?_)))
    obtain ⟨ac,ae,af,he⟩:=idx_form' (hm.ow_rep 2 rfl) aV
    subst he
    obtain ⟨c5,c6,c7⟩:=rk_Phi_ (hm.ow_rep 2 rfl) aV
    refine gI st_45 bP (idx_lt aV) rfl (gF fo_105_1 rfl ?_)
    obtain ⟨aq,hm⟩:=pin_Phi_ hm 2 rfl aV
    have ar:∀ u∈([aR]:List Value),u.oneCell'=true:=(one_cons (rep_one (hm.ow_rep 9 rfl)) one_nil)
    refine gf0 rfl (λa hf=>e_storeH (j:=1) (vs:=[aR]) 3 hf hm rfl rfl rfl sizeOf47 rfl rfl (cells_one (ar _ (List.mem_singleton.2 rfl))) ar rfl) ?_
    rintro _ w hm
    replace hm:Mem w0 hz _ [ow [aq] aF.args,ow [ab] aA.next_,ow [aa] aA.ins,holeE ac ae aA.phis.length af (aA.phis:List Phi_) (aE.2).toNat [nV aF.to,aR],blk bp1 [nV out.params,nV out.regs,sV aI aJ out.blocks.length aD] 44,holeE aI aJ out.blocks.length aD (aE.1:List Block_) (n_).toNat [sV ac ae aA.phis.length af,aa,nV aA.jump,nV aA.on,ab],blk aK [nV old.params,nV old.regs,v1] 44,ow [.slice aG aB.length aH] aB,ow [.slice aM aC.length aL] aC,ow [aR] aQ]:=hm
    refine gE ?_
    replace hm:Mem w0 hz _ [ow [aq] aF.args,ow [ab] aA.next_,ow [aa] aA.ins,holeE ac ae aA.phis.length af (aA.phis:List Phi_) (aE.2).toNat [nV aF.to,aR],blk bp1 [nV out.params,nV out.regs,sV aI aJ out.blocks.length aD] 44,holeE aI aJ out.blocks.length aD (aE.1:List Block_) (n_).toNat [sV ac ae aA.phis.length af,aa,nV aA.jump,nV aA.on,ab],blk aK [nV old.params,nV old.regs,v1] 44,ow [.slice aG aB.length aH] aB,ow [.slice aM aC.length aL] aC,ow [nV aF.to,aR] ((⟨aF.to,aQ⟩:Phi_):Phi_)]:=mk_Phi_ aF.to hm 9 rfl
    replace hm:=(hm.shutE (y:=((⟨aF.to,aQ⟩:Phi_):Phi_)) 3 9 (by decide) rfl rfl).pk (L':=[_,_,_,_,_,_,_,_,_]) [0,1,2,3,4,5,6,7,8] rfl rfl
    have c8:=List.getElem?_set_self (a:=((⟨aF.to,aQ⟩:Phi_):Phi_)) (idx_lt aV)
    replace hm:=(mk_Block_ aA.jump aA.on hm 3 2 1 rfl).pk (L':=[_,_,_,_,_,_,_]) [0,3,4,5,6,7,8] rfl rfl
    replace hm:=(hm.shutE (y:=((⟨(aA.phis.set (aE.2).toNat (⟨aF.to,aQ⟩:Phi_)),aA.ins,aA.jump,aA.on,aA.next_⟩:Block_):Block_)) 3 1 (by decide) rfl rfl).pk (L':=[_,_,_,_,_,_]) [0,2,3,4,5,6] rfl rfl
    have c9:=List.getElem?_set_self (a:=((⟨(aA.phis.set (aE.2).toNat (⟨aF.to,aQ⟩:Phi_)),aA.ins,aA.jump,aA.on,aA.next_⟩:Block_):Block_)) (idx_lt aZ)
    exact gR (gM rfl (gB rfl (gA rfl (gE (gze hm [1,2,3,4,5] rfl)))))
   refine gcf rfl (gXt (gHh ?_))
   replace hm:=(mk_Block_ aN.jump aN.on hm 2 1 0 rfl).pk (L':=[_,_,_,_,_,_]) [2,3,4,5,6,7] rfl rfl
   replace hm:=(hm.shutE (y:=(aN:Block_)) 2 0 (by decide) rfl rfl).pk (L':=[_,_,_,_,_]) [1,2,3,4,5] rfl rfl
   rw [set_same aO] at hm
   exact gLp av au (gz hm [0,1] rfl)
  repeat clear hm
  intro aW w hm
  exact gre results48 ⟨.slice aS out.blocks.length aD,rfl,hm.pk [0,1] rfl rfl⟩
theorem spec_l19Put_ok (w0 : World) (c_ : Code_) (v1 : Value) (h1 : GT.rep (hp w0) [v1] c_.blocks) (f : Code_) (v2 : Value) (h2 : GT.rep (hp w0) [v2] f.blocks) (b_ : Int) (i_ : Int) :
    ConM Tryz.prog 21 [(.agg #[nV c_.params,nV c_.regs,v1]),(.agg #[nV f.params,nV f.regs,v2]),nV b_,nV i_] w0 (spec_l19Put c_ f b_ i_) λr v w'=>∃ (x1:Value),v=(.agg #[nV r.params,nV r.regs,x1])∧Mem w0 (hp w0) w' [ow [x1] r.blocks]:=by
  unfold spec_l19Put
  refine gcon func21 rfl λr=>?_
  have hm:=Mem.start w0
  refine gS (gR (gBx hm rfl λaL w hm=>gBx hm rfl λaP w hm=>gAl hm zeroValue44 rfl λaM w hm=>gE (gS (gR (gY (yn (hm.blk_at 2 rfl) isAgg44 sizeOf44 rfl) (gCg rfl call45 (spec_l7Copy_ok _ c_ v1 (hm.now h1)) ?_))))))
  rintro aN eu ew w ⟨ey,rfl,hB⟩
  replace hm:=hm.give hB;clear hB
  refine gAl hm zeroValue44 rfl λaK w hm=>gSN hm 0 sizeOf44 (one_cons rfl (one_cons rfl (one_cons (rep_one (hm.ow_rep 1 rfl)) one_nil))) rfl λw hm=>gE (gS (gR (gF fo_44_2 rfl (gL hm 0 isAgg42 rfl (gM rfl (gg λaA cW bp=>?_))))))
  obtain ⟨cX,cY,cZ,he⟩:=idx_form' (hm.ow_rep 1 rfl) bp
  subst he
  obtain ⟨ez,fA,fB,fC,fD,fE,fF⟩:=rk_Block_ (hm.ow_rep 1 rfl) bp
  refine gI st_42 cW (idx_lt bp) rfl (gF fo_49_1 rfl ?_)
  obtain ⟨aJ,fG,aW,hm⟩:=pin_Block_ hm 1 rfl bp
  have fH:(b_).toNat<aN.blocks.length:=(idx_lt bp)
  refine gY (yl isAgg46 ((hm.holeE_at 4 rfl).cell (j:=1) rfl) rfl) (gM rfl (gg λaB c4 b6=>?_))
  obtain ⟨aE,aF,aG,he⟩:=idx_form' (hm.ow_rep 1 rfl) b6
  subst he
  obtain ⟨fI,fJ,fK⟩:=rk_Ins_ (hm.ow_rep 1 rfl) b6
  refine gI st_46 c4 (idx_lt b6) rfl ?_
  obtain ⟨fL,hm⟩:=pin_Ins_ hm 1 rfl b6
  have fM:(i_).toNat<aA.ins.length:=(idx_lt b6)
  refine gY (yn (hm.holeE_at 2 rfl) isAgg51 sizeOf51 rfl) (gAl hm zeroValue51 rfl λaX w hm=>gSN hm 0 sizeOf51 (one_cons rfl (one_cons rfl (one_cons (rep_one (hm.ow_rep 1 rfl)) (one_cons rfl one_nil)))) rfl λw hm=>gE (gS (gR (gF fo_44_1 rfl (gL hm 9 isAgg3 rfl (gA rfl (gE (gS (gR (gF fo_44_2 rfl (gL hm 9 isAgg42 rfl ?_)))))))))))
  obtain ⟨aS,aT,rfl,fN⟩:=ro_slice h1
  refine gY (yV st_42 rfl) (gA rfl (gE (gS (gR (gM rfl (gF fo_44_2 rfl (gL hm 8 isAgg42 rfl ?_)))))))
  obtain ⟨aY,aZ,rfl,fO⟩:=ro_slice h2
  refine gY (yV st_42 rfl) (gP (by omega) (by omega) rfl (gA rfl (gE (gS (gR (gf rfl (λa hf=>e_build0 (α:=Int) et_47 hm rfl) ?_))))))
  rintro fP w hm
  refine gA rfl (gE (gS (gS (gR (gA rfl (gE ?_))))))
  obtain ⟨aI,aH,rfl,fQ⟩:=ro_slice (hm.ow_rep 2 rfl)
  obtain ⟨dP,dQ,rfl,fR⟩:=ro_slice (hm.ow_rep 0 rfl)
  refine gBk (gb λ_ cn=>?_)
  replace cn:=fitI_some.1 cn
  refine gNg (λbq co a w=>∃ (c5:Value),St 221 [(2,(nV b_)),(3,(nV i_)),(4,(pV aL)),(5,(pV aP)),(8,(pV aM)),(9,(pV aK)),(10,(pV aX)),(11,(nV c_.regs)),(12,(nV ((c_.blocks.length:Int)))),(13,(nV (((c_.blocks.length:Int))+((f.blocks.length:Int))))),(14,c5),(15,(nV bq))] w0 (hp w0) [blk aL [nV c_.params,nV c_.regs,.slice aS c_.blocks.length aT] 44,blk aP [nV f.params,nV f.regs,.slice aY f.blocks.length aZ] 44,blk aM [nV 0,nV 0,.slice none 0 0] 44,blk aK [nV aN.params,nV aN.regs,sV cX cY aN.blocks.length cZ] 44,holeE cX cY aN.blocks.length cZ (aN.blocks:List Block_) (b_).toNat [aJ,sV aE aF aA.ins.length aG,nV aA.jump,nV aA.on,aW],ow [aJ] aA.phis,holeE aE aF aA.ins.length aG (aA.ins:List Ins_) (i_).toNat [nV aB.op,nV aB.to,.slice aI aB.args.length aH,nV aB.n_],ow [.slice aI aB.args.length aH] aB.args,ow [aW] aA.next_,blk aX [nV aB.op,nV aB.to,.slice aI aB.args.length aH,nV aB.n_] 51,ow [c5] co] a w) (λa hf=>⟨.slice dP ([]:List Int).length dQ,hf.sb rfl,hm.pk [10,9,8,6,7,5,4,2,3,1,0] rfl rfl⟩) ?_ ?_
  ·repeat clear hm
   rintro _ _ bq co a w ⟨c5,hf,hm⟩ fS fT fU _
   refine gv hf (gS (gS (gR (gM rfl (gF fo_44_1 rfl (gL hm 1 isAgg3 rfl (gB rfl (gE (go _ 51 rfl (decide_eq_true (by omega)) (gct rfl (gSk (gS (gBk (gR (gM rfl (gM rfl (gM rfl (gB rfl (gf rfl (λa hf=>e_build (vs:=#[(0,(nV (w64 (bq+c_.regs))))]) (cs:=[nV (w64 (bq+c_.regs))]) et_47 hf hm rfl rfl (by kernel_rfl) rfl rfl) ?_)))))))))))))))))))
   rintro _ w ⟨fV,rfl,hm⟩
   replace hm:=hm.lit (xs:=([w64 (bq+c_.regs)]:List Int)) 0 rfl rfl rfl rfl
   refine gb λfW dR=>?_
   obtain ⟨dS,dT⟩:=appM_some.1 dR
   refine gf rfl (λa hf=>e_append 11 et_47 hf hm rfl (hm.ow_rep 0 rfl) rfl rfl rfl dS) ?_
   rintro dU w hm
   rw [dT] at hm
   exact gA rfl (gE (gR (gM rfl (gP (by omega) (by omega) rfl (gA rfl (gE (gZe λa hf=>⟨dU,hf.sb rfl,hm.pk [1,2,3,4,5,6,7,8,9,10,11] rfl rfl⟩)))))))
  repeat clear hm
  rintro fX dV a w ⟨dW,hf,hm⟩ fY fZ
  refine gv hf (gS (gS (gR (gM rfl (gF fo_44_1 rfl (gL hm 1 isAgg3 rfl (gB rfl (gE (go _ 51 rfl (decide_eq_false (by omega)) (gcf rfl (gXt (gHh (gS (gR (gY (yn (hm.blk_at 1 rfl) isAgg44 sizeOf44 rfl) (gM rfl (gCg rfl call46 (spec_l7Each_ok _ f (.slice aY f.blocks.length aZ) (hm.now h2) dV dW (hm.ow_rep 10 rfl)) ?_)))))))))))))))))
  rintro aD f8 f9 w ⟨fa,rfl,hB⟩
  replace hm:=hm.give hB;clear hB
  refine gAl hm zeroValue44 rfl λaj w hm=>gSN hm 0 sizeOf44 (one_cons rfl (one_cons rfl (one_cons (rep_one (hm.ow_rep 1 rfl)) one_nil))) rfl λw hm=>gE (gS (gS (gR (gA rfl (gE ?_)))))
  obtain ⟨ap,aV,rfl,fb⟩:=ro_slice (hm.ow_rep 1 rfl)
  replace hm:=hm.drnV0 1 rfl
  refine gBk (gNg (λax aa a w=>∃ (ak al am:Nat),St 221 [(2,(nV b_)),(3,(nV i_)),(4,(pV aL)),(5,(pV aP)),(8,(pV aM)),(9,(pV aK)),(10,(pV aX)),(11,(nV c_.regs)),(12,(nV ((c_.blocks.length:Int)))),(13,(nV (((c_.blocks.length:Int))+((f.blocks.length:Int))))),(16,(pV aj)),(17,(nV ax))] w0 (hp w0) [blk aL [nV c_.params,nV c_.regs,.slice aS c_.blocks.length aT] 44,blk aP [nV f.params,nV f.regs,.slice aY f.blocks.length aZ] 44,blk aM [nV 0,nV 0,.slice none 0 0] 44,blk aK [nV aN.params,nV aN.regs,sV ak al (aa).length am] 44,holeE ak al ((aa).length) am (aa:List Block_) (b_).toNat [aJ,sV aE aF aA.ins.length aG,nV aA.jump,nV aA.on,aW],ow [aJ] aA.phis,holeE aE aF aA.ins.length aG (aA.ins:List Ins_) (i_).toNat [nV aB.op,nV aB.to,.slice aI aB.args.length aH,nV aB.n_],ow [.slice aI aB.args.length aH] aB.args,ow [aW] aA.next_,blk aX [nV aB.op,nV aB.to,.slice aI aB.args.length aH,nV aB.n_] 51,blk aj [nV aD.params,nV aD.regs,.slice ap aD.blocks.length aV] 44,drnV (.slice ap aD.blocks.length aV) (aD.blocks:List Block_) (ax)] a w) (λa hf=>⟨cX,cY,cZ,hf.sb rfl,hm.pk [2,3,4,5,6,7,8,9,10,11,0,1] rfl rfl⟩) ?_ ?_)
  ·repeat clear hm
   rintro _ _ ax aa a w ⟨ak,al,am,hf,hm⟩ fc fd fe _
   refine gv hf (gS (gS (gR (gM rfl (gF fo_44_2 rfl (gL hm 10 isAgg42 rfl (gY (yV st_42 rfl) (gB rfl (gE (go _ 67 rfl (decide_eq_true (by omega)) (gct rfl (gSk (gS (gBk (gS (gR (gF fo_44_2 rfl (gL hm 10 isAgg42 rfl (gM rfl (gg λaC cq cI=>?_))))))))))))))))))))
   obtain ⟨aq,ar,ff,he⟩:=hm.drn_form 11 rfl cI
   obtain ⟨rfl,_,rfl⟩:=sl3 he
   obtain ⟨_,dX,hm⟩:=hm.drn_pin 11 rfl cI
   have dY:=hm.ow_rep 0 rfl
   obtain ⟨_,_,rfl,cJ,_,_,rfl,cK,_,_,rfl,rfl,_,_,rfl,rfl,cL⟩:=dY
   obtain ⟨br,rfl,-⟩:=id cJ
   replace cJ:GT.rep (hp _) [br] aC.phis:=cJ
   obtain ⟨bT,rfl,-⟩:=id cK
   replace cK:GT.rep (hp _) [bT] aC.ins:=cK
   obtain ⟨az,rfl,-⟩:=id cL
   replace cL:GT.rep (hp _) [az] aC.next_:=cL
   clear dX cJ cK cL
   replace hm:Mem w0 (hp w0) _ [ow [br,bT,nV aC.jump,nV aC.on,az] (aC:Block_),blk aL [nV c_.params,nV c_.regs,.slice aS c_.blocks.length aT] 44,blk aP [nV f.params,nV f.regs,.slice aY f.blocks.length aZ] 44,blk aM [nV 0,nV 0,.slice none 0 0] 44,blk aK [nV aN.params,nV aN.regs,sV ak al (aa).length am] 44,holeE ak al ((aa).length) am (aa:List Block_) (b_).toNat [aJ,sV aE aF aA.ins.length aG,nV aA.jump,nV aA.on,aW],ow [aJ] aA.phis,holeE aE aF aA.ins.length aG (aA.ins:List Ins_) (i_).toNat [nV aB.op,nV aB.to,.slice aI aB.args.length aH,nV aB.n_],ow [.slice aI aB.args.length aH] aB.args,ow [aW] aA.next_,blk aX [nV aB.op,nV aB.to,.slice aI aB.args.length aH,nV aB.n_] 51,blk aj [nV aD.params,nV aD.regs,sV aq ar aD.blocks.length aV] 44,drnH aq ar aD.blocks.length aV (aD.blocks:List Block_) (ax).toNat [br,bT,nV aC.jump,nV aC.on,az]]:=hm
   replace hm:=hm.imp (c':=ow ([br]++[bT,nV aC.jump,nV aC.on,az]) ((aC.phis,(aC.ins,aC.jump,aC.on,aC.next_)):(List Phi_) × (List Ins_) × Int × Int × (List Int))) 0 rfl (λF h0=>h0)
   replace hm:=Mem.unpair (α:=List Phi_) (β:=(List Ins_) × Int × Int × (List Int)) (c:=[br]) (d:=[bT,nV aC.jump,nV aC.on,az]) (x:=aC.phis) (y:=(aC.ins,aC.jump,aC.on,aC.next_)) hm 0 rfl rfl
   replace hm:=hm.imp (c':=ow ([bT]++[nV aC.jump,nV aC.on,az]) ((aC.ins,(aC.jump,aC.on,aC.next_)):(List Ins_) × Int × Int × (List Int))) 0 rfl (λF h0=>h0)
   replace hm:=Mem.unpair (α:=List Ins_) (β:=Int × Int × (List Int)) (c:=[bT]) (d:=[nV aC.jump,nV aC.on,az]) (x:=aC.ins) (y:=(aC.jump,aC.on,aC.next_)) hm 0 rfl rfl
   replace hm:=hm.imp (c':=ow ([nV aC.jump]++[nV aC.on,az]) ((aC.jump,(aC.on,aC.next_)):Int × Int × (List Int))) 0 rfl (λF h0=>h0)
   replace hm:=Mem.unpair (α:=Int) (β:=Int × (List Int)) (c:=[nV aC.jump]) (d:=[nV aC.on,az]) (x:=aC.jump) (y:=(aC.on,aC.next_)) hm 0 rfl rfl
   replace hm:=hm.imp (c':=ow ([nV aC.on]++[az]) ((aC.on,aC.next_):Int × (List Int))) 0 rfl (λF h0=>h0)
   replace hm:=Mem.unpair (α:=Int) (β:=(List Int)) (c:=[nV aC.on]) (d:=[az]) (x:=aC.on) (y:=aC.next_) hm 0 rfl rfl
   replace hm:=hm.pk (L':=[_,_,_,_,_,_,_,_,_,_,_,_,_,_,_]) [0,3,4,5,6,7,8,9,10,11,12,13,14,15,16] rfl rfl
   have hL1_1:=hm.drnH_len 14 rfl
   refine gI st_42 cq (idx_lt2 cI hL1_1) rfl (gY (yn (hm.drnH_at 14 rfl) isAgg49 sizeOf49 rfl) (gAl hm zeroValue49 rfl λbS w hm=>gSN hm 0 sizeOf49 (one_cons (rep_one (hm.ow_rep 3 rfl)) (one_cons (rep_one (hm.ow_rep 2 rfl)) (one_cons rfl (one_cons rfl (one_cons (rep_one (hm.ow_rep 1 rfl)) one_nil))))) rfl λw hm=>gE (gS (gS ?_))))
   replace hm:=hm.drnH_gone 15 rfl cq cI
   refine gR (gA rfl (gE ?_))
   obtain ⟨au,av,rfl,fg⟩:=ro_slice (hm.ow_rep 3 rfl)
   obtain ⟨bL,bM,rfl,fh⟩:=ro_slice (hm.ow_rep 2 rfl)
   obtain ⟨bN,bO,rfl,fj⟩:=ro_slice (hm.ow_rep 1 rfl)
   refine gBk (gNf hm (λc6 bs=>[(2,(nV b_)),(3,(nV i_)),(4,(pV aL)),(5,(pV aP)),(8,(pV aM)),(9,(pV aK)),(10,(pV aX)),(11,(nV c_.regs)),(12,(nV ((c_.blocks.length:Int)))),(13,(nV (((c_.blocks.length:Int))+((f.blocks.length:Int))))),(16,(pV aj)),(17,(nV ax)),(18,(pV bS)),(19,(nV c6))]) (λc6 bs=>[blk aL [nV c_.params,nV c_.regs,.slice aS c_.blocks.length aT] 44,blk aP [nV f.params,nV f.regs,.slice aY f.blocks.length aZ] 44,blk aM [nV 0,nV 0,.slice none 0 0] 44,blk aK [nV aN.params,nV aN.regs,sV ak al (aa).length am] 44,holeE ak al ((aa).length) am (aa:List Block_) (b_).toNat [aJ,sV aE aF aA.ins.length aG,nV aA.jump,nV aA.on,aW],ow [aJ] aA.phis,holeE aE aF aA.ins.length aG (aA.ins:List Ins_) (i_).toNat [nV aB.op,nV aB.to,.slice aI aB.args.length aH,nV aB.n_],ow [.slice aI aB.args.length aH] aB.args,ow [aW] aA.next_,blk aX [nV aB.op,nV aB.to,.slice aI aB.args.length aH,nV aB.n_] 51,blk aj [nV aD.params,nV aD.regs,sV aq ar aD.blocks.length aV] 44,drnS (sV aq ar aD.blocks.length aV) (aD.blocks:List Block_) (ax),blk bS [.slice au aC.phis.length av,.slice bL aC.ins.length bM,nV aC.jump,nV aC.on,.slice bN aC.next_.length bO] 49,ow [.slice au aC.phis.length av] aC.phis,ow [.slice bL aC.ins.length bM] aC.ins,ow [.slice bN aC.next_.length bO] bs]) [4,5,6,7,8,9,10,11,12,13,14,15,0,3,2,1] rfl ?_ ?_)
   ·repeat clear hm
    intro _ _ c6 bs w hm fk fm fo _
    refine gS (gS (gR (gM rfl (gF fo_49_4 rfl (gL hm 12 isAgg47 rfl ?_)))))
    have fp:=rep_len (hm.ow_rep 15 rfl)
    refine gY (yV st_47 rfl) (gB rfl (gE (go _ 79 rfl (decide_eq_true (by omega)) (gct rfl (gSk (gS (gBk ?_)))))))
    replace hm:Mem w0 (hp w0) _ [blk aL [nV c_.params,nV c_.regs,.slice aS c_.blocks.length aT] 44,blk aP [nV f.params,nV f.regs,.slice aY f.blocks.length aZ] 44,blk aM [nV 0,nV 0,.slice none 0 0] 44,blk aK [nV aN.params,nV aN.regs,sV ak al (aa).length am] 44,holeE ak al ((aa).length) am (aa:List Block_) (b_).toNat [aJ,sV aE aF aA.ins.length aG,nV aA.jump,nV aA.on,aW],ow [aJ] aA.phis,holeE aE aF aA.ins.length aG (aA.ins:List Ins_) (i_).toNat [nV aB.op,nV aB.to,.slice aI aB.args.length aH,nV aB.n_],ow [.slice aI aB.args.length aH] aB.args,ow [aW] aA.next_,blk aX [nV aB.op,nV aB.to,.slice aI aB.args.length aH,nV aB.n_] 51,blk aj [nV aD.params,nV aD.regs,sV aq ar aD.blocks.length aV] 44,drnS (sV aq ar aD.blocks.length aV) (aD.blocks:List Block_) (ax),blk bS [.slice au aC.phis.length av,.slice bL aC.ins.length bM,nV aC.jump,nV aC.on,.slice bN aC.next_.length bO] 49,ow [.slice au aC.phis.length av] aC.phis,ow [.slice bL aC.ins.length bM] aC.ins,ow [.slice bN aC.next_.length bO] bs]:=hm
    refine gW (.p 0 (.p 2 (.p 3 (.p 5 (.p 8 (.q 1 (.e 4 (.p 6 (.e 7 (.p 9 (.p 10 (.e 11 .fin .nil))) .nil)) .nil))))))) [4,7] [0,2,3,5,6,8,9,10] hm [0,1,2,3,4,5,6,7,8,9,10,11,12,13,14,15] [blk aL [nV c_.params,nV c_.regs,.slice aS c_.blocks.length aT] 44,blk aP [nV f.params,nV f.regs,.slice aY f.blocks.length aZ] 44,blk aM [nV 0,nV 0,.slice none 0 0] 44,blk aK [nV aN.params,nV aN.regs,sV ak al (aa).length am] 44,holeE ak al ((aa).length) am (aa:List Block_) (b_).toNat [aJ,sV aE aF aA.ins.length aG,nV aA.jump,nV aA.on,aW],ow [aJ] aA.phis,holeE aE aF aA.ins.length aG (aA.ins:List Ins_) (i_).toNat [nV aB.op,nV aB.to,.slice aI aB.args.length aH,nV aB.n_],ow [.slice aI aB.args.length aH] aB.args,ow [aW] aA.next_,blk aX [nV aB.op,nV aB.to,.slice aI aB.args.length aH,nV aB.n_] 51,blk aj [nV aD.params,nV aD.regs,sV aq ar aD.blocks.length aV] 44,drnS (sV aq ar aD.blocks.length aV) (aD.blocks:List Block_) (ax),blk bS [.slice au aC.phis.length av,.slice bL aC.ins.length bM,nV aC.jump,nV aC.on,.slice bN aC.next_.length bO] 49,ow [.slice au aC.phis.length av] aC.phis,ow [.slice bL aC.ins.length bM] aC.ins,ow [.slice bN aC.next_.length bO] bs] rfl mxo (by kernel_rfl) (λ_ _ _ h=>h.2) λw hm hS=>tP rfl (λw=>yF fo_49_4 rfl) (tP rfl (λw=>yM rfl) (tP rfl (λw=>yF fo_49_4 rfl) (tP rfl (λw=>yM rfl) (tP rfl (λw=>yM rfl) (tQ rfl hS (λw hm=>yL hm 12 isAgg47 rfl) (tO (tY rfl (yL hm 12 isAgg47 rfl) (tAs hS (gg λcM cr b7=>?_)))))))))
    obtain ⟨fq,fr,ft,he⟩:=idx_form (hm.ow_rep 15 rfl) b7
    obtain ⟨rfl,_,rfl⟩:=sl3 he
    have hL2_1:=rep_slice_len (hm.ow_rep 15 rfl)
    refine tP rfl (λw=>yI st_47 cr (idx_lt2 b7 hL2_1) rfl) (tO (tY rfl (yl isAgg3 ((flat_cells (cs:=[nV cM]) (hm.ow_rep 15 rfl) b7 rfl).cell (j:=0) rfl) rfl) (tAs hS (tP rfl (λw=>yB rfl) ?_))))
    have hL2_2:=rep_slice_len (hm.ow_rep 15 rfl)
    refine tP rfl (λw=>yI st_47 cr (idx_lt2 b7 hL2_2) rfl) (tO (tf0 rfl rfl (λa hf=>e_setElem (x1:=w64 (cM+((c_.blocks.length:Int)))) (j:=0) (vs:=[nV (w64 (cM+((c_.blocks.length:Int))))]) 15 hf hm rfl b7 rfl sizeOf3 rfl rfl rfl (one_cons rfl one_nil) rfl rfl) ?_))
    rintro _ w hm
    have fu:=List.getElem?_set_self (a:=w64 (cM+((c_.blocks.length:Int)))) (idx_lt b7)
    exact tAn rfl (tE (gR (gM rfl (gP (by omega) (by omega) rfl (gA rfl (gE (gze hm [0,1,2,3,4,5,6,7,8,9,10,11,12,13,14,15] rfl)))))))
   repeat clear hm
   intro fw dZ w hm fx fy
   refine gS (gS (gR (gM rfl (gF fo_49_4 rfl (gL hm 12 isAgg47 rfl ?_)))))
   have gD:=rep_len (hm.ow_rep 15 rfl)
   refine gY (yV st_47 rfl) (gB rfl (gE (go _ 79 rfl (decide_eq_false (by omega)) (gcf rfl (gXt (gHh (gS (gS (gR (gF fo_49_2 rfl (gL hm 12 isAgg3 rfl (gB rfl (gE (gJg (λah a w=>∃ (bU bV:Value),St 221 [(2,(nV b_)),(3,(nV i_)),(4,(pV aL)),(5,(pV aP)),(8,(pV aM)),(9,(pV aK)),(10,(pV aX)),(11,(nV c_.regs)),(12,(nV ((c_.blocks.length:Int)))),(13,(nV (((c_.blocks.length:Int))+((f.blocks.length:Int))))),(16,(pV aj)),(17,(nV ax)),(18,(pV bS))] w0 (hp w0) [blk aL [nV c_.params,nV c_.regs,.slice aS c_.blocks.length aT] 44,blk aP [nV f.params,nV f.regs,.slice aY f.blocks.length aZ] 44,blk aM [nV 0,nV 0,.slice none 0 0] 44,blk aK [nV aN.params,nV aN.regs,sV ak al (aa).length am] 44,holeE ak al ((aa).length) am (aa:List Block_) (b_).toNat [aJ,sV aE aF aA.ins.length aG,nV aA.jump,nV aA.on,aW],ow [aJ] aA.phis,holeE aE aF aA.ins.length aG (aA.ins:List Ins_) (i_).toNat [nV aB.op,nV aB.to,.slice aI aB.args.length aH,nV aB.n_],ow [.slice aI aB.args.length aH] aB.args,ow [aW] aA.next_,blk aX [nV aB.op,nV aB.to,.slice aI aB.args.length aH,nV aB.n_] 51,blk aj [nV aD.params,nV aD.regs,sV aq ar aD.blocks.length aV] 44,drnS (sV aq ar aD.blocks.length aV) (aD.blocks:List Block_) (ax),blk bS [.slice au aC.phis.length av,bU,nV ah.2.1,nV ah.2.2.1,bV] 49,ow [.slice au aC.phis.length av] aC.phis,ow [bU] ah.1,ow [bV] ah.2.2.2] a w) (λah=>?_) ?_))))))))))))))
   ·refine gsd 95 rfl (fun d2 => ?_) fun d2 => ?_
    ·refine gct rfl (gS (gR (gF fo_49_1 rfl (gL hm 12 isAgg46 rfl (gF fo_51_1 rfl (gL hm 9 isAgg3 rfl (gF fo_49_3 rfl (gL hm 12 isAgg3 rfl (gf rfl (fun a hf => e_build (vs := #[(0, (nV aC.on))]) (cs := [nV aC.on]) et_47 hf hm rfl rfl (by kernel_rfl) rfl rfl) ?_)))))))))
     rintro _ w ⟨b8,rfl,hm⟩
     replace hm:=hm.lit (xs:=([aC.on]:List Int)) 0 rfl rfl rfl rfl
     refine gY (yG rfl (y_build (vs:=[(0,(nV 2)),(1,(nV aB.to)),(2,(sV b8 0 1 1))]) (cs:=#[nV 2,nV aB.to,sV b8 0 1 1,nV 0]) rfl rfl (by kernel_rfl))) (gf rfl (λa hf=>e_build (vs:=#[(0,(.agg #[nV 2,nV aB.to,sV b8 0 1 1,nV 0]))]) (cs:=[nV 2,nV aB.to,sV b8 0 1 1,nV 0]) et_46 hf hm rfl rfl (by kernel_rfl) rfl rfl) ?_)
     rintro _ w ⟨d4,rfl,hm⟩
     replace hm:=hm.els_nil (α:=Ins_)
     replace hm:Mem w0 (hp w0) _ [els [] ([]:List Ins_),blk d4 [nV 2,nV aB.to,sV b8 0 1 1,nV 0] 51,ow [nV 2,nV aB.to,sV b8 0 1 1,nV 0] ((⟨2,aB.to,([aC.on]:List Int),0⟩:Ins_):Ins_),blk aL [nV c_.params,nV c_.regs,.slice aS c_.blocks.length aT] 44,blk aP [nV f.params,nV f.regs,.slice aY f.blocks.length aZ] 44,blk aM [nV 0,nV 0,.slice none 0 0] 44,blk aK [nV aN.params,nV aN.regs,sV ak al (aa).length am] 44,holeE ak al ((aa).length) am (aa:List Block_) (b_).toNat [aJ,sV aE aF aA.ins.length aG,nV aA.jump,nV aA.on,aW],ow [aJ] aA.phis,holeE aE aF aA.ins.length aG (aA.ins:List Ins_) (i_).toNat [nV aB.op,nV aB.to,.slice aI aB.args.length aH,nV aB.n_],ow [.slice aI aB.args.length aH] aB.args,ow [aW] aA.next_,blk aX [nV aB.op,nV aB.to,.slice aI aB.args.length aH,nV aB.n_] 51,blk aj [nV aD.params,nV aD.regs,sV aq ar aD.blocks.length aV] 44,drnS (sV aq ar aD.blocks.length aV) (aD.blocks:List Block_) (ax),blk bS [.slice au aC.phis.length av,.slice bL aC.ins.length bM,nV aC.jump,nV aC.on,.slice bN aC.next_.length bO] 49,ow [.slice au aC.phis.length av] aC.phis,ow [.slice bL aC.ins.length bM] aC.ins,ow [.slice bN aC.next_.length bO] dZ]:=mk_Ins_ 2 aB.to 0 hm 2 rfl
     replace hm:=(hm.els_cons 0 2 (by decide) rfl rfl).pk (L':=[_,_,_,_,_,_,_,_,_,_,_,_,_,_,_,_,_,_]) [0,1,3,4,5,6,7,8,9,10,11,12,13,14,15,16,17,18] rfl rfl
     replace hm:=(hm.lit_els 1 0 (by decide) rfl rfl rfl rfl).pk (L':=[_,_,_,_,_,_,_,_,_,_,_,_,_,_,_,_,_]) [1,2,3,4,5,6,7,8,9,10,11,12,13,14,15,16,17] rfl rfl
     refine gb λgG d5=>?_
     obtain ⟨d6,d7⟩:=appM_some.1 d5
     replace hm:=(hm.both 15 0 (by decide) rfl rfl).pk (L':=[_,_,_,_,_,_,_,_,_,_,_,_,_,_,_,_]) [1,2,3,4,5,6,7,8,9,10,11,12,13,14,15,16] rfl rfl
     refine gf rfl (λa hf=>e_appendD (xs:=aC.ins) (ys:=([(⟨2,aB.to,([aC.on]:List Int),0⟩:Ins_)]:List Ins_)) 14 et_46 hf hm rfl rfl rfl rfl d6) ?_
     rintro d8 w hm
     rw [d7] at hm
     refine gF fo_49_1 rfl (gS1 hm 12 sizeOf46 (rep_one (hm.ow_rep 14 rfl)) rfl λw hm=>gE (gS (gR (gF fo_49_2 rfl (gS1 hm 12 sizeOf3 rfl rfl λw hm=>gE (gS (gR (gF fo_49_3 rfl (gS1 hm 12 sizeOf3 rfl rfl λw hm=>gE (gR (gM rfl (gf rfl (λa hf=>e_build (vs:=#[(0,(nV (((c_.blocks.length:Int))+((f.blocks.length:Int)))))]) (cs:=[nV (((c_.blocks.length:Int))+((f.blocks.length:Int)))]) et_47 hf hm rfl rfl (by kernel_rfl) rfl rfl) ?_))))))))))))
     rintro _ w ⟨d9,rfl,hm⟩
     replace hm:=hm.lit (xs:=([((c_.blocks.length:Int))+((f.blocks.length:Int))]:List Int)) 0 rfl rfl rfl rfl
     exact gF fo_49_4 rfl (gS1 hm 13 sizeOf47 rfl rfl λw hm=>gE (gZ λa hf=>⟨d8,sV d9 0 1 1,hf.sb rfl,hm.pk [1,2,3,4,5,6,7,8,9,10,11,12,13,14,15,0] rfl rfl⟩))
    exact gcf rfl (gSk (gZ λa hf=>⟨.slice bL aC.ins.length bM,.slice bN aC.next_.length bO,hf.sb rfl,hm.pk [0,1,2,3,4,5,6,7,8,9,10,11,12,13,14,15] rfl rfl⟩))
   repeat clear hm
   rintro ah a w ⟨bU,bV,hf,hm⟩
   refine gv hf (gR (gF fo_44_2 rfl (gL hm 3 isAgg42 rfl (gY (yn (hm.blk_at 12 rfl) isAgg49 sizeOf49 rfl) (gf rfl (λa hf=>e_build (vs:=#[(0,(.agg #[.slice au aC.phis.length av,bU,nV ah.2.1,nV ah.2.2.1,bV]))]) (cs:=[.slice au aC.phis.length av,bU,nV ah.2.1,nV ah.2.2.1,bV]) et_42 hf hm rfl rfl (by kernel_rfl) rfl rfl) ?_)))))
   rintro _ w ⟨da,rfl,hm⟩
   have gH:CellsAt (hp _) da 0 [.slice au aC.phis.length av,bU,nV ah.2.1,nV ah.2.2.1,bV]:=hm.blk_part (i:=0) 0 rfl rfl
   have gK:=isSl (hm.ow_rep 14 rfl)
   have gQ:=isSl (hm.ow_rep 15 rfl)
   have gT:=isSl (hm.ow_rep 16 rfl)
   replace hm:=hm.els_nil (α:=Block_)
   replace hm:=(mk_Block_ ah.2.1 ah.2.2.1 hm 15 16 17 rfl).pk (L':=[_,_,_,_,_,_,_,_,_,_,_,_,_,_,_,_]) [0,1,2,3,4,5,6,7,8,9,10,11,12,13,14,15] rfl rfl
   replace hm:=(hm.els_cons 0 15 (by decide) rfl rfl).pk (L':=[_,_,_,_,_,_,_,_,_,_,_,_,_,_,_]) [0,1,2,3,4,5,6,7,8,9,10,11,12,13,14] rfl rfl
   replace hm:=(hm.lit_els 1 0 (by decide) rfl rfl rfl rfl).pk (L':=[_,_,_,_,_,_,_,_,_,_,_,_,_,_]) [1,2,3,4,5,6,7,8,9,10,11,12,13,14] rfl rfl
   refine gb λct db=>?_
   obtain ⟨dc,dd⟩:=appM_some.1 db
   have de:∀ u∈([aJ,sV aE aF aA.ins.length aG,nV aA.jump,nV aA.on,aW]:List Value),u.oneCell'=true:=(one_cons (rep_one (hm.ow_rep 6 rfl)) (one_cons rfl (one_cons rfl (one_cons rfl (one_cons (rep_one (hm.ow_rep 9 rfl)) one_nil)))))
   replace hm:=(hm.both 5 0 (by decide) rfl rfl).pk (L':=[_,_,_,_,_,_,_,_,_,_,_,_,_]) [1,2,3,4,5,6,7,8,9,10,11,12,13] rfl rfl
   refine gf rfl (λa hf=>e_appendHx (xs:=aa) (ys:=([(⟨aC.phis,ah.1,ah.2.1,ah.2.2.1,ah.2.2.2⟩:Block_)]:List Block_)) 4 et_42 hf hm rfl de rfl rfl rfl dc dd) ?_
   rintro _ w ⟨cu,cv,cw,rfl,hm⟩
   replace hm:Mem w0 (hp w0) _ [blk aL [nV c_.params,nV c_.regs,.slice aS c_.blocks.length aT] 44,blk aP [nV f.params,nV f.regs,.slice aY f.blocks.length aZ] 44,blk aM [nV 0,nV 0,.slice none 0 0] 44,blk aK [nV aN.params,nV aN.regs,sV ak al (aa).length am] 44,holeE cu cv ct.length cw (ct:List Block_) (b_).toNat [aJ,sV aE aF aA.ins.length aG,nV aA.jump,nV aA.on,aW],ow [aJ] aA.phis,holeE aE aF aA.ins.length aG (aA.ins:List Ins_) (i_).toNat [nV aB.op,nV aB.to,.slice aI aB.args.length aH,nV aB.n_],ow [.slice aI aB.args.length aH] aB.args,ow [aW] aA.next_,blk aX [nV aB.op,nV aB.to,.slice aI aB.args.length aH,nV aB.n_] 51,blk aj [nV aD.params,nV aD.regs,sV aq ar aD.blocks.length aV] 44,drnS (sV aq ar aD.blocks.length aV) (aD.blocks:List Block_) (ax),blk bS [.slice au aC.phis.length av,bU,nV ah.2.1,nV ah.2.2.1,bV] 49]:=hm
   refine gF fo_44_2 rfl (gS1 hm 3 sizeOf42 rfl rfl λw hm=>gE (gR (gM rfl (gP (by omega) (by omega) rfl (gA rfl (gE ?_))))))
   replace hm:=hm.drnS_next 11 rfl
   exact gZe λa hf=>⟨cu,cv,cw,hf.sb rfl,hm.pk [0,1,2,3,4,5,6,7,8,9,10,11] rfl rfl⟩
  repeat clear hm
  rintro b9 ao a w ⟨bP,bQ,bR,hf,hm⟩ gU gV
  refine gv hf (gS (gS (gR (gM rfl (gF fo_44_2 rfl (gL hm 10 isAgg42 rfl (gY (yV st_42 rfl) (gB rfl (gE (go _ 67 rfl (decide_eq_false (by omega)) (gcf rfl (gXt (gHh (gS (gR (gF fo_44_1 rfl (gL hm 0 isAgg3 rfl (gF fo_44_1 rfl (gL hm 1 isAgg3 rfl (gB rfl (gF fo_44_1 rfl (gS1 hm 3 sizeOf3 rfl rfl λw hm=>gE (gS (gR (gF fo_44_2 rfl (gL hm 3 isAgg42 rfl (gM rfl ?_)))))))))))))))))))))))))))
  have hL0_1:=hm.holeE_len 4 rfl
  obtain ⟨g9,df⟩:=hm.holeE_ex 4 rfl
  refine gI st_42 cW (idx_lt2 df hL0_1) rfl (gY (yn (hm.holeE_at 4 rfl) isAgg49 sizeOf49 rfl) (gAl hm zeroValue49 rfl λab w hm=>gSN hm 0 sizeOf49 (one_cons (rep_one (hm.ow_rep 6 rfl)) (one_cons rfl (one_cons rfl (one_cons rfl (one_cons (rep_one (hm.ow_rep 9 rfl)) one_nil))))) rfl λw hm=>gE (gS ?_)))
  have dg:=(lgE.1 b6).1
  replace hm:Mem w0 (hp w0) _ [blk ab [aJ,sV aE aF aA.ins.length aG,nV aA.jump,nV aA.on,aW] 49,blk aL [nV c_.params,nV c_.regs,.slice aS c_.blocks.length aT] 44,blk aP [nV f.params,nV f.regs,.slice aY f.blocks.length aZ] 44,blk aM [nV 0,nV 0,.slice none 0 0] 44,blk aK [nV aN.params,nV (w64 (c_.regs+f.regs)),sV bP bQ (ao).length bR] 44,holeE bP bQ ((ao).length) bR (ao:List Block_) (b_).toNat [aJ,sV aE aF aA.ins.length aG,nV aA.jump,nV aA.on,aW],ow [aJ] aA.phis,gap aE aF aA.ins.length aG (List.take (i_).toNat aA.ins:List Ins_) (List.drop (i_+1).toNat aA.ins:List Ins_),ow [.slice aI aB.args.length aH] aB.args,ow [aW] aA.next_,blk aX [nV aB.op,nV aB.to,.slice aI aB.args.length aH,nV aB.n_] 51,blk aj [nV aD.params,nV aD.regs,.slice ap aD.blocks.length aV] 44,drnV (.slice ap aD.blocks.length aV) (aD.blocks:List Block_) (b9)]:=hm.hole_gap (j:=(i_+1).toNat) 7 rfl (by have:=c4;omega)
  obtain ⟨bt,hgl0_1m⟩:=hm.gap_max 7 rfl
  refine gJg (λaO a w=>∃ (bC:Value) (ac ae af:Nat) (bA:Value),St 221 [(2,(nV b_)),(3,(nV i_)),(4,(pV aL)),(5,(pV aP)),(8,(pV aM)),(9,(pV aK)),(10,(pV aX)),(11,(nV c_.regs)),(12,(nV ((c_.blocks.length:Int)))),(13,(nV (((c_.blocks.length:Int))+((f.blocks.length:Int))))),(20,(pV ab))] w0 (hp w0) [blk aL [nV c_.params,nV c_.regs,.slice aS c_.blocks.length aT] 44,blk aP [nV f.params,nV f.regs,.slice aY f.blocks.length aZ] 44,blk aM [nV 0,nV 0,.slice none 0 0] 44,blk aK [nV aN.params,nV (w64 (c_.regs+f.regs)),sV ac ae (aO).length af] 44,holeE ac ae ((aO).length) af (aO:List Block_) (b_).toNat [aJ,sV aE aF aA.ins.length aG,nV aA.jump,nV aA.on,bC],ow [aJ] aA.phis,gap aE aF aA.ins.length aG (List.take (i_).toNat aA.ins:List Ins_) ([]:List Ins_),blk aX [nV aB.op,nV aB.to,.slice aI aB.args.length aH,nV aB.n_] 51,ow [.slice aI aB.args.length aH] aB.args,blk ab [aJ,sV aE aF aA.ins.length aG,nV aA.jump,nV aA.on,bA] 49] a w) (λaO=>?_) ?_
  ·replace hm : Mem w0 (hp w0) _ [blk ab [aJ, sV aE aF aA.ins.length aG, nV aA.jump, nV aA.on, aW] 49, blk aL [nV c_.params, nV c_.regs, .slice aS c_.blocks.length aT] 44, blk aP [nV f.params, nV f.regs, .slice aY f.blocks.length aZ] 44, blk aM [nV 0, nV 0, .slice none 0 0] 44, blk aK [nV aN.params, nV (w64 (c_.regs + f.regs)), sV bP bQ (ao).length bR] 44, holeE bP bQ ((ao).length) bR (ao : List Block_) (b_).toNat [aJ, sV aE aF aA.ins.length aG, nV aA.jump, nV aA.on, aW], ow [aJ] aA.phis, gap aE aF aA.ins.length aG (List.take (i_).toNat aA.ins : List Ins_) (List.drop (i_ + 1).toNat aA.ins : List Ins_), ow [.slice aI aB.args.length aH] aB.args, ow [aW] aA.next_, blk aX [nV aB.op, nV aB.to, .slice aI aB.args.length aH, nV aB.n_] 51, blk aj [nV aD.params, nV aD.regs, .slice ap aD.blocks.length aV] 44, drnV (.slice ap aD.blocks.length aV) (aD.blocks : List Block_) (b9)] := hm
   refine gW (.p 0 (.p 4 (.p 6 (.p 7 (.p 10 (.p 12 (.p 14 (.q 1 (.q 5 (.p 8 (.q 11 (.q 13 (.q 15 (.e 2 (.e 3 (.e 9 (.p 16 (.e 17 (.e 18 (.p 19 (.e 20 .fin .nil)) .nil) .nil)) .nil) .nil) (.e 3 (.e 2 (.e 9 (.p 16 (.e 17 (.e 18 (.p 19 (.e 20 .fin .nil)) .nil) .nil)) .nil) (.e 9 (.e 2 (.p 16 (.e 17 (.e 18 (.p 19 (.e 20 .fin .nil)) .nil) .nil)) .nil) .nil)) .nil))))))))))))))) [1,2,3,5,9,11,13,15,17] [0,4,6,7,8,10,12,14,16,19] hm [0,1,2,3,4,5,6,8,10,11,12] [blk ab [aJ,sV aE aF aA.ins.length aG,nV aA.jump,nV aA.on,aW] 49,blk aL [nV c_.params,nV c_.regs,.slice aS c_.blocks.length aT] 44,blk aP [nV f.params,nV f.regs,.slice aY f.blocks.length aZ] 44,blk aM [nV 0,nV 0,.slice none 0 0] 44,blk aK [nV aN.params,nV (w64 (c_.regs+f.regs)),sV bP bQ (ao).length bR] 44,holeE bP bQ ((ao).length) bR (ao:List Block_) (b_).toNat [aJ,sV aE aF aA.ins.length aG,nV aA.jump,nV aA.on,aW],ow [aJ] aA.phis,ow [.slice aI aB.args.length aH] aB.args,blk aX [nV aB.op,nV aB.to,.slice aI aB.args.length aH,nV aB.n_] 51,blk aj [nV aD.params,nV aD.regs,.slice ap aD.blocks.length aV] 44,drnV (.slice ap aD.blocks.length aV) (aD.blocks:List Block_) (b9)] rfl mxo (by kernel_rfl) (λ_ _ _ h=>h.2) λw hm hS=>tP rfl (λw=>yF fo_44_2 rfl) (tP rfl (λw=>yF fo_49_1 rfl) (tP rfl (λw=>yM rfl) (tP rfl (λw=>yB rfl) (tP rfl (λw=>yF fo_49_2 rfl) (tP rfl (λw=>yF fo_49_3 rfl) (tP rfl (λw=>yF fo_49_4 rfl) (tQ rfl hS (λw hm=>yL hm 4 isAgg42 rfl) (tQ rfl hS (λw hm=>yL hm 0 isAgg46 rfl) (gb λbW dh=>?_)))))))))
   obtain ⟨ga,bX⟩:=subM_some.1 dh
   have ba:w64 (i_+1)=i_+1:=w64_id (by omega) (by omega)
   obtain ⟨gc,cN⟩:∃ nv,nv=subV (GT.sz (Ins_)) (sV aE aF aA.ins.length aG) (aA.ins.length - bW.length) aA.ins.length:=⟨_,rfl⟩
   refine tP rfl (λw=>yG rfl (yl_eq cN (y_subLI (α:=Ins_) st_46 rfl rfl rfl (by rw [ba];omega) (by rw [ba];omega) bt.2 (by rw [← bX,ba];simp only [List.length_drop,List.length_take];omega)))) (tQ rfl hS (λw hm=>yL hm 0 isAgg3 rfl) (tQ rfl hS (λw hm=>yL hm 0 isAgg3 rfl) (tQ rfl hS (λw hm=>yL hm 0 isAgg47 rfl) (gb λai c7=>gb λbc c8=>tMo ?_ ?_))))
   ·refine tf rfl rfl (fun a hf => e_build0 (α := Phi_) et_45 hm rfl) ?_
    rintro ge w hm
    refine tAk hm [1,2,3,4,5,6,7,9,11,12,13] rfl λhS=>tO (tf rfl rfl (λa hf=>e_build0 (α:=Ins_) et_46 hm rfl) ?_)
    rintro gh w hm
    refine tAk hm [2,3,4,5,6,7,8,10,12,13,14] rfl λhS=>tO ?_
    obtain ⟨di,dk⟩:=appM_some.1 c7
    replace hm:=hm.imp (c':=gap aE aF aA.ins.length aG (List.take (i_).toNat aA.ins:List Ins_) (bW:List Ins_)) 9 rfl (λF h0=>by rw [← bX,ba,show (List.take (aA.ins.length:Int).toNat aA.ins)=aA.ins from List.take_length];exact h0)
    obtain ⟨gi,hS1_1,hm⟩:=hm.gap_zsG 9 rfl
    replace hS1_1:=src_sub hS1_1 rfl (by rw [← bX];simp only [List.length_drop,List.length_take];omega) bt.2
    rw [← cN] at hS1_1
    replace hm:=(hm.both 1 0 (by decide) rfl rfl).pk (L':=[_,_,_,_,_,_,_,_,_,_,_,_,_,_,_]) [1,2,3,4,5,6,7,8,9,10,11,12,13,14,15] rfl rfl
    refine tf rfl rfl (λa hf=>e_appendE (xs:=([]:List Ins_)) (ys:=bW) 0 et_46 hf hm rfl hS1_1 rfl rfl rfl di) ?_
    rintro gj w hm
    rw [dk] at hm
    refine tAk hm [2,3,4,5,6,7,8,10,12,13,14] rfl λhS=>?_
    obtain ⟨bu,bv,rfl,gk⟩:=ro_slice (hm.ow_rep 1 rfl)
    obtain ⟨bx,bz,rfl,gm⟩:=ro_slice (hm.ow_rep 0 rfl)
    obtain ⟨bD,bE,rfl,gp⟩:=ro_slice (hm.ow_rep 11 rfl)
    refine tP rfl (λw=>yG rfl (y_build (vs:=[(0,(.slice bu ([]:List Phi_).length bv)),(1,(.slice bx ai.length bz)),(2,(nV aA.jump)),(3,(nV aA.on)),(4,(.slice bD aA.next_.length bE))]) (cs:=#[.slice bu ([]:List Phi_).length bv,.slice bx ai.length bz,nV aA.jump,nV aA.on,.slice bD aA.next_.length bE]) rfl rfl (by kernel_rfl))) (tO (tf rfl rfl (λa hf=>e_build (vs:=#[(0,(.agg #[.slice bu ([]:List Phi_).length bv,.slice bx ai.length bz,nV aA.jump,nV aA.on,.slice bD aA.next_.length bE]))]) (cs:=[.slice bu ([]:List Phi_).length bv,.slice bx ai.length bz,nV aA.jump,nV aA.on,.slice bD aA.next_.length bE]) et_42 hf hm rfl rfl (by kernel_rfl) rfl rfl) ?_))
    rintro _ w ⟨dl,rfl,hm⟩
    have gq:CellsAt (hp _) dl 0 [.slice bu ([]:List Phi_).length bv,.slice bx ai.length bz,nV aA.jump,nV aA.on,.slice bD aA.next_.length bE]:=hm.blk_part (i:=0) 0 rfl rfl
    have gt:=isSl (hm.ow_rep 2 rfl)
    have gu:=isSl (hm.ow_rep 1 rfl)
    have gw:=isSl (hm.ow_rep 12 rfl)
    replace hm:=hm.els_nil (α:=Block_)
    replace hm:=(mk_Block_ aA.jump aA.on hm 3 2 13 rfl).pk (L':=[_,_,_,_,_,_,_,_,_,_,_,_,_,_,_]) [0,1,3,4,5,6,7,8,9,10,11,12,14,15,16] rfl rfl
    replace hm:=(hm.els_cons 0 2 (by decide) rfl rfl).pk (L':=[_,_,_,_,_,_,_,_,_,_,_,_,_,_]) [0,1,3,4,5,6,7,8,9,10,11,12,13,14] rfl rfl
    replace hm:=(hm.lit_els 1 0 (by decide) rfl rfl rfl rfl).pk (L':=[_,_,_,_,_,_,_,_,_,_,_,_,_]) [1,2,3,4,5,6,7,8,9,10,11,12,13] rfl rfl
    refine tAk hm [1,2,3,4,5,6,7,9,10,11,12] rfl λhS=>tO ?_
    obtain ⟨dm,dp⟩:=appM_some.1 c8
    have dq:∀ u∈([aJ,sV aE aF aA.ins.length aG,nV aA.jump,nV aA.on,.slice bD aA.next_.length bE]:List Value),u.oneCell'=true:=(one_cons (rep_one (hm.ow_rep 7 rfl)) (one_cons rfl (one_cons rfl (one_cons rfl (one_cons rfl one_nil)))))
    replace hm:=(hm.both 6 0 (by decide) rfl rfl).pk (L':=[_,_,_,_,_,_,_,_,_,_,_,_]) [1,2,3,4,5,6,7,8,9,10,11,12] rfl rfl
    refine tf rfl rfl (λa hf=>e_appendHx (xs:=ao) (ys:=([(⟨([]:List Phi_),ai,aA.jump,aA.on,aA.next_⟩:Block_)]:List Block_)) 5 et_42 hf hm rfl dq rfl rfl rfl dm dp) ?_
    rintro _ w ⟨cx,cy,cz,rfl,hm⟩
    replace hm:Mem w0 (hp w0) _ [blk ab [aJ,sV aE aF aA.ins.length aG,nV aA.jump,nV aA.on,.slice bD aA.next_.length bE] 49,blk aL [nV c_.params,nV c_.regs,.slice aS c_.blocks.length aT] 44,blk aP [nV f.params,nV f.regs,.slice aY f.blocks.length aZ] 44,blk aM [nV 0,nV 0,.slice none 0 0] 44,blk aK [nV aN.params,nV (w64 (c_.regs+f.regs)),sV bP bQ (ao).length bR] 44,holeE cx cy bc.length cz (bc:List Block_) (b_).toNat [aJ,sV aE aF aA.ins.length aG,nV aA.jump,nV aA.on,.slice bD aA.next_.length bE],ow [aJ] aA.phis,gap aE aF aA.ins.length aG (List.take (i_).toNat aA.ins:List Ins_) ([]:List Ins_),ow [.slice aI aB.args.length aH] aB.args,blk aX [nV aB.op,nV aB.to,.slice aI aB.args.length aH,nV aB.n_] 51,blk aj [nV aD.params,nV aD.regs,.slice ap aD.blocks.length aV] 44,drnV (.slice ap aD.blocks.length aV) (aD.blocks:List Block_) (b9)]:=hm
    refine tAn rfl (tP rfl (λw=>yF fo_44_2 rfl) (tO (tf0 rfl rfl (λa hf=>e_store1 4 hf hm rfl sizeOf42 rfl rfl rfl rfl rfl) ?_)))
    rintro _ w hm
    exact tAn rfl (tE (gZ λa hf=>⟨.slice bD aA.next_.length bE,cx,cy,cz,.slice bD aA.next_.length bE,hf.sb rfl,hm.pk [1,2,3,4,5,6,7,9,8,0] rfl rfl⟩))
   refine tO (tf rfl rfl (λa hf=>e_build0 (α:=Ins_) et_46 hm rfl) ?_)
   rintro gx w hm
   refine tAk hm [1,2,3,4,5,6,7,9,11,12,13] rfl λhS=>tMo ?_ ?_
   ·refine tf rfl rfl (fun a hf => e_build0 (α := Phi_) et_45 hm rfl) ?_
    rintro gy w hm
    refine tAk hm [2,3,4,5,6,7,8,10,12,13,14] rfl λhS=>tO ?_
    obtain ⟨dr,dt⟩:=appM_some.1 c7
    replace hm:=hm.imp (c':=gap aE aF aA.ins.length aG (List.take (i_).toNat aA.ins:List Ins_) (bW:List Ins_)) 9 rfl (λF h0=>by rw [← bX,ba,show (List.take (aA.ins.length:Int).toNat aA.ins)=aA.ins from List.take_length];exact h0)
    obtain ⟨hD,hS1_2,hm⟩:=hm.gap_zsG 9 rfl
    replace hS1_2:=src_sub hS1_2 rfl (by rw [← bX];simp only [List.length_drop,List.length_take];omega) bt.2
    rw [← cN] at hS1_2
    replace hm:=(hm.both 2 0 (by decide) rfl rfl).pk (L':=[_,_,_,_,_,_,_,_,_,_,_,_,_,_,_]) [1,2,3,4,5,6,7,8,9,10,11,12,13,14,15] rfl rfl
    refine tf rfl rfl (λa hf=>e_appendE (xs:=([]:List Ins_)) (ys:=bW) 1 et_46 hf hm rfl hS1_2 rfl rfl rfl dr) ?_
    rintro hO w hm
    rw [dt] at hm
    refine tAk hm [2,3,4,5,6,7,8,10,12,13,14] rfl λhS=>?_
    obtain ⟨cA,cB,rfl,hU⟩:=ro_slice (hm.ow_rep 0 rfl)
    obtain ⟨cC,cD,rfl,hZ⟩:=ro_slice (hm.ow_rep 1 rfl)
    obtain ⟨bF,bG,rfl,h9⟩:=ro_slice (hm.ow_rep 11 rfl)
    refine tP rfl (λw=>yG rfl (y_build (vs:=[(0,(.slice cA ([]:List Phi_).length cB)),(1,(.slice cC ai.length cD)),(2,(nV aA.jump)),(3,(nV aA.on)),(4,(.slice bF aA.next_.length bG))]) (cs:=#[.slice cA ([]:List Phi_).length cB,.slice cC ai.length cD,nV aA.jump,nV aA.on,.slice bF aA.next_.length bG]) rfl rfl (by kernel_rfl))) (tO (tf rfl rfl (λa hf=>e_build (vs:=#[(0,(.agg #[.slice cA ([]:List Phi_).length cB,.slice cC ai.length cD,nV aA.jump,nV aA.on,.slice bF aA.next_.length bG]))]) (cs:=[.slice cA ([]:List Phi_).length cB,.slice cC ai.length cD,nV aA.jump,nV aA.on,.slice bF aA.next_.length bG]) et_42 hf hm rfl rfl (by kernel_rfl) rfl rfl) ?_))
    rintro _ w ⟨du,rfl,hm⟩
    have iA:CellsAt (hp _) du 0 [.slice cA ([]:List Phi_).length cB,.slice cC ai.length cD,nV aA.jump,nV aA.on,.slice bF aA.next_.length bG]:=hm.blk_part (i:=0) 0 rfl rfl
    have iB:=isSl (hm.ow_rep 1 rfl)
    have iC:=isSl (hm.ow_rep 2 rfl)
    have iD:=isSl (hm.ow_rep 12 rfl)
    replace hm:=hm.els_nil (α:=Block_)
    replace hm:=(mk_Block_ aA.jump aA.on hm 2 3 13 rfl).pk (L':=[_,_,_,_,_,_,_,_,_,_,_,_,_,_,_]) [0,1,2,4,5,6,7,8,9,10,11,12,14,15,16] rfl rfl
    replace hm:=(hm.els_cons 0 2 (by decide) rfl rfl).pk (L':=[_,_,_,_,_,_,_,_,_,_,_,_,_,_]) [0,1,3,4,5,6,7,8,9,10,11,12,13,14] rfl rfl
    replace hm:=(hm.lit_els 1 0 (by decide) rfl rfl rfl rfl).pk (L':=[_,_,_,_,_,_,_,_,_,_,_,_,_]) [1,2,3,4,5,6,7,8,9,10,11,12,13] rfl rfl
    refine tAk hm [1,2,3,4,5,6,7,9,10,11,12] rfl λhS=>tO ?_
    obtain ⟨dv,dw⟩:=appM_some.1 c8
    have dx:∀ u∈([aJ,sV aE aF aA.ins.length aG,nV aA.jump,nV aA.on,.slice bF aA.next_.length bG]:List Value),u.oneCell'=true:=(one_cons (rep_one (hm.ow_rep 7 rfl)) (one_cons rfl (one_cons rfl (one_cons rfl (one_cons rfl one_nil)))))
    replace hm:=(hm.both 6 0 (by decide) rfl rfl).pk (L':=[_,_,_,_,_,_,_,_,_,_,_,_]) [1,2,3,4,5,6,7,8,9,10,11,12] rfl rfl
    refine tf rfl rfl (λa hf=>e_appendHx (xs:=ao) (ys:=([(⟨([]:List Phi_),ai,aA.jump,aA.on,aA.next_⟩:Block_)]:List Block_)) 5 et_42 hf hm rfl dx rfl rfl rfl dv dw) ?_
    rintro _ w ⟨dA,dB,dC,rfl,hm⟩
    replace hm:Mem w0 (hp w0) _ [blk ab [aJ,sV aE aF aA.ins.length aG,nV aA.jump,nV aA.on,.slice bF aA.next_.length bG] 49,blk aL [nV c_.params,nV c_.regs,.slice aS c_.blocks.length aT] 44,blk aP [nV f.params,nV f.regs,.slice aY f.blocks.length aZ] 44,blk aM [nV 0,nV 0,.slice none 0 0] 44,blk aK [nV aN.params,nV (w64 (c_.regs+f.regs)),sV bP bQ (ao).length bR] 44,holeE dA dB bc.length dC (bc:List Block_) (b_).toNat [aJ,sV aE aF aA.ins.length aG,nV aA.jump,nV aA.on,.slice bF aA.next_.length bG],ow [aJ] aA.phis,gap aE aF aA.ins.length aG (List.take (i_).toNat aA.ins:List Ins_) ([]:List Ins_),ow [.slice aI aB.args.length aH] aB.args,blk aX [nV aB.op,nV aB.to,.slice aI aB.args.length aH,nV aB.n_] 51,blk aj [nV aD.params,nV aD.regs,.slice ap aD.blocks.length aV] 44,drnV (.slice ap aD.blocks.length aV) (aD.blocks:List Block_) (b9)]:=hm
    refine tAn rfl (tP rfl (λw=>yF fo_44_2 rfl) (tO (tf0 rfl rfl (λa hf=>e_store1 4 hf hm rfl sizeOf42 rfl rfl rfl rfl rfl) ?_)))
    rintro _ w hm
    exact tAn rfl (tE (gZ λa hf=>⟨.slice bF aA.next_.length bG,dA,dB,dC,.slice bF aA.next_.length bG,hf.sb rfl,hm.pk [1,2,3,4,5,6,7,9,8,0] rfl rfl⟩))
   refine tO ?_
   obtain ⟨dy,dz⟩:=appM_some.1 c7
   replace hm:=hm.imp (c':=gap aE aF aA.ins.length aG (List.take (i_).toNat aA.ins:List Ins_) (bW:List Ins_)) 8 rfl (λF h0=>by rw [← bX,ba,show (List.take (aA.ins.length:Int).toNat aA.ins)=aA.ins from List.take_length];exact h0)
   obtain ⟨iE,hS1_3,hm⟩:=hm.gap_zsG 8 rfl
   replace hS1_3:=src_sub hS1_3 rfl (by rw [← bX];simp only [List.length_drop,List.length_take];omega) bt.2
   rw [← cN] at hS1_3
   replace hm:=(hm.both 1 0 (by decide) rfl rfl).pk (L':=[_,_,_,_,_,_,_,_,_,_,_,_,_,_]) [1,2,3,4,5,6,7,8,9,10,11,12,13,14] rfl rfl
   refine tf rfl rfl (λa hf=>e_appendE (xs:=([]:List Ins_)) (ys:=bW) 0 et_46 hf hm rfl hS1_3 rfl rfl rfl dy) ?_
   rintro iF w hm
   rw [dz] at hm
   refine tAk hm [1,2,3,4,5,6,7,9,11,12,13] rfl λhS=>tO (tf rfl rfl (λa hf=>e_build0 (α:=Phi_) et_45 hm rfl) ?_)
   rintro iG w hm
   refine tAk hm [2,3,4,5,6,7,8,10,12,13,14] rfl λhS=>?_
   obtain ⟨cE,cF,rfl,iH⟩:=ro_slice (hm.ow_rep 0 rfl)
   obtain ⟨cG,cH,rfl,iI⟩:=ro_slice (hm.ow_rep 1 rfl)
   obtain ⟨bH,bJ,rfl,iJ⟩:=ro_slice (hm.ow_rep 11 rfl)
   refine tP rfl (λw=>yG rfl (y_build (vs:=[(0,(.slice cE ([]:List Phi_).length cF)),(1,(.slice cG ai.length cH)),(2,(nV aA.jump)),(3,(nV aA.on)),(4,(.slice bH aA.next_.length bJ))]) (cs:=#[.slice cE ([]:List Phi_).length cF,.slice cG ai.length cH,nV aA.jump,nV aA.on,.slice bH aA.next_.length bJ]) rfl rfl (by kernel_rfl))) (tO (tf rfl rfl (λa hf=>e_build (vs:=#[(0,(.agg #[.slice cE ([]:List Phi_).length cF,.slice cG ai.length cH,nV aA.jump,nV aA.on,.slice bH aA.next_.length bJ]))]) (cs:=[.slice cE ([]:List Phi_).length cF,.slice cG ai.length cH,nV aA.jump,nV aA.on,.slice bH aA.next_.length bJ]) et_42 hf hm rfl rfl (by kernel_rfl) rfl rfl) ?_))
   rintro _ w ⟨eA,rfl,hm⟩
   have iK:CellsAt (hp _) eA 0 [.slice cE ([]:List Phi_).length cF,.slice cG ai.length cH,nV aA.jump,nV aA.on,.slice bH aA.next_.length bJ]:=hm.blk_part (i:=0) 0 rfl rfl
   have iL:=isSl (hm.ow_rep 1 rfl)
   have iM:=isSl (hm.ow_rep 2 rfl)
   have iN:=isSl (hm.ow_rep 12 rfl)
   replace hm:=hm.els_nil (α:=Block_)
   replace hm:=(mk_Block_ aA.jump aA.on hm 2 3 13 rfl).pk (L':=[_,_,_,_,_,_,_,_,_,_,_,_,_,_,_]) [0,1,2,4,5,6,7,8,9,10,11,12,14,15,16] rfl rfl
   replace hm:=(hm.els_cons 0 2 (by decide) rfl rfl).pk (L':=[_,_,_,_,_,_,_,_,_,_,_,_,_,_]) [0,1,3,4,5,6,7,8,9,10,11,12,13,14] rfl rfl
   replace hm:=(hm.lit_els 1 0 (by decide) rfl rfl rfl rfl).pk (L':=[_,_,_,_,_,_,_,_,_,_,_,_,_]) [1,2,3,4,5,6,7,8,9,10,11,12,13] rfl rfl
   refine tAk hm [1,2,3,4,5,6,7,9,10,11,12] rfl λhS=>tO ?_
   obtain ⟨eB,eC⟩:=appM_some.1 c8
   have eD:∀ u∈([aJ,sV aE aF aA.ins.length aG,nV aA.jump,nV aA.on,.slice bH aA.next_.length bJ]:List Value),u.oneCell'=true:=(one_cons (rep_one (hm.ow_rep 7 rfl)) (one_cons rfl (one_cons rfl (one_cons rfl (one_cons rfl one_nil)))))
   replace hm:=(hm.both 6 0 (by decide) rfl rfl).pk (L':=[_,_,_,_,_,_,_,_,_,_,_,_]) [1,2,3,4,5,6,7,8,9,10,11,12] rfl rfl
   refine tf rfl rfl (λa hf=>e_appendHx (xs:=ao) (ys:=([(⟨([]:List Phi_),ai,aA.jump,aA.on,aA.next_⟩:Block_)]:List Block_)) 5 et_42 hf hm rfl eD rfl rfl rfl eB eC) ?_
   rintro _ w ⟨dD,dE,dF,rfl,hm⟩
   replace hm:Mem w0 (hp w0) _ [blk ab [aJ,sV aE aF aA.ins.length aG,nV aA.jump,nV aA.on,.slice bH aA.next_.length bJ] 49,blk aL [nV c_.params,nV c_.regs,.slice aS c_.blocks.length aT] 44,blk aP [nV f.params,nV f.regs,.slice aY f.blocks.length aZ] 44,blk aM [nV 0,nV 0,.slice none 0 0] 44,blk aK [nV aN.params,nV (w64 (c_.regs+f.regs)),sV bP bQ (ao).length bR] 44,holeE dD dE bc.length dF (bc:List Block_) (b_).toNat [aJ,sV aE aF aA.ins.length aG,nV aA.jump,nV aA.on,.slice bH aA.next_.length bJ],ow [aJ] aA.phis,gap aE aF aA.ins.length aG (List.take (i_).toNat aA.ins:List Ins_) ([]:List Ins_),ow [.slice aI aB.args.length aH] aB.args,blk aX [nV aB.op,nV aB.to,.slice aI aB.args.length aH,nV aB.n_] 51,blk aj [nV aD.params,nV aD.regs,.slice ap aD.blocks.length aV] 44,drnV (.slice ap aD.blocks.length aV) (aD.blocks:List Block_) (b9)]:=hm
   refine tAn rfl (tP rfl (λw=>yF fo_44_2 rfl) (tO (tf0 rfl rfl (λa hf=>e_store1 4 hf hm rfl sizeOf42 rfl rfl rfl rfl rfl) ?_)))
   rintro _ w hm
   exact tAn rfl (tE (gZ λa hf=>⟨.slice bH aA.next_.length bJ,dD,dE,dF,.slice bH aA.next_.length bJ,hf.sb rfl,hm.pk [1,2,3,4,5,6,7,9,8,0] rfl rfl⟩))
  repeat clear hm
  rintro aO a w ⟨bC,ac,ae,af,bA,hf,hm⟩
  refine gv hf (gS (gR (gf rfl (λa hf=>e_build0 (α:=Ins_) et_46 hm rfl) ?_)))
  rintro iO w hm
  refine gF fo_49_1 rfl (gL hm 10 isAgg46 rfl (gM rfl (gb λc9 eE=>?_)))
  obtain ⟨iP,dG⟩:=subM_some.1 eE
  refine gY (yG rfl (y_subHI (α:=Ins_) (n:=c9.length) st_46 rfl rfl rfl c4 dg bt.2 (by rw [← dG];simp only [List.length_drop,List.length_take];omega))) (gb λeF eG=>?_)
  obtain ⟨eH,eI⟩:=appM_some.1 eG
  replace hm:=hm.imp (c':=gap aE aF aA.ins.length aG (c9:List Ins_) ([]:List Ins_)) 7 rfl (λF h0=>by rw [← dG];exact h0)
  obtain ⟨iQ,hS0_1,hm⟩:=hm.gap_ys 7 rfl
  replace hm:=(hm.both 1 0 (by decide) rfl rfl).pk (L':=[_,_,_,_,_,_,_,_,_,_,_]) [1,2,3,4,5,6,7,8,9,10,11] rfl rfl
  replace hm:=hm.pk (L':=[_,_,_,_,_,_,_,_,_,_]) [0,1,2,3,4,5,6,8,9,10] rfl rfl
  refine gf rfl (λa hf=>e_appendE (xs:=([]:List Ins_)) (ys:=c9) 0 et_46 hf hm rfl (hS0_1 _) rfl rfl rfl eH) ?_
  rintro iR w hm
  rw [eI] at hm
  refine gA rfl (gE (gS (gS (gR (gA rfl (gE ?_))))))
  obtain ⟨aQ,aR,rfl,iS⟩:=ro_slice (hm.ow_rep 6 rfl)
  obtain ⟨eJ,eK,rfl,iT⟩:=ro_slice (hm.ow_rep 0 rfl)
  refine gBk (gNg (λbB cO a w=>∃ (cP cQ:Value),St 221 [(2,(nV b_)),(4,(pV aL)),(5,(pV aP)),(8,(pV aM)),(9,(pV aK)),(10,(pV aX)),(11,(nV c_.regs)),(12,(nV ((c_.blocks.length:Int)))),(13,(nV (((c_.blocks.length:Int))+((f.blocks.length:Int))))),(20,(pV ab)),(21,cQ),(22,(nV bB))] w0 (hp w0) [blk aL [nV c_.params,nV c_.regs,.slice aS c_.blocks.length aT] 44,blk aP [nV f.params,nV f.regs,.slice aY f.blocks.length aZ] 44,blk aM [nV 0,nV 0,.slice none 0 0] 44,blk aK [nV aN.params,nV (w64 (c_.regs+f.regs)),sV ac ae (aO).length af] 44,holeE ac ae ((aO).length) af (aO:List Block_) (b_).toNat [.slice aQ aA.phis.length aR,sV aE aF aA.ins.length aG,nV aA.jump,nV aA.on,bC],ow [.slice aQ aA.phis.length aR] aA.phis,blk aX [nV aB.op,nV aB.to,.slice aI aB.args.length aH,nV aB.n_] 51,ow [.slice aI aB.args.length aH] aB.args,blk ab [.slice aQ aA.phis.length aR,cP,nV aA.jump,nV aA.on,bA] 49,ow [cQ] cO] a w) (λa hf=>⟨sV aE aF aA.ins.length aG,.slice eJ eF.length eK,hf.sb rfl,hm.pk [1,2,3,4,5,6,7,8,9,0] rfl rfl⟩) ?_ ?_)
  ·repeat clear hm
   rintro _ _ bB cO a w ⟨cP,cQ,hf,hm⟩ iU iV iW _
   refine gv hf (gS (gS (gR (gM rfl (gF fo_51_2 rfl (gL hm 6 isAgg47 rfl (gY (yV st_47 rfl) (gB rfl (gE (go _ 159 rfl (decide_eq_true (by omega)) (gct rfl (gSk (gS (gBk (gR (gM rfl (gM rfl (gM rfl (gB rfl (gF fo_51_2 rfl (gL hm 6 isAgg47 rfl (gM rfl (gg λbd eL ca=>?_)))))))))))))))))))))))
   obtain ⟨dH,dI,iX,he⟩:=idx_form (hm.ow_rep 7 rfl) ca
   obtain ⟨rfl,_,rfl⟩:=sl3 he
   refine gI st_47 eL (idx_lt ca) rfl (gY (yl isAgg3 ((flat_cells (cs:=[nV bd]) (hm.ow_rep 7 rfl) ca rfl).cell (j:=0) rfl) rfl) (gf rfl (λa hf=>e_build (vs:=#[(0,(nV bd))]) (cs:=[nV bd]) et_47 hf hm rfl rfl (by kernel_rfl) rfl rfl) ?_))
   rintro _ w ⟨be,rfl,hm⟩
   replace hm:=hm.lit (xs:=([bd]:List Int)) 0 rfl rfl rfl rfl
   refine gY (yG rfl (y_build (vs:=[(0,(nV 2)),(1,(nV (w64 (c_.regs+bB)))),(2,(sV be 0 1 1))]) (cs:=#[nV 2,nV (w64 (c_.regs+bB)),sV be 0 1 1,nV 0]) rfl rfl (by kernel_rfl))) (gf rfl (λa hf=>e_build (vs:=#[(0,(.agg #[nV 2,nV (w64 (c_.regs+bB)),sV be 0 1 1,nV 0]))]) (cs:=[nV 2,nV (w64 (c_.regs+bB)),sV be 0 1 1,nV 0]) et_46 hf hm rfl rfl (by kernel_rfl) rfl rfl) ?_)
   rintro _ w ⟨eM,rfl,hm⟩
   replace hm:=hm.els_nil (α:=Ins_)
   replace hm:Mem w0 (hp w0) _ [els [] ([]:List Ins_),blk eM [nV 2,nV (w64 (c_.regs+bB)),sV be 0 1 1,nV 0] 51,ow [nV 2,nV (w64 (c_.regs+bB)),sV be 0 1 1,nV 0] ((⟨2,w64 (c_.regs+bB),([bd]:List Int),0⟩:Ins_):Ins_),blk aL [nV c_.params,nV c_.regs,.slice aS c_.blocks.length aT] 44,blk aP [nV f.params,nV f.regs,.slice aY f.blocks.length aZ] 44,blk aM [nV 0,nV 0,.slice none 0 0] 44,blk aK [nV aN.params,nV (w64 (c_.regs+f.regs)),sV ac ae (aO).length af] 44,holeE ac ae ((aO).length) af (aO:List Block_) (b_).toNat [.slice aQ aA.phis.length aR,sV aE aF aA.ins.length aG,nV aA.jump,nV aA.on,bC],ow [.slice aQ aA.phis.length aR] aA.phis,blk aX [nV aB.op,nV aB.to,sV dH dI aB.args.length aH,nV aB.n_] 51,ow [sV dH dI aB.args.length aH] aB.args,blk ab [.slice aQ aA.phis.length aR,cP,nV aA.jump,nV aA.on,bA] 49,ow [cQ] cO]:=mk_Ins_ 2 (w64 (c_.regs+bB)) 0 hm 2 rfl
   replace hm:=(hm.els_cons 0 2 (by decide) rfl rfl).pk (L':=[_,_,_,_,_,_,_,_,_,_,_,_]) [0,1,3,4,5,6,7,8,9,10,11,12] rfl rfl
   replace hm:=(hm.lit_els 1 0 (by decide) rfl rfl rfl rfl).pk (L':=[_,_,_,_,_,_,_,_,_,_,_]) [1,2,3,4,5,6,7,8,9,10,11] rfl rfl
   refine gb λiY eN=>?_
   obtain ⟨eO,eP⟩:=appM_some.1 eN
   replace hm:=(hm.both 10 0 (by decide) rfl rfl).pk (L':=[_,_,_,_,_,_,_,_,_,_]) [1,2,3,4,5,6,7,8,9,10] rfl rfl
   refine gf rfl (λa hf=>e_appendD (xs:=cO) (ys:=([(⟨2,w64 (c_.regs+bB),([bd]:List Int),0⟩:Ins_)]:List Ins_)) 9 et_46 hf hm rfl rfl rfl rfl eO) ?_
   rintro eQ w hm
   rw [eP] at hm
   exact gA rfl (gE (gR (gM rfl (gP (by omega) (by omega) rfl (gA rfl (gE (gZe λa hf=>⟨cP,eQ,hf.sb rfl,hm.pk [0,1,2,3,4,5,6,7,8,9] rfl rfl⟩)))))))
  repeat clear hm
  rintro iZ dJ a w ⟨bY,eR,hf,hm⟩ i4 i5
  refine gv hf (gS (gS (gR (gM rfl (gF fo_51_2 rfl (gL hm 6 isAgg47 rfl (gY (yV st_47 rfl) (gB rfl (gE (go _ 159 rfl (decide_eq_false (by omega)) (gcf rfl (gXt (gHh (gS (gR (gY (yn (hm.blk_at 1 rfl) isAgg44 sizeOf44 rfl) (gCg rfl call47 (spec_l12Live_ok _ f (.slice aY f.blocks.length aZ) (hm.now h2)) ?_)))))))))))))))))
  rintro cb i6 i7 w ⟨i8,eS,rfl,hB⟩
  replace hm:=hm.give hB;clear hB
  refine gY (yG rfl (y_field1 underlying76 rfl rfl isAgg74 rfl rfl rfl)) (gg λaw eT cR=>?_)
  obtain ⟨dK,dL,eU,he⟩:=idx_form' (hm.ow_rep 0 rfl) cR
  subst he
  obtain ⟨_,_,dM,eV⟩:=ro_get' (hm.ow_rep 0 rfl) cR
  have cd:=eV
  obtain ⟨dN,rfl,-⟩:=id cd
  replace cd:GT.rep (hp _) [dN] aw:=cd
  replace dM:CellsAt (hp _) dK (dL+(0:Int).toNat*1) [dN]:=dM
  refine gI st_74 eT (idx_lt cR) rfl ?_
  obtain ⟨_,eW,hm⟩:=hm.openE 0 rfl cR
  have eX:=hm.ow_rep 0 rfl
  have cS:=eX
  obtain ⟨ce,rfl,-⟩:=id cS
  replace cS:GT.rep (hp _) [ce] aw:=cS
  clear eW cS
  replace hm:Mem w0 (hp w0) _ [ow [ce] (aw:List Bool),holeE dK dL cb.ins.length eU (cb.ins:List (List Bool)) (0:Int).toNat [ce],ow [eS] cb.outs,blk aL [nV c_.params,nV c_.regs,.slice aS c_.blocks.length aT] 44,blk aP [nV f.params,nV f.regs,.slice aY f.blocks.length aZ] 44,blk aM [nV 0,nV 0,.slice none 0 0] 44,blk aK [nV aN.params,nV (w64 (c_.regs+f.regs)),sV ac ae (aO).length af] 44,holeE ac ae ((aO).length) af (aO:List Block_) (b_).toNat [.slice aQ aA.phis.length aR,sV aE aF aA.ins.length aG,nV aA.jump,nV aA.on,bC],ow [.slice aQ aA.phis.length aR] aA.phis,blk aX [nV aB.op,nV aB.to,.slice aI aB.args.length aH,nV aB.n_] 51,ow [.slice aI aB.args.length aH] aB.args,blk ab [.slice aQ aA.phis.length aR,bY,nV aA.jump,nV aA.on,bA] 49,ow [eR] dJ]:=hm
  replace hm:=hm.pk (L':=[_,_,_,_,_,_,_,_,_,_,_,_,_]) [0,1,2,3,4,5,6,7,8,9,10,11,12] rfl rfl
  refine gY (yl isAgg73 ((hm.holeE_at 1 rfl).cell (j:=0) rfl) rfl) (gA rfl (gE (gS (gS (gR (gF fo_44_0 rfl (gL hm 4 isAgg3 rfl (gA rfl (gE ?_)))))))))
  obtain ⟨eY,eZ,rfl,i9⟩:=ro_slice (hm.ow_rep 12 rfl)
  obtain ⟨cT,bZ,rfl,ib⟩:=ro_slice (hm.ow_rep 0 rfl)
  refine gJg (λay a w=>∃ (cf:Value),St 221 [(2,(nV b_)),(4,(pV aL)),(8,(pV aM)),(9,(pV aK)),(12,(nV ((c_.blocks.length:Int)))),(13,(nV (((c_.blocks.length:Int))+((f.blocks.length:Int))))),(20,(pV ab)),(21,cf)] w0 (hp w0) [blk aL [nV c_.params,nV c_.regs,.slice aS c_.blocks.length aT] 44,blk aM [nV 0,nV 0,.slice none 0 0] 44,blk aK [nV aN.params,nV (w64 (c_.regs+f.regs)),sV ac ae (aO).length af] 44,holeE ac ae ((aO).length) af (aO:List Block_) (b_).toNat [.slice aQ aA.phis.length aR,sV aE aF aA.ins.length aG,nV aA.jump,nV aA.on,bC],ow [.slice aQ aA.phis.length aR] aA.phis,blk ab [.slice aQ aA.phis.length aR,bY,nV aA.jump,nV aA.on,bA] 49,ow [cf] ay] a w) (λay=>?_) ?_
  ·refine gBk (gMg (fun an a w => ∃ (bf : Value), St 221 [(2, (nV b_)), (4, (pV aL)), (5, (pV aP)), (8, (pV aM)), (9, (pV aK)), (11, (nV c_.regs)), (12, (nV ((c_.blocks.length : Int)))), (13, (nV (((c_.blocks.length : Int)) + ((f.blocks.length : Int))))), (20, (pV ab)), (21, bf), (23, (.slice cT aw.length bZ)), (24, (nV an.2))] w0 (hp w0) [blk aL [nV c_.params, nV c_.regs, .slice aS c_.blocks.length aT] 44, blk aP [nV f.params, nV f.regs, .slice aY f.blocks.length aZ] 44, blk aM [nV 0, nV 0, .slice none 0 0] 44, blk aK [nV aN.params, nV (w64 (c_.regs + f.regs)), sV ac ae (aO).length af] 44, holeE ac ae ((aO).length) af (aO : List Block_) (b_).toNat [.slice aQ aA.phis.length aR, sV aE aF aA.ins.length aG, nV aA.jump, nV aA.on, bC], ow [.slice aQ aA.phis.length aR] aA.phis, blk ab [.slice aQ aA.phis.length aR, bY, nV aA.jump, nV aA.on, bA] 49, ow [bf] an.1, ow [.slice cT aw.length bZ] aw] a w) (fun a hf => ⟨.slice eY dJ.length eZ, hf.sb rfl, hm.pk [3, 4, 5, 6, 7, 8, 11, 12, 0] rfl rfl⟩) ?_)
   repeat clear hm
   rintro ic ea an a w ⟨bf,hf,hm⟩ ie eb
   refine gv hf (gS (gS (gR (gM rfl (gF fo_44_1 rfl (gL hm 1 isAgg3 rfl (gB rfl (gE (gsd 185 rfl (λec=>?_) λec=>?_)))))))))
   ·refine gct rfl (gSk (gS (gJg (fun cg a w => ∃ (cU : Value), St 221 [(2, (nV b_)), (4, (pV aL)), (5, (pV aP)), (8, (pV aM)), (9, (pV aK)), (11, (nV c_.regs)), (12, (nV ((c_.blocks.length : Int)))), (13, (nV (((c_.blocks.length : Int)) + ((f.blocks.length : Int))))), (20, (pV ab)), (21, cU), (23, (.slice cT aw.length bZ)), (24, (nV an.2))] w0 (hp w0) [blk aL [nV c_.params, nV c_.regs, .slice aS c_.blocks.length aT] 44, blk aP [nV f.params, nV f.regs, .slice aY f.blocks.length aZ] 44, blk aM [nV 0, nV 0, .slice none 0 0] 44, blk aK [nV aN.params, nV (w64 (c_.regs + f.regs)), sV ac ae (aO).length af] 44, holeE ac ae ((aO).length) af (aO : List Block_) (b_).toNat [.slice aQ aA.phis.length aR, sV aE aF aA.ins.length aG, nV aA.jump, nV aA.on, bC], ow [.slice aQ aA.phis.length aR] aA.phis, blk ab [.slice aQ aA.phis.length aR, bY, nV aA.jump, nV aA.on, bA] 49, ow [cU] cg, ow [.slice cT aw.length bZ] aw] a w) (fun cg => ?_) ?_)))
    ·refine gBk (gS (gR (gM rfl (gM rfl (gg fun ed ee ci => ?_)))))
     obtain ⟨cj,ck,ig,he⟩:=idx_form (hm.ow_rep 8 rfl) ci
     obtain ⟨rfl,_,rfl⟩:=sl3 he
     refine gI st_73 ee (idx_lt ci) rfl (gY (yl isAgg4 ((flat_cells (cs:=[(.bool (ed))]) (hm.ow_rep 8 rfl) ci rfl).cell (j:=0) rfl) rfl) (gE (gJg (λcl a w=>∃ (cV:Value),St 221 [(2,(nV b_)),(4,(pV aL)),(5,(pV aP)),(8,(pV aM)),(9,(pV aK)),(11,(nV c_.regs)),(12,(nV ((c_.blocks.length:Int)))),(13,(nV (((c_.blocks.length:Int))+((f.blocks.length:Int))))),(20,(pV ab)),(21,cV),(23,(sV cj ck aw.length bZ)),(24,(nV an.2))] w0 (hp w0) [blk aL [nV c_.params,nV c_.regs,.slice aS c_.blocks.length aT] 44,blk aP [nV f.params,nV f.regs,.slice aY f.blocks.length aZ] 44,blk aM [nV 0,nV 0,.slice none 0 0] 44,blk aK [nV aN.params,nV (w64 (c_.regs+f.regs)),sV ac ae (aO).length af] 44,holeE ac ae ((aO).length) af (aO:List Block_) (b_).toNat [.slice aQ aA.phis.length aR,sV aE aF aA.ins.length aG,nV aA.jump,nV aA.on,bC],ow [.slice aQ aA.phis.length aR] aA.phis,blk ab [.slice aQ aA.phis.length aR,bY,nV aA.jump,nV aA.on,bA] 49,ow [cV] cl,ow [sV cj ck aw.length bZ] aw] a w) (λcl=>?_) ?_)))
     ·refine gs 191 rfl (fun ef => ?_) fun ef => ?_
      ·refine gct rfl (gR (gM rfl (gM rfl (gM rfl (gB rfl (gf rfl (fun a hf => e_build0 (α := Int) et_47 hm rfl) ?_))))))
       rintro ii w hm
       obtain ⟨bg,bh,rfl,ij⟩:=ro_slice (hm.ow_rep 0 rfl)
       refine gY (yG rfl (y_build (vs:=[(0,(nV 1)),(1,(nV (w64 (c_.regs+an.2)))),(2,(.slice bg ([]:List Int).length bh))]) (cs:=#[nV 1,nV (w64 (c_.regs+an.2)),.slice bg ([]:List Int).length bh,nV 0]) rfl rfl (by kernel_rfl))) (gf rfl (λa hf=>e_build (vs:=#[(0,(.agg #[nV 1,nV (w64 (c_.regs+an.2)),.slice bg ([]:List Int).length bh,nV 0]))]) (cs:=[nV 1,nV (w64 (c_.regs+an.2)),.slice bg ([]:List Int).length bh,nV 0]) et_46 hf hm rfl rfl (by kernel_rfl) rfl rfl) ?_)
       rintro _ w ⟨eg,rfl,hm⟩
       replace hm:=hm.els_nil (α:=Ins_)
       replace hm:Mem w0 (hp w0) _ [els [] ([]:List Ins_),blk eg [nV 1,nV (w64 (c_.regs+an.2)),.slice bg ([]:List Int).length bh,nV 0] 51,ow [nV 1,nV (w64 (c_.regs+an.2)),.slice bg ([]:List Int).length bh,nV 0] ((⟨1,w64 (c_.regs+an.2),([]:List Int),0⟩:Ins_):Ins_),blk aL [nV c_.params,nV c_.regs,.slice aS c_.blocks.length aT] 44,blk aP [nV f.params,nV f.regs,.slice aY f.blocks.length aZ] 44,blk aM [nV 0,nV 0,.slice none 0 0] 44,blk aK [nV aN.params,nV (w64 (c_.regs+f.regs)),sV ac ae (aO).length af] 44,holeE ac ae ((aO).length) af (aO:List Block_) (b_).toNat [.slice aQ aA.phis.length aR,sV aE aF aA.ins.length aG,nV aA.jump,nV aA.on,bC],ow [.slice aQ aA.phis.length aR] aA.phis,blk ab [.slice aQ aA.phis.length aR,bY,nV aA.jump,nV aA.on,bA] 49,ow [bf] an.1,ow [sV cj ck aw.length bZ] aw]:=mk_Ins_ 1 (w64 (c_.regs+an.2)) 0 hm 2 rfl
       replace hm:=(hm.els_cons 0 2 (by decide) rfl rfl).pk (L':=[_,_,_,_,_,_,_,_,_,_,_]) [0,1,3,4,5,6,7,8,9,10,11] rfl rfl
       replace hm:=(hm.lit_els 1 0 (by decide) rfl rfl rfl rfl).pk (L':=[_,_,_,_,_,_,_,_,_,_]) [1,2,3,4,5,6,7,8,9,10] rfl rfl
       refine gb λik eh=>?_
       obtain ⟨ei,ej⟩:=appM_some.1 eh
       replace hm:=(hm.both 8 0 (by decide) rfl rfl).pk (L':=[_,_,_,_,_,_,_,_,_]) [1,2,3,4,5,6,7,8,9] rfl rfl
       refine gf rfl (λa hf=>e_appendD (xs:=an.1) (ys:=([(⟨1,w64 (c_.regs+an.2),([]:List Int),0⟩:Ins_)]:List Ins_)) 7 et_46 hf hm rfl rfl rfl rfl ei) ?_
       rintro ek w hm
       rw [ej] at hm
       exact gA rfl (gE (gZ λa hf=>⟨ek,hf.sb rfl,hm.pk [0,1,2,3,4,5,6,7,8] rfl rfl⟩))
      exact gcf rfl (gSk (gZ λa hf=>⟨bf,hf.sb rfl,hm.pk [0,1,2,3,4,5,6,7,8] rfl rfl⟩))
     repeat clear hm
     rintro cl a w ⟨cV,hf,hm⟩
     exact gv hf (gZ λa hf=>⟨cV,hf.sb rfl,hm.pk [0,1,2,3,4,5,6,7,8] rfl rfl⟩)
    repeat clear hm
    rintro cg a w ⟨cU,hf,hm⟩
    exact gv hf (gR (gM rfl (gB rfl (gA rfl (gE (gZe λa hf=>⟨cU,hf.sb rfl,hm.pk [0,1,2,3,4,5,6,7,8] rfl rfl⟩))))))
   exact gcf rfl (gXt (gHh (gLp eb ea (gZ λa hf=>⟨bf,hf.sb rfl,hm.pk [0,2,3,4,5,6,7] rfl rfl⟩))))
  repeat clear hm
  rintro ay a w ⟨cf,hf,hm⟩
  refine gv hf (gS (gR (gF fo_44_2 rfl (gL hm 2 isAgg42 rfl (gM rfl (gF fo_49_0 rfl (gL hm 5 isAgg45 rfl (gM rfl (gM rfl (gf rfl (λa hf=>e_build (vs:=#[(0,(nV ((c_.blocks.length:Int))))]) (cs:=[nV ((c_.blocks.length:Int))]) et_47 hf hm rfl rfl (by kernel_rfl) rfl rfl) ?_))))))))))
  rintro _ w ⟨bi,rfl,hm⟩
  replace hm:=hm.lit (xs:=([(c_.blocks.length:Int)]:List Int)) 0 rfl rfl rfl rfl
  obtain ⟨bj,bk,rfl,il⟩:=ro_slice (hm.ow_rep 7 rfl)
  refine gY (yG rfl (y_build (vs:=[(0,(.slice aQ aA.phis.length aR)),(1,(.slice bj ay.length bk)),(2,(nV 1)),(4,(sV bi 0 1 1))]) (cs:=#[.slice aQ aA.phis.length aR,.slice bj ay.length bk,nV 1,nV 0,sV bi 0 1 1]) rfl rfl (by kernel_rfl))) ?_
  have hL0_2:=hm.holeE_len 4 rfl
  obtain ⟨im,dO⟩:=hm.holeE_ex 4 rfl
  refine gI st_42 cW (idx_lt2 dO hL0_2) rfl ?_
  have em:∀ u∈([.slice aQ aA.phis.length aR,.slice bj ay.length bk,nV 1,nV 0,sV bi 0 1 1]:List Value),u.oneCell'=true:=(one_cons rfl (one_cons rfl (one_cons rfl (one_cons rfl (one_cons rfl one_nil)))))
  refine gf0 rfl (λa hf=>e_storeH (j:=0) (vs:=[.slice aQ aA.phis.length aR,.slice bj ay.length bk,nV 1,nV 0,sV bi 0 1 1]) 4 hf hm rfl rfl rfl sizeOf49 rfl rfl rfl em rfl) ?_
  rintro _ w hm
  replace hm:Mem w0 (hp w0) _ [ow [sV bi 0 1 1] ([(c_.blocks.length:Int)]:List Int),blk aL [nV c_.params,nV c_.regs,.slice aS c_.blocks.length aT] 44,blk aM [nV 0,nV 0,.slice none 0 0] 44,blk aK [nV aN.params,nV (w64 (c_.regs+f.regs)),sV ac ae (aO).length af] 44,holeE ac ae ((aO).length) af (aO:List Block_) (b_).toNat [.slice aQ aA.phis.length aR,.slice bj ay.length bk,nV 1,nV 0,sV bi 0 1 1],ow [.slice aQ aA.phis.length aR] aA.phis,blk ab [.slice aQ aA.phis.length aR,bY,nV aA.jump,nV aA.on,bA] 49,ow [.slice bj ay.length bk] ay]:=hm
  refine gE (gS (gS ?_))
  replace hm:=(mk_Block_ 1 0 hm 5 7 0 rfl).pk (L':=[_,_,_,_,_,_]) [1,2,3,4,5,6] rfl rfl
  replace hm:=(hm.shutE (y:=((⟨aA.phis,ay,1,0,([(c_.blocks.length:Int)]:List Int)⟩:Block_):Block_)) 3 4 (by decide) rfl rfl).pk (L':=[_,_,_,_,_]) [0,1,2,3,5] rfl rfl
  have io:=List.getElem?_set_self (a:=((⟨aA.phis,ay,1,0,([(c_.blocks.length:Int)]:List Int)⟩:Block_):Block_)) (idx_lt dO)
  refine gR (gA rfl (gE (gBk (gNg (λcm bK a w=>∃ (bm:Value),St 221 [(2,(nV b_)),(4,(pV aL)),(8,(pV aM)),(9,(pV aK)),(12,(nV ((c_.blocks.length:Int)))),(13,(nV (((c_.blocks.length:Int))+((f.blocks.length:Int))))),(25,(nV cm))] w0 (hp w0) [blk aL [nV c_.params,nV c_.regs,.slice aS c_.blocks.length aT] 44,blk aM [nV 0,nV 0,.slice none 0 0] 44,blk aK [nV bK.1,nV bK.2.1,bm] 44,ow [bm] bK.2.2] a w) (λa hf=>⟨sV ac ae (aO).length af,hf.sb rfl,hm.pk [0,1,2,3] rfl rfl⟩) ?_ ?_))))
  ·repeat clear hm
   rintro _ _ cm bK a w ⟨bm,hf,hm⟩ ip iq ir _
   refine gv hf (gS (gS (gR (gM rfl (gM rfl (gB rfl (gE (go _ 212 rfl (decide_eq_true (by omega)) (gct rfl (gSk (gS (gBk (gR (gY (yn (hm.blk_at 0 rfl) isAgg44 sizeOf44 rfl) (gM rfl (gM rfl (gM rfl ?_)))))))))))))))))
   obtain ⟨en,hle,hm1,hsub,eo⟩:=hm.take2 (L1:=[blk aK [nV bK.1,nV bK.2.1,bm] 44,ow [bm] bK.2.2]) (L2:=[blk aL [nV c_.params,nV c_.regs,.slice aS c_.blocks.length aT] 44,blk aM [nV 0,nV 0,.slice none 0 0] 44]) [2,3] [0,1] (by decide) rfl rfl
   refine gCg rfl call48 (spec_l19Phis_ok _ en c_ (.slice aS c_.blocks.length aT) (GT.mono hle h1) (⟨bK.1,bK.2.1,bK.2.2⟩:Code_) aK bm cm b_ (((c_.blocks.length:Int))+((f.blocks.length:Int))) hm1 ) ?_
   rintro iu iv iw w ⟨ep,rfl,hB⟩
   replace hm:=eo _ _ hB;clear hB
   exact gE (gR (gM rfl (gP (by omega) (by omega) rfl (gA rfl (gE (gZe λa hf=>⟨ep,hf.sb rfl,hm.pk [2,3,0,1] rfl rfl⟩))))))
  repeat clear hm
  rintro iy iz a w ⟨et,hf,hm⟩ jA jB
  exact gv hf (gS (gS (gR (gM rfl (gM rfl (gB rfl (gE (go _ 212 rfl (decide_eq_false (by omega)) (gcf rfl (gXt (gHh (gS (gR (gY (yn (hm.blk_at 2 rfl) isAgg44 sizeOf44 rfl) (gSN hm 1 sizeOf44 (one_cons rfl (one_cons rfl (one_cons (rep_one (hm.ow_rep 3 rfl)) one_nil))) rfl λw hm=>gE (gRt (grc 1 results21 hm rfl isAgg44 sizeOf44 ⟨et,rfl,hm.pk [3] rfl rfl⟩)))))))))))))))))
theorem spec_InlineCall_ok (w0 : World) (u : Unit_) (v1 : Value) (h1 : GT.rep (hp w0) [v1] u.codes) (k_ : Int) (b_ : Int) (i_ : Int) :
    ConM Tryz.prog 7 [(.agg #[v1]),nV k_,nV b_,nV i_] w0 (spec_InlineCall u k_ b_ i_) λr v w'=>∃ (x1:Value),v=(.tuple #[(.agg #[x1]),(.bool (r.2))])∧Mem w0 (hp w0) w' [ow [x1] r.1.codes]:=by
  unfold spec_InlineCall
  refine gcon func7 rfl λr=>?_
  have hm:=Mem.start w0
  refine gS (gR (gBx hm rfl λaE w hm=>gAl hm zeroValue28 rfl λaF w hm=>gA rfl (gE (gS (gS (gJ hm (λaG=>[(1,(nV k_)),(2,(nV b_)),(3,(nV i_)),(4,(pV aE)),(8,(pV aF)),(45,(.bool (aG)))]) (λaG=>[blk aE [v1] 28,blk aF [.slice none 0 0] 28]) (λaG=>?_) ?_))))))
  ·refine gR (gY (yn (hm.blk_at 1 rfl) isAgg28 sizeOf28 rfl) (gM rfl (gC hm rfl call18 (spec_l12Has_ok _ u v1 (hm.now h1) k_) fun bL bM w hm => gN rfl (gM rfl (gsn 16 rfl (fun aj => ?_) fun aj => ?_)))))
   ·exact gO rfl (gO rfl (gO rfl (gO rfl (gO rfl (gO rfl (gO rfl (gO rfl (gO rfl (gO rfl (gO rfl (gKt rfl (gM rfl (gO rfl (gO rfl (gO rfl (gO rfl (gO rfl (gO rfl (gO rfl (gO rfl (gO rfl (gO rfl (gO rfl (gO rfl (gO rfl (gO rfl (gO rfl (gKt rfl (gE (gz hm [1,0] rfl))))))))))))))))))))))))))))))
   refine gM rfl (gF fo_28_0 rfl (gL hm 1 isAgg26 rfl (gM rfl (gg λak aV aH=>?_))))
   obtain ⟨bN,bO,bP,he⟩:=idx_form' h1 aH
   subst he
   obtain ⟨bQ,aW,aM⟩:=rk_Code_ h1 aH
   refine gI st_26 aV (idx_lt aH) rfl (gF fo_44_2 rfl (gY (yl isAgg42 ((aW.mono hm.lez).cell (j:=2) rfl) rfl) ?_))
   obtain ⟨bR,bS,rfl,bT⟩:=ro_slice aM
   refine gY (yV st_42 rfl) (gY (yS (by omega) (by omega) rfl) (gC hm rfl call19 (spec_l1In_ok _ b_ 0 (((ak.blocks.length:Int)) - 1)) λbU bV w hm=>gN rfl (gKf rfl (gM rfl (gsn 29 rfl (λal=>?_) λal=>?_)))))
   ·exact gO rfl (gO rfl (gO rfl (gO rfl (gO rfl (gO rfl (gO rfl (gO rfl (gO rfl (gO rfl (gO rfl (gO rfl (gO rfl (gO rfl (gO rfl (gKt rfl (gE (gz hm [1,0] rfl)))))))))))))))))
   refine gM rfl (gF fo_28_0 rfl (gL hm 1 isAgg26 rfl (gM rfl (gI st_26 aV (idx_lt aH) rfl (gF fo_44_2 rfl (gY (yl isAgg42 ((aW.mono hm.lez).cell (j:=2) rfl) rfl) (gM rfl (gg λam an aN=>?_))))))))
   obtain ⟨bW,bX,bY,he⟩:=idx_form' aM aN
   obtain ⟨rfl,_,rfl⟩:=sl3 he
   obtain ⟨bZ,b6,b7,ao,b8,ap,b9⟩:=rk_Block_ aM aN
   refine gI st_42 an (idx_lt aN) rfl (gF fo_49_1 rfl (gY (yl isAgg46 ((ao.mono hm.lez).cell (j:=1) rfl) rfl) ?_))
   obtain ⟨ba,bc,rfl,bd⟩:=ro_slice ap
   exact gY (yV st_46 rfl) (gY (yS (by omega) (by omega) rfl) (gC hm rfl call19 (spec_l1In_ok _ i_ 0 (((am.ins.length:Int)) - 1)) λbe bf w hm=>gN rfl (gKf rfl (gE (gz hm [1,0] rfl)))))
  repeat clear hm
  intro aG w hm
  refine gs 45 rfl (λaq=>?_) λaq=>?_
  ·refine gct rfl (gS (gR (gY (yG rfl (y_build (vs := []) (cs := #[.slice none 0 0]) rfl rfl (by kernel_rfl))) (gSN hm 1 sizeOf28 (one_cons rfl one_nil) rfl fun w hm => gA rfl (gE (gRt ?_))))))
   replace hm:=hm.nilow (α:=Code_)
   exact grct 2 results7 hm rfl isAgg28 sizeOf28 ⟨.slice none 0 0,rfl,hm.pk [0] rfl rfl⟩
  refine gcf rfl (gSk (gS (gR (gF fo_28_0 rfl (gL hm 0 isAgg26 rfl (gM rfl (gg λaX aY aI=>?_)))))))
  obtain ⟨aO,aP,aQ,he⟩:=idx_form' h1 aI
  subst he
  obtain ⟨bg,aZ,aR⟩:=rk_Code_ h1 aI
  refine gI st_26 aY (idx_lt aI) rfl (gF fo_44_2 rfl (gY (yl isAgg42 ((aZ.mono hm.lez).cell (j:=2) rfl) rfl) (gM rfl (gg λbh ar aS=>?_))))
  obtain ⟨au,av,aw,he⟩:=idx_form' aR aS
  subst he
  obtain ⟨bi,bj,bk,ax,bm,aa,bp⟩:=rk_Block_ aR aS
  refine gI st_42 ar (idx_lt aS) rfl (gF fo_49_1 rfl (gY (yl isAgg46 ((ax.mono hm.lez).cell (j:=1) rfl) rfl) (gM rfl (gg λaC ay aT=>?_))))
  obtain ⟨bq,br,bs,he⟩:=idx_form' aa aT
  subst he
  obtain ⟨ab,az,bA⟩:=rk_Ins_ aa aT
  refine gI st_46 ay (idx_lt aT) rfl (gY (yn (az.mono hm.lez) isAgg51 sizeOf51 rfl) (gAl hm zeroValue51 rfl λac w hm=>gSN hm 0 sizeOf51 (one_cons rfl (one_cons rfl (one_cons (rep_one bA) (one_cons rfl one_nil)))) rfl λw hm=>gE (gS (gS (gR (gF fo_51_0 rfl (gL hm 0 isAgg3 rfl (gB rfl (gE (gsd 62 rfl (λbB=>?_) λbB=>?_))))))))))
  ·refine gct rfl (gS (gR (gY (yG rfl (y_build (vs := []) (cs := #[.slice none 0 0]) rfl rfl (by kernel_rfl))) (gSN hm 2 sizeOf28 (one_cons rfl one_nil) rfl fun w hm => gA rfl (gE (gRt ?_))))))
   replace hm:=hm.nilow (α:=Code_)
   exact grct 3 results7 hm rfl isAgg28 sizeOf28 ⟨.slice none 0 0,rfl,hm.pk [0] rfl rfl⟩
  refine gcf rfl (gSk (gS (gR (gY (yn (hm.blk_at 1 rfl) isAgg28 sizeOf28 rfl) (gCg rfl call20 (spec_l7CopyUnit_ok _ u (sV aO aP u.codes.length aQ) (hm.now h1)) ?_)))))
  rintro aB bt bu w ⟨ae,rfl,hB⟩
  replace hm:=hm.give hB;clear hB
  refine gAl hm zeroValue28 rfl λaf w hm=>gSN hm 0 sizeOf28 (one_cons (rep_one (hm.ow_rep 1 rfl)) one_nil) rfl λw hm=>gE (gS (gW (.p 0 (.p 2 (.p 3 (.p 5 (.p 8 (.p 10 (.p 14 (.p 15 (.q 1 (.q 4 (.p 6 (.q 7 (.q 9 (.e 11 (.p 12 (.e 13 (.e 16 (.p 17 (.e 18 .fin .nil)) .nil) .nil)) .nil)))))))))))))) [1,4,7,9,11,13,16] [0,2,3,5,6,8,10,12,14,15,17] hm [0,1,2,3,4] [blk af [ae] 28,ow [ae] aB.codes,blk ac [nV aC.op,nV aC.to,ab,nV aC.n_] 51,blk aE [sV aO aP u.codes.length aQ] 28,blk aF [.slice none 0 0] 28] rfl mxo (by kernel_rfl) (λ_ _ _ h=>h.2) λw hm hS=>tP rfl (λw=>yF fo_28_0 rfl) (tP rfl (λw=>yM rfl) (tP rfl (λw=>yF fo_28_0 rfl) (tP rfl (λw=>yM rfl) (tP rfl (λw=>yF fo_28_0 rfl) (tP rfl (λw=>yF fo_51_3 rfl) (tP rfl (λw=>yM rfl) (tP rfl (λw=>yM rfl) (tQ rfl hS (λw hm=>yL hm 0 isAgg26 rfl) (tQ rfl hS (λw hm=>yL hm 3 isAgg26 rfl) (tP rfl (λw=>yI st_26 aY (idx_lt aI) rfl) (tQ rfl hS (λw hm=>yn (aZ.mono hm.lez) isAgg44 sizeOf44 rfl) (tQ rfl hS (λw hm=>yL hm 3 isAgg26 rfl) (tO (tY rfl (yL hm 2 isAgg3 rfl) (tAs hS (gg λbC bD ah=>?_))))))))))))))))))
  obtain ⟨bE,bF,bG⟩:=rk_Code_ h1 ah
  refine tP rfl (λw=>yI st_26 bD (idx_lt ah) rfl) (tO (tY rfl (yn (bF.mono hm.lez) isAgg44 sizeOf44 rfl) (tAs hS (tO (gb λaA bH=>tf rfl rfl (λa hf=>e_call hf rfl call21 rfl (spec_l19Put_ok _ aX (sV au av aX.blocks.length aw) (hm.now aR) bC bE (hm.now bG) b_ i_ _ bH)) ?_)))))
  rintro bv w ⟨ai,rfl,hB⟩
  replace hm:=hm.give hB;clear hB
  refine tAk hm [1,2,3,4,5] rfl λhS=>gg λbx bJ aD=>?_
  obtain ⟨aJ,aK,aL,he⟩:=idx_form' (hm.ow_rep 2 rfl) aD
  subst he
  obtain ⟨bz,cA,cB⟩:=rk_Code_ (hm.ow_rep 2 rfl) aD
  refine tP rfl (λw=>yI st_26 bJ (idx_lt aD) rfl) (tO ?_)
  replace hm:Mem w0 (hp w0) _ [ow [nV aA.params,nV aA.regs,ai] (aA:Code_),blk af [sV aJ aK aB.codes.length aL] 28,ow [sV aJ aK aB.codes.length aL] aB.codes,blk ac [nV aC.op,nV aC.to,ab,nV aC.n_] 51,blk aE [sV aO aP u.codes.length aQ] 28,blk aF [.slice none 0 0] 28]:=mk_Code_ aA.params aA.regs hm 0 rfl
  replace hm:=(hm.both 2 0 (by decide) rfl rfl).pk (L':=[_,_,_,_,_]) [1,2,3,4,5] rfl rfl
  refine tf0 rfl rfl (λa hf=>e_putElem (x1:=(aA:Code_)) (vs:=[nV aA.params,nV aA.regs,ai]) 1 hf hm rfl aD rfl sizeOf44 rfl rfl rfl rfl) ?_
  rintro _ w hm
  have cC:=List.getElem?_set_self (a:=(aA:Code_)) (idx_lt aD)
  refine tAn rfl (tE (gS (gS (gR (gY (yn (hm.blk_at 0 rfl) isAgg28 sizeOf28 rfl) (gC hm rfl call22 (spec_UnitValid_ok _ (⟨(aB.codes.set (k_).toNat aA)⟩:Unit_) (sV aJ aK aB.codes.length aL) (hm.ow_rep 1 rfl)) λcD cE w hm=>gN rfl (gE (gsn 86 rfl (λbK=>?_) λbK=>?_))))))))
  ·refine gct rfl (gS (gR (gY (yG rfl (y_build (vs := []) (cs := #[.slice none 0 0]) rfl rfl (by kernel_rfl))) (gSN hm 4 sizeOf28 (one_cons rfl one_nil) rfl fun w hm => gA rfl (gE (gRt ?_))))))
   replace hm:=hm.nilow (α:=Code_)
   exact grct 5 results7 hm rfl isAgg28 sizeOf28 ⟨.slice none 0 0,rfl,hm.pk [0] rfl rfl⟩
  exact gcf rfl (gSk (gS (gR (gY (yn (hm.blk_at 0 rfl) isAgg28 sizeOf28 rfl) (gSN hm 4 sizeOf28 (one_cons rfl one_nil) rfl λw hm=>gA rfl (gE (gRt (grct 4 results7 hm rfl isAgg28 sizeOf28 ⟨sV aJ aK aB.codes.length aL,rfl,hm.pk [1] rfl rfl⟩))))))))
abbrev od13_1:Go.Wk.Ord:=(.e 22 (.e 24 .fin .nil) .nil)
abbrev od13_2:Go.Wk.Ord:=(.p 21 (.e 22 (.e 23 (.e 24 .fin .nil) .nil) (.e 23 od13_1 .nil)))
abbrev od13_3:Go.Wk.Ord:=(.e 14 (.p 21 od13_1) .nil)
abbrev od13_4:Go.Wk.Ord:=(.e 14 od13_2 (.e 23 od13_3 .nil))
abbrev od13_5:Go.Wk.Ord:=(.e 18 (.p 19 (.e 20 (.p 21 od13_1) .nil)) .nil)
abbrev od13_6:Go.Wk.Ord:=(.e 14 od13_5 (.e 18 (.p 19 (.q 20 od13_3)) .nil))
abbrev od13_7:Go.Wk.Ord:=(.e 5 (.p 12 (.p 13 od13_3)) .nil)
abbrev od13_8:Go.Wk.Ord:=(.e 5 (.p 12 (.p 13 od13_4)) (.e 23 od13_7 .nil))
abbrev od13_9:Go.Wk.Ord:=(.e 9 (.p 10 (.e 11 (.p 12 (.p 13 od13_3)) .nil)) .nil)
abbrev od13_10:Go.Wk.Ord:=(.p 12 (.p 13 (.e 14 (.e 18 (.p 19 (.q 20 od13_2)) (.e 23 od13_5 .nil)) (.e 18 (.p 19 (.q 20 od13_4)) (.e 23 od13_6 .nil)))))
abbrev od13_11:Go.Wk.Ord:=(.e 9 (.p 10 (.q 11 (.p 12 (.p 13 od13_4)))) (.e 23 od13_9 .nil))
abbrev od13_12:Go.Wk.Ord:=(.e 5 (.p 12 (.p 13 od13_6)) (.e 18 (.p 19 (.q 20 od13_7)) .nil))
abbrev od13_13:Go.Wk.Ord:=(.e 5 od13_9 (.e 9 (.p 10 (.q 11 od13_7)) .nil))
abbrev od13_14:Go.Wk.Ord:=(.e 9 (.p 10 (.q 11 (.p 12 (.p 13 od13_6)))) (.e 18 (.p 19 (.q 20 od13_9)) .nil))
theorem spec_InlineSmall_ok (w0 : World) (u : Unit_) (v1 : Value) (h1 : GT.rep (hp w0) [v1] u.codes) (most : Int) :
    ConM Tryz.prog 13 [(.agg #[v1]),nV most] w0 (spec_InlineSmall u most) λr v w'=>∃ (x1:Value),v=(.tuple #[(.agg #[x1]),(.bool (r.2))])∧Mem w0 (hp w0) w' [ow [x1] r.1.codes]:=by
  unfold spec_InlineSmall
  refine gcon func13 rfl λr=>?_
  have hm:=Mem.start w0
  refine gS (gR (gBx hm rfl λbt w hm=>gAl hm zeroValue28 rfl λaJ w hm=>gA rfl (gE (gS (gS (gJ hm (λbM=>[(1,(nV most)),(2,(pV bt)),(4,(pV aJ)),(20,(.bool (bM)))]) (λbM=>[blk bt [v1] 28,blk aJ [.slice none 0 0] 28]) (λbM=>?_) ?_))))))
  ·refine gR (gY (yn (hm.blk_at 1 rfl) isAgg28 sizeOf28 rfl) (gC hm rfl call22 (spec_UnitValid_ok _ u v1 (hm.now h1)) fun dQ dR w hm => gN rfl (gM rfl (gsn 17 rfl (fun cT => ?_) fun cT => ?_))))
   ·exact gO rfl (gO rfl (gKt rfl (gE (gz hm [1,0] rfl))))
   exact gM rfl (gB rfl (gKf rfl (gE (gz hm [1,0] rfl))))
  repeat clear hm
  intro bM w hm
  refine gs 20 rfl (λcU=>?_) λcU=>?_
  ·refine gct rfl (gS (gR (gY (yG rfl (y_build (vs := []) (cs := #[.slice none 0 0]) rfl rfl (by kernel_rfl))) (gSN hm 1 sizeOf28 (one_cons rfl one_nil) rfl fun w hm => gA rfl (gE (gRt ?_))))))
   replace hm:=hm.nilow (α:=Code_)
   exact grct 2 results13 hm rfl isAgg28 sizeOf28 ⟨.slice none 0 0,rfl,hm.pk [0] rfl rfl⟩
  refine gcf rfl (gSk (gS (gR (gY (yn (hm.blk_at 0 rfl) isAgg28 sizeOf28 rfl) (gCg rfl call20 (spec_l7CopyUnit_ok _ u v1 (hm.now h1)) ?_)))))
  rintro cV dS dT w ⟨dU,rfl,hB⟩
  replace hm:=hm.give hB;clear hB
  refine gAl hm zeroValue28 rfl λaK w hm=>gSN hm 0 sizeOf28 (one_cons (rep_one (hm.ow_rep 1 rfl)) one_nil) rfl λw hm=>gE (gS (gS (gR (gA rfl (gE ?_)))))
  obtain ⟨cW,cX,rfl,dV⟩:=ro_slice (hm.ow_rep 1 rfl)
  refine gJge (λbu a w=>∃ (bN:Value),St 97 [(4,(pV aJ)),(6,(pV aK))] w0 (hp w0) [blk aJ [.slice none 0 0] 28,blk aK [bN] 28,ow [bN] bu] a w) (λdW cY=>?_) ?_
  ·refine gBk (gMg (fun aI a w => ∃ (bO : Value), St 97 [(1, (nV most)), (4, (pV aJ)), (6, (pV aK)), (7, (.bool (aI.2)))] w0 (hp w0) [blk aJ [.slice none 0 0] 28, blk aK [bO] 28, ow [bO] aI.1] a w) (fun a hf => ⟨.slice cW cV.codes.length cX, hf.sb rfl, hm.pk [3, 0, 1] rfl rfl⟩) ?_)
   repeat clear hm
   rintro dX bv aI a w ⟨bO,hf,hm⟩ dY bx
   refine gv hf (gS (gS (gR (gM rfl (gE (gs 24 rfl (λcZ=>?_) λcZ=>?_))))))
   ·refine gct rfl (gSk (gBk (gS (gR (gA rfl (gE (gS (gR (gF fo_28_0 rfl (gL hm 1 isAgg26 rfl ?_))))))))))
    obtain ⟨bz,cA,rfl,dZ⟩:=ro_slice (hm.ow_rep 2 rfl)
    refine gY (yV st_26 rfl) (gY (yS (by omega) (by omega) rfl) (gA rfl (gE (gS (gR (gY (yn (hm.blk_at 1 rfl) isAgg28 sizeOf28 rfl) (gM rfl (gCg rfl call32 (spec_CallPlaces_ok _ (⟨aI.1⟩:Unit_) (.slice bz aI.1.length cA) (hm.ow_rep 2 rfl) (((aI.1.length:Int)) - 1)) ?_))))))))
    rintro aE d2 d4 w ⟨_,rfl,hB⟩
    replace hm:=hm.give hB;clear hB
    refine gA rfl (gE (gS (gR (gA rfl (gE ?_)))))
    obtain ⟨ax,aN,rfl,d5⟩:=ro_slice (hm.ow_rep 0 rfl)
    refine gJge (λbc a w=>∃ (bP:Value),St 97 [(1,(nV most)),(4,(pV aJ)),(6,(pV aK)),(7,(.bool (bc.2)))] w0 (hp w0) [blk aJ [.slice none 0 0] 28,blk aK [bP] 28,ow [bP] bc.1] a w) (λd6 c4=>?_) ?_
    ·refine gBk (gMg (fun aA a w => ∃ (ay : Value), St 97 [(1, (nV most)), (4, (pV aJ)), (6, (pV aK)), (7, (.bool (aA.2.1))), (8, (nV (((aI.1.length : Int)) - 1))), (9, (.slice ax aE.length aN)), (10, (nV aA.2.2))] w0 (hp w0) [blk aJ [.slice none 0 0] 28, blk aK [ay] 28, ow [ay] aA.1, ow [.slice ax aE.length aN] aE] a w) (fun a hf => ⟨.slice bz aI.1.length cA, hf.sb rfl, hm.pk [1, 2, 3, 0] rfl rfl⟩) ?_)
     repeat clear hm
     rintro d7 cB aA a w ⟨ay,hf,hm⟩ d8 cC
     refine gv hf (gS (gS (gJ hm (λbQ=>[(1,(nV most)),(4,(pV aJ)),(6,(pV aK)),(7,(.bool (aA.2.1))),(8,(nV (((aI.1.length:Int)) - 1))),(9,(.slice ax aE.length aN)),(10,(nV aA.2.2)),(39,(.bool (bQ)))]) (λbQ=>[blk aJ [.slice none 0 0] 28,blk aK [ay] 28,ow [ay] aA.1,ow [.slice ax aE.length aN] aE]) (λbQ=>?_) ?_)))
     ·refine gR (gM rfl (gM rfl (gY (yV st_59 rfl) (gB rfl (gM rfl (gsd 36 rfl (fun c5 => ?_) fun c5 => ?_))))))
      ·exact gM rfl (gN rfl (gKt rfl (gE (gz hm [0,1,2,3] rfl))))
      exact gO rfl (gO rfl (gKf rfl (gE (gz hm [0,1,2,3] rfl))))
     repeat clear hm
     intro bQ w hm
     refine gs 39 rfl (λc6=>?_) λc6=>?_
     ·refine gct rfl (gSk (gS (gJge (fun bd a w => ∃ (bR : Value), St 97 [(1, (nV most)), (4, (pV aJ)), (6, (pV aK)), (7, (.bool (bd.2))), (8, (nV (((aI.1.length : Int)) - 1))), (9, (.slice ax aE.length aN)), (10, (nV aA.2.2))] w0 (hp w0) [blk aJ [.slice none 0 0] 28, blk aK [bR] 28, ow [bR] bd.1, ow [.slice ax aE.length aN] aE] a w) (fun d9 c7 => ?_) ?_)))
      ·refine gBk (gS (gg fun aC c8 bC => ?_))
       obtain ⟨aF,aG,aH,he⟩:=idx_form' (hm.ow_rep 2 rfl) bC
       subst he
       obtain ⟨cD,hm⟩:=pin_Code_ hm 2 rfl bC
       have da:(((aI.1.length:Int)) - 1).toNat<aA.1.length:=(idx_lt bC)
       refine gg λae cE bD=>?_
       obtain ⟨aL,aM,db,he⟩:=idx_form' (hm.ow_rep 4 rfl) bD
       obtain ⟨rfl,_,rfl⟩:=sl3 he
       obtain ⟨_,c9,hm⟩:=hm.openE 4 rfl bD
       have ca:=hm.ow_rep 0 rfl
       have bS:=ca
       obtain ⟨aS,rfl,-⟩:=id bS
       replace bS:GT.rep (hp _) [aS] ae:=bS
       clear c9 bS
       replace hm:Mem w0 (hp w0) _ [ow [aS] (ae:List Int),ow [cD] aC.blocks,blk aJ [.slice none 0 0] 28,blk aK [sV aF aG aA.1.length aH] 28,holeE aF aG aA.1.length aH (aA.1:List Code_) (((aI.1.length:Int)) - 1).toNat [nV aC.params,nV aC.regs,cD],holeE aL aM aE.length aN (aE:List (List Int)) (aA.2.2).toNat [aS]]:=hm
       replace hm:=hm.pk (L':=[_,_,_,_,_,_]) [0,1,2,3,4,5] rfl rfl
       refine gg λaa an af=>gg λaX am ab=>gg λaB bT ao=>?_
       obtain ⟨aO,aP,aQ,he⟩:=idx_form' (hm.ow_rep 1 rfl) ao
       subst he
       obtain ⟨aY,dc,aZ,hm⟩:=pin_Block_ hm 1 rfl ao
       have dd:(aa).toNat<aC.blocks.length:=(idx_lt ao)
       refine gg λaD cF az=>?_
       obtain ⟨aT,aV,aW,he⟩:=idx_form' (hm.ow_rep 1 rfl) az
       subst he
       obtain ⟨aR,hm⟩:=pin_Ins_ hm 1 rfl az
       have de:(aX).toNat<aB.ins.length:=(idx_lt az)
       refine gJg (λcG a w=>∃ (ap:Nat),St 97 [(1,(nV most)),(4,(pV aJ)),(6,(pV aK)),(7,(.bool (aA.2.1))),(8,(nV (((aI.1.length:Int)) - 1))),(9,(sV aL aM aE.length aN)),(10,(nV aA.2.2)),(11,(pV ap))] w0 (hp w0) [blk aJ [.slice none 0 0] 28,blk aK [sV aF aG aA.1.length aH] 28,ow [sV aF aG aA.1.length aH] aA.1,ow [sV aL aM aE.length aN] aE,blk ap [nV aD.op,nV aD.to,aR,nV aD.n_] 51] a w) (λcG=>?_) ?_
       ·replace hm : Mem w0 (hp w0) _ [ow [aR] aD.args, ow [aZ] aB.next_, holeE aT aV aB.ins.length aW (aB.ins : List Ins_) (aX).toNat [nV aD.op, nV aD.to, aR, nV aD.n_], ow [aY] aB.phis, ow [aS] ae, holeE aO aP aC.blocks.length aQ (aC.blocks : List Block_) (aa).toNat [aY, sV aT aV aB.ins.length aW, nV aB.jump, nV aB.on, aZ], blk aJ [.slice none 0 0] 28, blk aK [sV aF aG aA.1.length aH] 28, holeE aF aG aA.1.length aH (aA.1 : List Code_) (((aI.1.length : Int)) - 1).toNat [nV aC.params, nV aC.regs, sV aO aP aC.blocks.length aQ], holeE aL aM aE.length aN (aE : List (List Int)) (aA.2.2).toNat [aS]] := hm
        refine gW (.p 0 (.p 2 (.p 6 (.p 7 (.p 8 (.p 15 (.p 16 (.p 17 (.q 1 (.p 3 (.p 4 (.e 5 (.e 9 (.p 10 (.q 11 od13_10)) (.e 18 (.p 19 (.q 20 od13_11)) (.e 23 od13_14 .nil))) (.e 9 (.p 10 (.q 11 (.e 5 od13_10 (.e 18 (.p 19 (.q 20 od13_8)) (.e 23 od13_12 .nil))))) (.e 18 (.p 19 (.q 20 (.e 5 od13_11 (.e 9 (.p 10 (.q 11 od13_8)) (.e 23 od13_13 .nil))))) (.e 23 (.e 5 od13_14 (.e 9 (.p 10 (.q 11 od13_12)) (.e 18 (.p 19 (.q 20 od13_13)) .nil))) .nil))))))))))))))) [1,5,9,11,14,18,20,23] [0,2,3,4,6,7,8,10,12,13,15,16,17,19,21] hm [0,1,2,3,4,5,6,7,8,9] [ow [aR] aD.args,ow [aZ] aB.next_,holeE aT aV aB.ins.length aW (aB.ins:List Ins_) (aX).toNat [nV aD.op,nV aD.to,aR,nV aD.n_],ow [aY] aB.phis,ow [aS] ae,holeE aO aP aC.blocks.length aQ (aC.blocks:List Block_) (aa).toNat [aY,sV aT aV aB.ins.length aW,nV aB.jump,nV aB.on,aZ],blk aJ [.slice none 0 0] 28,blk aK [sV aF aG aA.1.length aH] 28,holeE aF aG aA.1.length aH (aA.1:List Code_) (((aI.1.length:Int)) - 1).toNat [nV aC.params,nV aC.regs,sV aO aP aC.blocks.length aQ],holeE aL aM aE.length aN (aE:List (List Int)) (aA.2.2).toNat [aS]] rfl mxo (by kernel_rfl) (λ_ _ _ h=>h.2) λw hm hS=>tP rfl (λw=>yF fo_28_0 rfl) (tP rfl (λw=>yM rfl) (tP rfl (λw=>yM rfl) (tP rfl (λw=>yM rfl) ?_)))
        have hL6_1:=hm.holeE_len 9 rfl
        refine tP rfl (λw=>yI st_59 cE (idx_lt2 bD hL6_1) rfl) (tP rfl (λw=>yM rfl) (tP rfl (λw=>yM rfl) ?_))
        have hL6_2:=hm.holeE_len 9 rfl
        refine tP rfl (λw=>yI st_59 cE (idx_lt2 bD hL6_2) rfl) (tQ rfl hS (λw hm=>yL hm 7 isAgg26 rfl) ?_)
        have hL6_3:=hm.holeE_len 8 rfl
        refine tP rfl (λw=>yI st_26 c8 (idx_lt2 bC hL6_3) rfl) (tP rfl (λw=>yF fo_44_2 rfl) (tSh ((.e 24 .fin .nil)) (λa w=>∃ (bA:Nat),St 97 [(1,(nV most)),(4,(pV aJ)),(6,(pV aK)),(7,(.bool (aA.2.1))),(8,(nV (((aI.1.length:Int)) - 1))),(9,(sV aL aM aE.length aN)),(10,(nV aA.2.2)),(11,(pV bA)),(64,(.agg #[nV aD.op,nV aD.to,aR,nV aD.n_]))] w0 (hp w0) [blk aJ [.slice none 0 0] 28,blk aK [sV aF aG aA.1.length aH] 28,holeE aF aG aA.1.length aH (aA.1:List Code_) (((aI.1.length:Int)) - 1).toNat [nV aC.params,nV aC.regs,sV aO aP aC.blocks.length aQ],holeE aO aP aC.blocks.length aQ (aC.blocks:List Block_) (aa).toNat [aY,sV aT aV aB.ins.length aW,nV aB.jump,nV aB.on,aZ],ow [aY] aB.phis,holeE aT aV aB.ins.length aW (aB.ins:List Ins_) (aX).toNat [nV aD.op,nV aD.to,aR,nV aD.n_],ow [aR] aD.args,ow [aZ] aB.next_,holeE aL aM aE.length aN (aE:List (List Int)) (aA.2.2).toNat [aS],ow [aS] ae,blk bA [nV 0,nV 0,.slice none 0 0,nV 0] 51] a w) ?_ λhT7_1=>?_))
        ·rintro a w ⟨bA, hf, hm⟩
         refine tSv hf hm [6,7,5,4,9,3,0,1,2,8] rfl λhS=>tO (tf0 rfl rfl (λa hf=>e_storeN 10 hf hm rfl sizeOf51 rfl rfl rfl (one_cons rfl (one_cons rfl (one_cons (rep_one (hm.ow_rep 6 rfl)) (one_cons rfl one_nil)))) rfl rfl) ?_)
         rintro _ w hm
         refine tAn rfl (tE ?_)
         replace hm:Mem w0 (hp w0) _ [blk aJ [.slice none 0 0] 28,blk aK [sV aF aG aA.1.length aH] 28,holeE aF aG aA.1.length aH (aA.1:List Code_) (((aI.1.length:Int)) - 1).toNat [nV aC.params,nV aC.regs,sV aO aP aC.blocks.length aQ],holeE aO aP aC.blocks.length aQ (aC.blocks:List Block_) (aa).toNat [aY,sV aT aV aB.ins.length aW,nV aB.jump,nV aB.on,aZ],ow [aY] aB.phis,holeE aT aV aB.ins.length aW (aB.ins:List Ins_) (aX).toNat [nV aD.op,nV aD.to,aR,nV aD.n_],ow [nV aD.op,nV aD.to,aR,nV aD.n_] (aD:Ins_),ow [aZ] aB.next_,holeE aL aM aE.length aN (aE:List (List Int)) (aA.2.2).toNat [aS],ow [aS] ae,blk bA [nV aD.op,nV aD.to,aR,nV aD.n_] 51]:=mk_Ins_ aD.op aD.to aD.n_ hm 6 rfl
         replace hm:=(hm.shutE (y:=(aD:Ins_)) 5 6 (by decide) rfl rfl).pk (L':=[_,_,_,_,_,_,_,_,_,_]) [0,1,2,3,4,5,7,8,9,10] rfl rfl
         rw [set_same az] at hm
         replace hm:=(mk_Block_ aB.jump aB.on hm 4 5 6 rfl).pk (L':=[_,_,_,_,_,_,_,_]) [0,1,2,3,4,7,8,9] rfl rfl
         replace hm:=(hm.shutE (y:=(aB:Block_)) 3 4 (by decide) rfl rfl).pk (L':=[_,_,_,_,_,_,_]) [0,1,2,3,5,6,7] rfl rfl
         rw [set_same ao] at hm
         replace hm:Mem w0 (hp w0) _ [blk aJ [.slice none 0 0] 28,blk aK [sV aF aG aA.1.length aH] 28,holeE aF aG aA.1.length aH (aA.1:List Code_) (((aI.1.length:Int)) - 1).toNat [nV aC.params,nV aC.regs,sV aO aP aC.blocks.length aQ],ow [nV aC.params,nV aC.regs,sV aO aP aC.blocks.length aQ] (aC:Code_),holeE aL aM aE.length aN (aE:List (List Int)) (aA.2.2).toNat [aS],ow [aS] ae,blk bA [nV aD.op,nV aD.to,aR,nV aD.n_] 51]:=mk_Code_ aC.params aC.regs hm 3 rfl
         replace hm:=(hm.shutE (y:=(aC:Code_)) 2 3 (by decide) rfl rfl).pk (L':=[_,_,_,_,_,_]) [0,1,2,4,5,6] rfl rfl
         rw [set_same bC] at hm
         replace hm:=hm.imp (c':=ow [aS] (ae:List Int)) 4 rfl (λF h0=>h0)
         replace hm:=(hm.shutE (y:=(ae:List Int)) 3 4 (by decide) rfl rfl).pk (L':=[_,_,_,_,_]) [0,1,2,3,5] rfl rfl
         rw [set_same bD] at hm
         exact gZ λa hf=>⟨bA,hf.sb rfl,hm.pk [0,1,2,3,4] rfl rfl⟩
        refine tSh (od13_1) (λa w=>∃ (bU:Nat),St 97 [(1,(nV most)),(4,(pV aJ)),(6,(pV aK)),(7,(.bool (aA.2.1))),(8,(nV (((aI.1.length:Int)) - 1))),(9,(sV aL aM aE.length aN)),(10,(nV aA.2.2)),(11,(pV bU)),(63,(.pointer (some ⟨aT,aV+(aX).toNat*4,none⟩)))] w0 (hp w0) [blk aJ [.slice none 0 0] 28,blk aK [sV aF aG aA.1.length aH] 28,holeE aF aG aA.1.length aH (aA.1:List Code_) (((aI.1.length:Int)) - 1).toNat [nV aC.params,nV aC.regs,sV aO aP aC.blocks.length aQ],holeE aO aP aC.blocks.length aQ (aC.blocks:List Block_) (aa).toNat [aY,sV aT aV aB.ins.length aW,nV aB.jump,nV aB.on,aZ],ow [aY] aB.phis,holeE aT aV aB.ins.length aW (aB.ins:List Ins_) (aX).toNat [nV aD.op,nV aD.to,aR,nV aD.n_],ow [aR] aD.args,ow [aZ] aB.next_,holeE aL aM aE.length aN (aE:List (List Int)) (aA.2.2).toNat [aS],ow [aS] ae,blk bU [nV 0,nV 0,.slice none 0 0,nV 0] 51] a w) ?_ λhT7_2=>?_
        ·rintro a w ⟨bU, hf, hm⟩
         exact tSv hf hm [6,7,5,4,9,3,0,1,2,8] rfl λhS=>tO (tY rfl (yn (hm.holeE_at 5 rfl) isAgg51 sizeOf51 rfl) (tAn rfl (tUse hT7_1 λa hf=>⟨bU,hf.sb rfl,hm.pk [0,1,2,3,4,5,6,7,8,9,10] rfl rfl⟩)))
        refine tSh ((.p 21 od13_1)) (λa w=>∃ (bV:Nat),St 97 [(1,(nV most)),(4,(pV aJ)),(6,(pV aK)),(7,(.bool (aA.2.1))),(8,(nV (((aI.1.length:Int)) - 1))),(9,(sV aL aM aE.length aN)),(10,(nV aA.2.2)),(11,(pV bV)),(56,(sV aT aV aB.ins.length aW)),(62,(nV aX))] w0 (hp w0) [blk aJ [.slice none 0 0] 28,blk aK [sV aF aG aA.1.length aH] 28,holeE aF aG aA.1.length aH (aA.1:List Code_) (((aI.1.length:Int)) - 1).toNat [nV aC.params,nV aC.regs,sV aO aP aC.blocks.length aQ],holeE aO aP aC.blocks.length aQ (aC.blocks:List Block_) (aa).toNat [aY,sV aT aV aB.ins.length aW,nV aB.jump,nV aB.on,aZ],ow [aY] aB.phis,holeE aT aV aB.ins.length aW (aB.ins:List Ins_) (aX).toNat [nV aD.op,nV aD.to,aR,nV aD.n_],ow [aR] aD.args,ow [aZ] aB.next_,holeE aL aM aE.length aN (aE:List (List Int)) (aA.2.2).toNat [aS],ow [aS] ae,blk bV [nV 0,nV 0,.slice none 0 0,nV 0] 51] a w) ?_ λhT7_3=>?_
        ·rintro a w ⟨bV, hf, hm⟩
         refine tSv hf hm [6,7,5,4,9,3,0,1,2,8] rfl λhS=>?_
         have hL7_1:=hm.holeE_len 5 rfl
         exact tP rfl (λw=>yI st_46 cF (idx_lt2 az hL7_1) rfl) (tUse hT7_2 λa hf=>⟨bV,hf.sb rfl,hm.pk [0,1,2,3,4,5,6,7,8,9,10] rfl rfl⟩)
        refine tSh (od13_3) (λa w=>∃ (bW:Nat),St 97 [(1,(nV most)),(4,(pV aJ)),(6,(pV aK)),(7,(.bool (aA.2.1))),(8,(nV (((aI.1.length:Int)) - 1))),(9,(sV aL aM aE.length aN)),(10,(nV aA.2.2)),(11,(pV bW)),(55,(.pointer (some ⟨aO,aP+(aa).toNat*5+1,none⟩))),(62,(nV aX))] w0 (hp w0) [blk aJ [.slice none 0 0] 28,blk aK [sV aF aG aA.1.length aH] 28,holeE aF aG aA.1.length aH (aA.1:List Code_) (((aI.1.length:Int)) - 1).toNat [nV aC.params,nV aC.regs,sV aO aP aC.blocks.length aQ],holeE aO aP aC.blocks.length aQ (aC.blocks:List Block_) (aa).toNat [aY,sV aT aV aB.ins.length aW,nV aB.jump,nV aB.on,aZ],ow [aY] aB.phis,holeE aT aV aB.ins.length aW (aB.ins:List Ins_) (aX).toNat [nV aD.op,nV aD.to,aR,nV aD.n_],ow [aR] aD.args,ow [aZ] aB.next_,holeE aL aM aE.length aN (aE:List (List Int)) (aA.2.2).toNat [aS],ow [aS] ae,blk bW [nV 0,nV 0,.slice none 0 0,nV 0] 51] a w) ?_ λhT7_4=>?_
        ·rintro a w ⟨bW, hf, hm⟩
         exact tSv hf hm [6,7,5,4,9,3,0,1,2,8] rfl λhS=>tO (tY rfl (yl isAgg46 ((hm.holeE_at 3 rfl).cell (j:=1) rfl) rfl) (tAs hS (tUse hT7_3 λa hf=>⟨bW,hf.sb rfl,hm.pk [0,1,2,3,4,5,6,7,8,9,10] rfl rfl⟩)))
        refine tSh (od13_2) (λa w=>St 97 [(1,(nV most)),(4,(pV aJ)),(6,(pV aK)),(7,(.bool (aA.2.1))),(8,(nV (((aI.1.length:Int)) - 1))),(9,(sV aL aM aE.length aN)),(10,(nV aA.2.2)),(56,(sV aT aV aB.ins.length aW)),(62,(nV aX))] w0 (hp w0) [blk aJ [.slice none 0 0] 28,blk aK [sV aF aG aA.1.length aH] 28,holeE aF aG aA.1.length aH (aA.1:List Code_) (((aI.1.length:Int)) - 1).toNat [nV aC.params,nV aC.regs,sV aO aP aC.blocks.length aQ],holeE aO aP aC.blocks.length aQ (aC.blocks:List Block_) (aa).toNat [aY,sV aT aV aB.ins.length aW,nV aB.jump,nV aB.on,aZ],ow [aY] aB.phis,holeE aT aV aB.ins.length aW (aB.ins:List Ins_) (aX).toNat [nV aD.op,nV aD.to,aR,nV aD.n_],ow [aR] aD.args,ow [aZ] aB.next_,holeE aL aM aE.length aN (aE:List (List Int)) (aA.2.2).toNat [aS],ow [aS] ae] a w) ?_ λhT7_5=>?_
        ·rintro a w ⟨hf, hm⟩
         refine tSv hf hm [6,7,5,4,9,3,0,1,2,8] rfl λhS=>?_
         have hL7_1:=hm.holeE_len 5 rfl
         refine tP rfl (λw=>yI st_46 cF (idx_lt2 az hL7_1) rfl) (tMo ?_ ?_)
         ·refine tY rfl (yn (hm.holeE_at 5 rfl) isAgg51 sizeOf51 rfl) (tAn rfl (tO (tf rfl rfl (fun a hf => e_alloc hm zeroValue51 rfl rfl) ?_)))
          rintro _ w ⟨ai,rfl,hm⟩
          exact tAk hm [7,8,6,5,10,4,1,2,3,9] rfl λhS=>tUse hT7_1 λa hf=>⟨ai,hf.sb rfl,hm.pk [1,2,3,4,5,6,7,8,9,10,0] rfl rfl⟩
         refine tO (tf rfl rfl (λa hf=>e_alloc hm zeroValue51 rfl rfl) ?_)
         rintro _ w ⟨av,rfl,hm⟩
         exact tAk hm [7,8,6,5,10,4,1,2,3,9] rfl λhS=>tUse hT7_2 λa hf=>⟨av,hf.sb rfl,hm.pk [1,2,3,4,5,6,7,8,9,10,0] rfl rfl⟩
        refine tSh (od13_4) (λa w=>St 97 [(1,(nV most)),(4,(pV aJ)),(6,(pV aK)),(7,(.bool (aA.2.1))),(8,(nV (((aI.1.length:Int)) - 1))),(9,(sV aL aM aE.length aN)),(10,(nV aA.2.2)),(55,(.pointer (some ⟨aO,aP+(aa).toNat*5+1,none⟩))),(62,(nV aX))] w0 (hp w0) [blk aJ [.slice none 0 0] 28,blk aK [sV aF aG aA.1.length aH] 28,holeE aF aG aA.1.length aH (aA.1:List Code_) (((aI.1.length:Int)) - 1).toNat [nV aC.params,nV aC.regs,sV aO aP aC.blocks.length aQ],holeE aO aP aC.blocks.length aQ (aC.blocks:List Block_) (aa).toNat [aY,sV aT aV aB.ins.length aW,nV aB.jump,nV aB.on,aZ],ow [aY] aB.phis,holeE aT aV aB.ins.length aW (aB.ins:List Ins_) (aX).toNat [nV aD.op,nV aD.to,aR,nV aD.n_],ow [aR] aD.args,ow [aZ] aB.next_,holeE aL aM aE.length aN (aE:List (List Int)) (aA.2.2).toNat [aS],ow [aS] ae] a w) ?_ λhT7_6=>?_
        ·rintro a w ⟨hf, hm⟩
         refine tSv hf hm [6,7,5,4,9,3,0,1,2,8] rfl λhS=>tMo ?_ ?_
         ·exact tY rfl (yl isAgg46 ((hm.holeE_at 3 rfl).cell (j:=1) rfl) rfl) (tAs hS (tUse hT7_5 λa hf=>⟨hf.sb rfl,hm.pk [0,1,2,3,4,5,6,7,8,9] rfl rfl⟩))
         refine tO (tf rfl rfl (λa hf=>e_alloc hm zeroValue51 rfl rfl) ?_)
         rintro _ w ⟨ai,rfl,hm⟩
         exact tAk hm [7,8,6,5,10,4,1,2,3,9] rfl λhS=>tUse hT7_4 λa hf=>⟨ai,hf.sb rfl,hm.pk [1,2,3,4,5,6,7,8,9,10,0] rfl rfl⟩
        refine tSh ((.p 12 (.p 13 od13_3))) (λa w=>∃ (bX:Nat),St 97 [(1,(nV most)),(4,(pV aJ)),(6,(pV aK)),(7,(.bool (aA.2.1))),(8,(nV (((aI.1.length:Int)) - 1))),(9,(sV aL aM aE.length aN)),(10,(nV aA.2.2)),(11,(pV bX)),(47,(sV aO aP aC.blocks.length aQ)),(53,(nV aa)),(62,(nV aX))] w0 (hp w0) [blk aJ [.slice none 0 0] 28,blk aK [sV aF aG aA.1.length aH] 28,holeE aF aG aA.1.length aH (aA.1:List Code_) (((aI.1.length:Int)) - 1).toNat [nV aC.params,nV aC.regs,sV aO aP aC.blocks.length aQ],holeE aO aP aC.blocks.length aQ (aC.blocks:List Block_) (aa).toNat [aY,sV aT aV aB.ins.length aW,nV aB.jump,nV aB.on,aZ],ow [aY] aB.phis,holeE aT aV aB.ins.length aW (aB.ins:List Ins_) (aX).toNat [nV aD.op,nV aD.to,aR,nV aD.n_],ow [aR] aD.args,ow [aZ] aB.next_,holeE aL aM aE.length aN (aE:List (List Int)) (aA.2.2).toNat [aS],ow [aS] ae,blk bX [nV 0,nV 0,.slice none 0 0,nV 0] 51] a w) ?_ λhT7_7=>?_
        ·rintro a w ⟨bX, hf, hm⟩
         refine tSv hf hm [6,7,5,4,9,3,0,1,2,8] rfl λhS=>?_
         have hL7_1:=hm.holeE_len 3 rfl
         exact tP rfl (λw=>yI st_42 bT (idx_lt2 ao hL7_1) rfl) (tP rfl (λw=>yF fo_49_1 rfl) (tUse hT7_4 λa hf=>⟨bX,hf.sb rfl,hm.pk [0,1,2,3,4,5,6,7,8,9,10] rfl rfl⟩))
        refine tSh (od13_5) (λa w=>∃ (bY:Nat),St 97 [(1,(nV most)),(4,(pV aJ)),(6,(pV aK)),(7,(.bool (aA.2.1))),(8,(nV (((aI.1.length:Int)) - 1))),(9,(sV aL aM aE.length aN)),(10,(nV aA.2.2)),(11,(pV bY)),(56,(sV aT aV aB.ins.length aW)),(59,(.pointer (some ⟨aL,aM+(aA.2.2).toNat*1,none⟩)))] w0 (hp w0) [blk aJ [.slice none 0 0] 28,blk aK [sV aF aG aA.1.length aH] 28,holeE aF aG aA.1.length aH (aA.1:List Code_) (((aI.1.length:Int)) - 1).toNat [nV aC.params,nV aC.regs,sV aO aP aC.blocks.length aQ],holeE aO aP aC.blocks.length aQ (aC.blocks:List Block_) (aa).toNat [aY,sV aT aV aB.ins.length aW,nV aB.jump,nV aB.on,aZ],ow [aY] aB.phis,holeE aT aV aB.ins.length aW (aB.ins:List Ins_) (aX).toNat [nV aD.op,nV aD.to,aR,nV aD.n_],ow [aR] aD.args,ow [aZ] aB.next_,holeE aL aM aE.length aN (aE:List (List Int)) (aA.2.2).toNat [aS],ow [aS] ae,blk bY [nV 0,nV 0,.slice none 0 0,nV 0] 51] a w) ?_ λhT7_8=>?_
        ·rintro a w ⟨bY, hf, hm⟩
         refine tSv hf hm [6,7,5,4,9,3,0,1,2,8] rfl λhS=>tO (tY rfl (yl isAgg47 ((hm.holeE_at 8 rfl).cell (j:=0) rfl) rfl) (tAs hS ?_))
         obtain ⟨ai,aq,ar,he⟩:=idx_form (hm.ow_rep 9 rfl) ab
         subst he
         exact tP rfl (λw=>yI st_47 am (idx_lt ab) rfl) (tO (tY rfl (yl isAgg3 ((flat_cells (cs:=[nV aX]) (hm.ow_rep 9 rfl) ab rfl).cell (j:=0) rfl) rfl) (tAs hS (tUse hT7_3 λa hf=>⟨bY,hf.sb rfl,hm.pk [0,1,2,3,4,5,6,7,8,9,10] rfl rfl⟩))))
        refine tSh (od13_7) (λa w=>∃ (bZ:Nat),St 97 [(1,(nV most)),(4,(pV aJ)),(6,(pV aK)),(7,(.bool (aA.2.1))),(8,(nV (((aI.1.length:Int)) - 1))),(9,(sV aL aM aE.length aN)),(10,(nV aA.2.2)),(11,(pV bZ)),(46,(.pointer (some ⟨aF,aG+(((aI.1.length:Int)) - 1).toNat*3+2,none⟩))),(53,(nV aa)),(62,(nV aX))] w0 (hp w0) [blk aJ [.slice none 0 0] 28,blk aK [sV aF aG aA.1.length aH] 28,holeE aF aG aA.1.length aH (aA.1:List Code_) (((aI.1.length:Int)) - 1).toNat [nV aC.params,nV aC.regs,sV aO aP aC.blocks.length aQ],holeE aO aP aC.blocks.length aQ (aC.blocks:List Block_) (aa).toNat [aY,sV aT aV aB.ins.length aW,nV aB.jump,nV aB.on,aZ],ow [aY] aB.phis,holeE aT aV aB.ins.length aW (aB.ins:List Ins_) (aX).toNat [nV aD.op,nV aD.to,aR,nV aD.n_],ow [aR] aD.args,ow [aZ] aB.next_,holeE aL aM aE.length aN (aE:List (List Int)) (aA.2.2).toNat [aS],ow [aS] ae,blk bZ [nV 0,nV 0,.slice none 0 0,nV 0] 51] a w) ?_ λhT7_9=>?_
        ·rintro a w ⟨bZ, hf, hm⟩
         exact tSv hf hm [6,7,5,4,9,3,0,1,2,8] rfl λhS=>tO (tY rfl (yl isAgg42 ((hm.holeE_at 2 rfl).cell (j:=2) rfl) rfl) (tAs hS (tUse hT7_7 λa hf=>⟨bZ,hf.sb rfl,hm.pk [0,1,2,3,4,5,6,7,8,9,10] rfl rfl⟩)))
        refine tSh ((.p 12 (.p 13 od13_4))) (λa w=>St 97 [(1,(nV most)),(4,(pV aJ)),(6,(pV aK)),(7,(.bool (aA.2.1))),(8,(nV (((aI.1.length:Int)) - 1))),(9,(sV aL aM aE.length aN)),(10,(nV aA.2.2)),(47,(sV aO aP aC.blocks.length aQ)),(53,(nV aa)),(62,(nV aX))] w0 (hp w0) [blk aJ [.slice none 0 0] 28,blk aK [sV aF aG aA.1.length aH] 28,holeE aF aG aA.1.length aH (aA.1:List Code_) (((aI.1.length:Int)) - 1).toNat [nV aC.params,nV aC.regs,sV aO aP aC.blocks.length aQ],holeE aO aP aC.blocks.length aQ (aC.blocks:List Block_) (aa).toNat [aY,sV aT aV aB.ins.length aW,nV aB.jump,nV aB.on,aZ],ow [aY] aB.phis,holeE aT aV aB.ins.length aW (aB.ins:List Ins_) (aX).toNat [nV aD.op,nV aD.to,aR,nV aD.n_],ow [aR] aD.args,ow [aZ] aB.next_,holeE aL aM aE.length aN (aE:List (List Int)) (aA.2.2).toNat [aS],ow [aS] ae] a w) ?_ λhT7_10=>?_
        ·rintro a w ⟨hf, hm⟩
         refine tSv hf hm [6,7,5,4,9,3,0,1,2,8] rfl λhS=>?_
         have hL7_1:=hm.holeE_len 3 rfl
         exact tP rfl (λw=>yI st_42 bT (idx_lt2 ao hL7_1) rfl) (tP rfl (λw=>yF fo_49_1 rfl) (tUse hT7_6 λa hf=>⟨hf.sb rfl,hm.pk [0,1,2,3,4,5,6,7,8,9] rfl rfl⟩))
        refine tSh (od13_6) (λa w=>∃ (bE:Nat),St 97 [(1,(nV most)),(4,(pV aJ)),(6,(pV aK)),(7,(.bool (aA.2.1))),(8,(nV (((aI.1.length:Int)) - 1))),(9,(sV aL aM aE.length aN)),(10,(nV aA.2.2)),(11,(pV bE)),(55,(.pointer (some ⟨aO,aP+(aa).toNat*5+1,none⟩))),(59,(.pointer (some ⟨aL,aM+(aA.2.2).toNat*1,none⟩)))] w0 (hp w0) [blk aJ [.slice none 0 0] 28,blk aK [sV aF aG aA.1.length aH] 28,holeE aF aG aA.1.length aH (aA.1:List Code_) (((aI.1.length:Int)) - 1).toNat [nV aC.params,nV aC.regs,sV aO aP aC.blocks.length aQ],holeE aO aP aC.blocks.length aQ (aC.blocks:List Block_) (aa).toNat [aY,sV aT aV aB.ins.length aW,nV aB.jump,nV aB.on,aZ],ow [aY] aB.phis,holeE aT aV aB.ins.length aW (aB.ins:List Ins_) (aX).toNat [nV aD.op,nV aD.to,aR,nV aD.n_],ow [aR] aD.args,ow [aZ] aB.next_,holeE aL aM aE.length aN (aE:List (List Int)) (aA.2.2).toNat [aS],ow [aS] ae,blk bE [nV 0,nV 0,.slice none 0 0,nV 0] 51] a w) ?_ λhT7_11=>?_
        ·rintro a w ⟨bE, hf, hm⟩
         refine tSv hf hm [6,7,5,4,9,3,0,1,2,8] rfl λhS=>tMo ?_ ?_
         ·exact tY rfl (yl isAgg46 ((hm.holeE_at 3 rfl).cell (j:=1) rfl) rfl) (tAs hS (tUse hT7_8 λa hf=>⟨bE,hf.sb rfl,hm.pk [0,1,2,3,4,5,6,7,8,9,10] rfl rfl⟩))
         refine tO (tY rfl (yl isAgg47 ((hm.holeE_at 8 rfl).cell (j:=0) rfl) rfl) (tAs hS ?_))
         obtain ⟨ai,aq,ar,he⟩:=idx_form (hm.ow_rep 9 rfl) ab
         subst he
         exact tP rfl (λw=>yI st_47 am (idx_lt ab) rfl) (tQ rfl hS (λw hm=>yl isAgg3 ((flat_cells (cs:=[nV aX]) (hm.ow_rep 4 rfl) ab rfl).cell (j:=0) rfl) rfl) (tUse hT7_4 λa hf=>⟨bE,hf.sb rfl,hm.pk [0,1,2,3,4,5,6,7,8,9,10] rfl rfl⟩))
        refine tSh (od13_8) (λa w=>St 97 [(1,(nV most)),(4,(pV aJ)),(6,(pV aK)),(7,(.bool (aA.2.1))),(8,(nV (((aI.1.length:Int)) - 1))),(9,(sV aL aM aE.length aN)),(10,(nV aA.2.2)),(46,(.pointer (some ⟨aF,aG+(((aI.1.length:Int)) - 1).toNat*3+2,none⟩))),(53,(nV aa)),(62,(nV aX))] w0 (hp w0) [blk aJ [.slice none 0 0] 28,blk aK [sV aF aG aA.1.length aH] 28,holeE aF aG aA.1.length aH (aA.1:List Code_) (((aI.1.length:Int)) - 1).toNat [nV aC.params,nV aC.regs,sV aO aP aC.blocks.length aQ],holeE aO aP aC.blocks.length aQ (aC.blocks:List Block_) (aa).toNat [aY,sV aT aV aB.ins.length aW,nV aB.jump,nV aB.on,aZ],ow [aY] aB.phis,holeE aT aV aB.ins.length aW (aB.ins:List Ins_) (aX).toNat [nV aD.op,nV aD.to,aR,nV aD.n_],ow [aR] aD.args,ow [aZ] aB.next_,holeE aL aM aE.length aN (aE:List (List Int)) (aA.2.2).toNat [aS],ow [aS] ae] a w) ?_ λhT7_12=>?_
        ·rintro a w ⟨hf, hm⟩
         refine tSv hf hm [6,7,5,4,9,3,0,1,2,8] rfl λhS=>tMo ?_ ?_
         ·exact tY rfl (yl isAgg42 ((hm.holeE_at 2 rfl).cell (j:=2) rfl) rfl) (tAs hS (tUse hT7_10 λa hf=>⟨hf.sb rfl,hm.pk [0,1,2,3,4,5,6,7,8,9] rfl rfl⟩))
         refine tO (tf rfl rfl (λa hf=>e_alloc hm zeroValue51 rfl rfl) ?_)
         rintro _ w ⟨ai,rfl,hm⟩
         exact tAk hm [7,8,6,5,10,4,1,2,3,9] rfl λhS=>tUse hT7_9 λa hf=>⟨ai,hf.sb rfl,hm.pk [1,2,3,4,5,6,7,8,9,10,0] rfl rfl⟩
        refine tSh ((.p 12 (.p 13 od13_6))) (λa w=>∃ (b6:Nat),St 97 [(1,(nV most)),(4,(pV aJ)),(6,(pV aK)),(7,(.bool (aA.2.1))),(8,(nV (((aI.1.length:Int)) - 1))),(9,(sV aL aM aE.length aN)),(10,(nV aA.2.2)),(11,(pV b6)),(47,(sV aO aP aC.blocks.length aQ)),(53,(nV aa)),(59,(.pointer (some ⟨aL,aM+(aA.2.2).toNat*1,none⟩)))] w0 (hp w0) [blk aJ [.slice none 0 0] 28,blk aK [sV aF aG aA.1.length aH] 28,holeE aF aG aA.1.length aH (aA.1:List Code_) (((aI.1.length:Int)) - 1).toNat [nV aC.params,nV aC.regs,sV aO aP aC.blocks.length aQ],holeE aO aP aC.blocks.length aQ (aC.blocks:List Block_) (aa).toNat [aY,sV aT aV aB.ins.length aW,nV aB.jump,nV aB.on,aZ],ow [aY] aB.phis,holeE aT aV aB.ins.length aW (aB.ins:List Ins_) (aX).toNat [nV aD.op,nV aD.to,aR,nV aD.n_],ow [aR] aD.args,ow [aZ] aB.next_,holeE aL aM aE.length aN (aE:List (List Int)) (aA.2.2).toNat [aS],ow [aS] ae,blk b6 [nV 0,nV 0,.slice none 0 0,nV 0] 51] a w) ?_ λhT7_13=>?_
        ·rintro a w ⟨b6, hf, hm⟩
         refine tSv hf hm [6,7,5,4,9,3,0,1,2,8] rfl λhS=>?_
         have hL7_1:=hm.holeE_len 3 rfl
         exact tP rfl (λw=>yI st_42 bT (idx_lt2 ao hL7_1) rfl) (tP rfl (λw=>yF fo_49_1 rfl) (tUse hT7_11 λa hf=>⟨b6,hf.sb rfl,hm.pk [0,1,2,3,4,5,6,7,8,9,10] rfl rfl⟩))
        refine tSh (od13_9) (λa w=>∃ (b7:Nat),St 97 [(1,(nV most)),(4,(pV aJ)),(6,(pV aK)),(7,(.bool (aA.2.1))),(8,(nV (((aI.1.length:Int)) - 1))),(9,(sV aL aM aE.length aN)),(10,(nV aA.2.2)),(11,(pV b7)),(47,(sV aO aP aC.blocks.length aQ)),(50,(.pointer (some ⟨aL,aM+(aA.2.2).toNat*1,none⟩))),(62,(nV aX))] w0 (hp w0) [blk aJ [.slice none 0 0] 28,blk aK [sV aF aG aA.1.length aH] 28,holeE aF aG aA.1.length aH (aA.1:List Code_) (((aI.1.length:Int)) - 1).toNat [nV aC.params,nV aC.regs,sV aO aP aC.blocks.length aQ],holeE aO aP aC.blocks.length aQ (aC.blocks:List Block_) (aa).toNat [aY,sV aT aV aB.ins.length aW,nV aB.jump,nV aB.on,aZ],ow [aY] aB.phis,holeE aT aV aB.ins.length aW (aB.ins:List Ins_) (aX).toNat [nV aD.op,nV aD.to,aR,nV aD.n_],ow [aR] aD.args,ow [aZ] aB.next_,holeE aL aM aE.length aN (aE:List (List Int)) (aA.2.2).toNat [aS],ow [aS] ae,blk b7 [nV 0,nV 0,.slice none 0 0,nV 0] 51] a w) ?_ λhT7_14=>?_
        ·rintro a w ⟨b7, hf, hm⟩
         refine tSv hf hm [6,7,5,4,9,3,0,1,2,8] rfl λhS=>tO (tY rfl (yl isAgg47 ((hm.holeE_at 8 rfl).cell (j:=0) rfl) rfl) (tAs hS ?_))
         obtain ⟨ai,aq,ar,he⟩:=idx_form (hm.ow_rep 9 rfl) af
         subst he
         exact tP rfl (λw=>yI st_47 an (idx_lt af) rfl) (tO (tY rfl (yl isAgg3 ((flat_cells (cs:=[nV aa]) (hm.ow_rep 9 rfl) af rfl).cell (j:=0) rfl) rfl) (tAs hS (tUse hT7_7 λa hf=>⟨b7,hf.sb rfl,hm.pk [0,1,2,3,4,5,6,7,8,9,10] rfl rfl⟩))))
        refine tSh (od13_13) (λa w=>∃ (bF:Nat),St 97 [(1,(nV most)),(4,(pV aJ)),(6,(pV aK)),(7,(.bool (aA.2.1))),(8,(nV (((aI.1.length:Int)) - 1))),(9,(sV aL aM aE.length aN)),(10,(nV aA.2.2)),(11,(pV bF)),(46,(.pointer (some ⟨aF,aG+(((aI.1.length:Int)) - 1).toNat*3+2,none⟩))),(50,(.pointer (some ⟨aL,aM+(aA.2.2).toNat*1,none⟩))),(62,(nV aX))] w0 (hp w0) [blk aJ [.slice none 0 0] 28,blk aK [sV aF aG aA.1.length aH] 28,holeE aF aG aA.1.length aH (aA.1:List Code_) (((aI.1.length:Int)) - 1).toNat [nV aC.params,nV aC.regs,sV aO aP aC.blocks.length aQ],holeE aO aP aC.blocks.length aQ (aC.blocks:List Block_) (aa).toNat [aY,sV aT aV aB.ins.length aW,nV aB.jump,nV aB.on,aZ],ow [aY] aB.phis,holeE aT aV aB.ins.length aW (aB.ins:List Ins_) (aX).toNat [nV aD.op,nV aD.to,aR,nV aD.n_],ow [aR] aD.args,ow [aZ] aB.next_,holeE aL aM aE.length aN (aE:List (List Int)) (aA.2.2).toNat [aS],ow [aS] ae,blk bF [nV 0,nV 0,.slice none 0 0,nV 0] 51] a w) ?_ λhT7_15=>?_
        ·rintro a w ⟨bF, hf, hm⟩
         refine tSv hf hm [6,7,5,4,9,3,0,1,2,8] rfl λhS=>tMo ?_ ?_
         ·exact tY rfl (yl isAgg42 ((hm.holeE_at 2 rfl).cell (j:=2) rfl) rfl) (tAs hS (tUse hT7_14 λa hf=>⟨bF,hf.sb rfl,hm.pk [0,1,2,3,4,5,6,7,8,9,10] rfl rfl⟩))
         refine tO (tY rfl (yl isAgg47 ((hm.holeE_at 8 rfl).cell (j:=0) rfl) rfl) (tAs hS ?_))
         obtain ⟨ai,aq,ar,he⟩:=idx_form (hm.ow_rep 9 rfl) af
         subst he
         exact tP rfl (λw=>yI st_47 an (idx_lt af) rfl) (tQ rfl hS (λw hm=>yl isAgg3 ((flat_cells (cs:=[nV aa]) (hm.ow_rep 4 rfl) af rfl).cell (j:=0) rfl) rfl) (tUse hT7_9 λa hf=>⟨bF,hf.sb rfl,hm.pk [0,1,2,3,4,5,6,7,8,9,10] rfl rfl⟩))
        refine tSh (od13_12) (λa w=>∃ (bG:Nat),St 97 [(1,(nV most)),(4,(pV aJ)),(6,(pV aK)),(7,(.bool (aA.2.1))),(8,(nV (((aI.1.length:Int)) - 1))),(9,(sV aL aM aE.length aN)),(10,(nV aA.2.2)),(11,(pV bG)),(46,(.pointer (some ⟨aF,aG+(((aI.1.length:Int)) - 1).toNat*3+2,none⟩))),(53,(nV aa)),(59,(.pointer (some ⟨aL,aM+(aA.2.2).toNat*1,none⟩)))] w0 (hp w0) [blk aJ [.slice none 0 0] 28,blk aK [sV aF aG aA.1.length aH] 28,holeE aF aG aA.1.length aH (aA.1:List Code_) (((aI.1.length:Int)) - 1).toNat [nV aC.params,nV aC.regs,sV aO aP aC.blocks.length aQ],holeE aO aP aC.blocks.length aQ (aC.blocks:List Block_) (aa).toNat [aY,sV aT aV aB.ins.length aW,nV aB.jump,nV aB.on,aZ],ow [aY] aB.phis,holeE aT aV aB.ins.length aW (aB.ins:List Ins_) (aX).toNat [nV aD.op,nV aD.to,aR,nV aD.n_],ow [aR] aD.args,ow [aZ] aB.next_,holeE aL aM aE.length aN (aE:List (List Int)) (aA.2.2).toNat [aS],ow [aS] ae,blk bG [nV 0,nV 0,.slice none 0 0,nV 0] 51] a w) ?_ λhT7_16=>?_
        ·rintro a w ⟨bG, hf, hm⟩
         refine tSv hf hm [6,7,5,4,9,3,0,1,2,8] rfl λhS=>tMo ?_ ?_
         ·exact tY rfl (yl isAgg42 ((hm.holeE_at 2 rfl).cell (j:=2) rfl) rfl) (tAs hS (tUse hT7_13 λa hf=>⟨bG,hf.sb rfl,hm.pk [0,1,2,3,4,5,6,7,8,9,10] rfl rfl⟩))
         refine tO (tY rfl (yl isAgg47 ((hm.holeE_at 8 rfl).cell (j:=0) rfl) rfl) (tAs hS ?_))
         obtain ⟨ai,aq,ar,he⟩:=idx_form (hm.ow_rep 9 rfl) ab
         subst he
         exact tP rfl (λw=>yI st_47 am (idx_lt ab) rfl) (tQ rfl hS (λw hm=>yl isAgg3 ((flat_cells (cs:=[nV aX]) (hm.ow_rep 4 rfl) ab rfl).cell (j:=0) rfl) rfl) (tUse hT7_9 λa hf=>⟨bG,hf.sb rfl,hm.pk [0,1,2,3,4,5,6,7,8,9,10] rfl rfl⟩))
        refine tSh (od13_11) (λa w=>St 97 [(1,(nV most)),(4,(pV aJ)),(6,(pV aK)),(7,(.bool (aA.2.1))),(8,(nV (((aI.1.length:Int)) - 1))),(9,(sV aL aM aE.length aN)),(10,(nV aA.2.2)),(47,(sV aO aP aC.blocks.length aQ)),(50,(.pointer (some ⟨aL,aM+(aA.2.2).toNat*1,none⟩))),(62,(nV aX))] w0 (hp w0) [blk aJ [.slice none 0 0] 28,blk aK [sV aF aG aA.1.length aH] 28,holeE aF aG aA.1.length aH (aA.1:List Code_) (((aI.1.length:Int)) - 1).toNat [nV aC.params,nV aC.regs,sV aO aP aC.blocks.length aQ],holeE aO aP aC.blocks.length aQ (aC.blocks:List Block_) (aa).toNat [aY,sV aT aV aB.ins.length aW,nV aB.jump,nV aB.on,aZ],ow [aY] aB.phis,holeE aT aV aB.ins.length aW (aB.ins:List Ins_) (aX).toNat [nV aD.op,nV aD.to,aR,nV aD.n_],ow [aR] aD.args,ow [aZ] aB.next_,holeE aL aM aE.length aN (aE:List (List Int)) (aA.2.2).toNat [aS],ow [aS] ae] a w) ?_ λhT7_17=>?_
        ·rintro a w ⟨hf, hm⟩
         refine tSv hf hm [6,7,5,4,9,3,0,1,2,8] rfl λhS=>tMo ?_ ?_
         ·refine tY rfl (yl isAgg47 ((hm.holeE_at 8 rfl).cell (j := 0) rfl) rfl) (tAs hS ?_)
          obtain ⟨ai,aq,ar,he⟩:=idx_form (hm.ow_rep 9 rfl) af
          subst he
          exact tP rfl (λw=>yI st_47 an (idx_lt af) rfl) (tQ rfl hS (λw hm=>yl isAgg3 ((flat_cells (cs:=[nV aa]) (hm.ow_rep 4 rfl) af rfl).cell (j:=0) rfl) rfl) (tUse hT7_10 λa hf=>⟨hf.sb rfl,hm.pk [0,1,2,3,4,5,6,7,8,9] rfl rfl⟩))
         refine tO (tf rfl rfl (λa hf=>e_alloc hm zeroValue51 rfl rfl) ?_)
         rintro _ w ⟨av,rfl,hm⟩
         exact tAk hm [7,8,6,5,10,4,1,2,3,9] rfl λhS=>tUse hT7_14 λa hf=>⟨av,hf.sb rfl,hm.pk [1,2,3,4,5,6,7,8,9,10,0] rfl rfl⟩
        refine tSh (od13_10) (λa w=>St 97 [(1,(nV most)),(4,(pV aJ)),(6,(pV aK)),(7,(.bool (aA.2.1))),(8,(nV (((aI.1.length:Int)) - 1))),(9,(sV aL aM aE.length aN)),(10,(nV aA.2.2)),(47,(sV aO aP aC.blocks.length aQ)),(53,(nV aa)),(59,(.pointer (some ⟨aL,aM+(aA.2.2).toNat*1,none⟩)))] w0 (hp w0) [blk aJ [.slice none 0 0] 28,blk aK [sV aF aG aA.1.length aH] 28,holeE aF aG aA.1.length aH (aA.1:List Code_) (((aI.1.length:Int)) - 1).toNat [nV aC.params,nV aC.regs,sV aO aP aC.blocks.length aQ],holeE aO aP aC.blocks.length aQ (aC.blocks:List Block_) (aa).toNat [aY,sV aT aV aB.ins.length aW,nV aB.jump,nV aB.on,aZ],ow [aY] aB.phis,holeE aT aV aB.ins.length aW (aB.ins:List Ins_) (aX).toNat [nV aD.op,nV aD.to,aR,nV aD.n_],ow [aR] aD.args,ow [aZ] aB.next_,holeE aL aM aE.length aN (aE:List (List Int)) (aA.2.2).toNat [aS],ow [aS] ae] a w) ?_ λhT7_18=>?_
        ·rintro a w ⟨hf, hm⟩
         refine tSv hf hm [6,7,5,4,9,3,0,1,2,8] rfl λhS=>?_
         have hL7_1:=hm.holeE_len 3 rfl
         refine tP rfl (λw=>yI st_42 bT (idx_lt2 ao hL7_1) rfl) (tP rfl (λw=>yF fo_49_1 rfl) (tMo ?_ ?_))
         ·refine tY rfl (yl isAgg46 ((hm.holeE_at 3 rfl).cell (j := 1) rfl) rfl) (tAs hS (tMo ?_ ?_))
          ·refine tY rfl (yl isAgg47 ((hm.holeE_at 8 rfl).cell (j := 0) rfl) rfl) (tAs hS ?_)
           obtain ⟨ai,aq,ar,he⟩:=idx_form (hm.ow_rep 9 rfl) ab
           subst he
           exact tP rfl (λw=>yI st_47 am (idx_lt ab) rfl) (tQ rfl hS (λw hm=>yl isAgg3 ((flat_cells (cs:=[nV aX]) (hm.ow_rep 4 rfl) ab rfl).cell (j:=0) rfl) rfl) (tUse hT7_5 λa hf=>⟨hf.sb rfl,hm.pk [0,1,2,3,4,5,6,7,8,9] rfl rfl⟩))
          refine tO (tf rfl rfl (λa hf=>e_alloc hm zeroValue51 rfl rfl) ?_)
          rintro _ w ⟨av,rfl,hm⟩
          exact tAk hm [7,8,6,5,10,4,1,2,3,9] rfl λhS=>tUse hT7_8 λa hf=>⟨av,hf.sb rfl,hm.pk [1,2,3,4,5,6,7,8,9,10,0] rfl rfl⟩
         refine tMo ?_ ?_
         ·refine tY rfl (yl isAgg47 ((hm.holeE_at 8 rfl).cell (j := 0) rfl) rfl) (tAs hS ?_)
          obtain ⟨cH,cI,cJ,he⟩:=idx_form (hm.ow_rep 9 rfl) ab
          subst he
          exact tP rfl (λw=>yI st_47 am (idx_lt ab) rfl) (tQ rfl hS (λw hm=>yl isAgg3 ((flat_cells (cs:=[nV aX]) (hm.ow_rep 4 rfl) ab rfl).cell (j:=0) rfl) rfl) (tUse hT7_6 λa hf=>⟨hf.sb rfl,hm.pk [0,1,2,3,4,5,6,7,8,9] rfl rfl⟩))
         refine tO (tf rfl rfl (λa hf=>e_alloc hm zeroValue51 rfl rfl) ?_)
         rintro _ w ⟨cK,rfl,hm⟩
         exact tAk hm [7,8,6,5,10,4,1,2,3,9] rfl λhS=>tUse hT7_11 λa hf=>⟨cK,hf.sb rfl,hm.pk [1,2,3,4,5,6,7,8,9,10,0] rfl rfl⟩
        refine tSh (od13_14) (λa w=>∃ (bH:Nat),St 97 [(1,(nV most)),(4,(pV aJ)),(6,(pV aK)),(7,(.bool (aA.2.1))),(8,(nV (((aI.1.length:Int)) - 1))),(9,(sV aL aM aE.length aN)),(10,(nV aA.2.2)),(11,(pV bH)),(47,(sV aO aP aC.blocks.length aQ)),(50,(.pointer (some ⟨aL,aM+(aA.2.2).toNat*1,none⟩))),(59,(.pointer (some ⟨aL,aM+(aA.2.2).toNat*1,none⟩)))] w0 (hp w0) [blk aJ [.slice none 0 0] 28,blk aK [sV aF aG aA.1.length aH] 28,holeE aF aG aA.1.length aH (aA.1:List Code_) (((aI.1.length:Int)) - 1).toNat [nV aC.params,nV aC.regs,sV aO aP aC.blocks.length aQ],holeE aO aP aC.blocks.length aQ (aC.blocks:List Block_) (aa).toNat [aY,sV aT aV aB.ins.length aW,nV aB.jump,nV aB.on,aZ],ow [aY] aB.phis,holeE aT aV aB.ins.length aW (aB.ins:List Ins_) (aX).toNat [nV aD.op,nV aD.to,aR,nV aD.n_],ow [aR] aD.args,ow [aZ] aB.next_,holeE aL aM aE.length aN (aE:List (List Int)) (aA.2.2).toNat [aS],ow [aS] ae,blk bH [nV 0,nV 0,.slice none 0 0,nV 0] 51] a w) ?_ λhT7_19=>?_
        ·rintro a w ⟨bH, hf, hm⟩
         refine tSv hf hm [6,7,5,4,9,3,0,1,2,8] rfl λhS=>tMo ?_ ?_
         ·refine tY rfl (yl isAgg47 ((hm.holeE_at 8 rfl).cell (j := 0) rfl) rfl) (tAs hS ?_)
          obtain ⟨ai,aq,ar,he⟩:=idx_form (hm.ow_rep 9 rfl) af
          subst he
          exact tP rfl (λw=>yI st_47 an (idx_lt af) rfl) (tQ rfl hS (λw hm=>yl isAgg3 ((flat_cells (cs:=[nV aa]) (hm.ow_rep 4 rfl) af rfl).cell (j:=0) rfl) rfl) (tUse hT7_13 λa hf=>⟨bH,hf.sb rfl,hm.pk [0,1,2,3,4,5,6,7,8,9,10] rfl rfl⟩))
         refine tO (tY rfl (yl isAgg47 ((hm.holeE_at 8 rfl).cell (j:=0) rfl) rfl) (tAs hS ?_))
         obtain ⟨av,cI,cJ,he⟩:=idx_form (hm.ow_rep 9 rfl) ab
         subst he
         exact tP rfl (λw=>yI st_47 am (idx_lt ab) rfl) (tQ rfl hS (λw hm=>yl isAgg3 ((flat_cells (cs:=[nV aX]) (hm.ow_rep 4 rfl) ab rfl).cell (j:=0) rfl) rfl) (tUse hT7_14 λa hf=>⟨bH,hf.sb rfl,hm.pk [0,1,2,3,4,5,6,7,8,9,10] rfl rfl⟩))
        refine tMo ?_ ?_
        ·refine tY rfl (yl isAgg42 ((hm.holeE_at 8 rfl).cell (j := 2) rfl) rfl) (tAs hS (tMo ?_ ?_))
         ·refine tY rfl (yl isAgg47 ((hm.holeE_at 9 rfl).cell (j := 0) rfl) rfl) (tAs hS ?_)
          obtain ⟨ai,aq,ar,he⟩:=idx_form (hm.ow_rep 4 rfl) af
          subst he
          exact tP rfl (λw=>yI st_47 an (idx_lt af) rfl) (tQ rfl hS (λw hm=>yl isAgg3 ((flat_cells (cs:=[nV aa]) (hm.ow_rep 4 rfl) af rfl).cell (j:=0) rfl) rfl) (tUse hT7_18 λa hf=>⟨hf.sb rfl,hm.pk [6,7,8,5,3,2,0,1,9,4] rfl rfl⟩))
         refine tMo ?_ ?_
         ·refine tY rfl (yl isAgg47 ((hm.holeE_at 9 rfl).cell (j := 0) rfl) rfl) (tAs hS ?_)
          obtain ⟨av,cI,cJ,he⟩:=idx_form (hm.ow_rep 4 rfl) ab
          subst he
          exact tP rfl (λw=>yI st_47 am (idx_lt ab) rfl) (tQ rfl hS (λw hm=>yl isAgg3 ((flat_cells (cs:=[nV aX]) (hm.ow_rep 4 rfl) ab rfl).cell (j:=0) rfl) rfl) (tUse hT7_17 λa hf=>⟨hf.sb rfl,hm.pk [6,7,8,5,3,2,0,1,9,4] rfl rfl⟩))
         refine tO (tf rfl rfl (λa hf=>e_alloc hm zeroValue51 rfl rfl) ?_)
         rintro _ w ⟨cH,rfl,hm⟩
         exact tAk hm [1,2,3,4,5,6,7,8,9,10] rfl λhS=>tUse hT7_19 λa hf=>⟨cH,hf.sb rfl,hm.pk [7,8,9,6,4,3,1,2,10,5,0] rfl rfl⟩
        refine tMo ?_ ?_
        ·refine tY rfl (yl isAgg47 ((hm.holeE_at 9 rfl).cell (j := 0) rfl) rfl) (tAs hS ?_)
         obtain ⟨cK,df,dg,he⟩:=idx_form (hm.ow_rep 4 rfl) af
         subst he
         refine tP rfl (λw=>yI st_47 an (idx_lt af) rfl) (tQ rfl hS (λw hm=>yl isAgg3 ((flat_cells (cs:=[nV aa]) (hm.ow_rep 4 rfl) af rfl).cell (j:=0) rfl) rfl) (tMo ?_ ?_))
         ·exact tY rfl (yl isAgg42 ((hm.holeE_at 8 rfl).cell (j:=2) rfl) rfl) (tAs hS (tUse hT7_18 λa hf=>⟨hf.sb rfl,hm.pk [6,7,8,5,3,2,0,1,9,4] rfl rfl⟩))
         refine tMo ?_ ?_
         ·exact tY rfl (yl isAgg47 ((hm.holeE_at 9 rfl).cell (j:=0) rfl) rfl) (tAs hS (tP rfl (λw=>yI st_47 am (idx_lt ab) rfl) (tQ rfl hS (λw hm=>yl isAgg3 ((flat_cells (cs:=[nV aX]) (hm.ow_rep 4 rfl) ab rfl).cell (j:=0) rfl) rfl) (tUse hT7_12 λa hf=>⟨hf.sb rfl,hm.pk [6,7,8,5,3,2,0,1,9,4] rfl rfl⟩))))
         refine tO (tf rfl rfl (λa hf=>e_alloc hm zeroValue51 rfl rfl) ?_)
         rintro _ w ⟨cb,rfl,hm⟩
         exact tAk hm [1,2,3,4,5,6,7,8,9,10] rfl λhS=>tUse hT7_16 λa hf=>⟨cb,hf.sb rfl,hm.pk [7,8,9,6,4,3,1,2,10,5,0] rfl rfl⟩
        refine tMo ?_ ?_
        ·refine tY rfl (yl isAgg47 ((hm.holeE_at 9 rfl).cell (j := 0) rfl) rfl) (tAs hS ?_)
         obtain ⟨dh,di,dk,he⟩:=idx_form (hm.ow_rep 4 rfl) ab
         subst he
         refine tP rfl (λw=>yI st_47 am (idx_lt ab) rfl) (tQ rfl hS (λw hm=>yl isAgg3 ((flat_cells (cs:=[nV aX]) (hm.ow_rep 4 rfl) ab rfl).cell (j:=0) rfl) rfl) (tMo ?_ ?_))
         ·exact tY rfl (yl isAgg42 ((hm.holeE_at 8 rfl).cell (j:=2) rfl) rfl) (tAs hS (tUse hT7_17 λa hf=>⟨hf.sb rfl,hm.pk [6,7,8,5,3,2,0,1,9,4] rfl rfl⟩))
         refine tMo ?_ ?_
         ·exact tY rfl (yl isAgg47 ((hm.holeE_at 9 rfl).cell (j:=0) rfl) rfl) (tAs hS (tP rfl (λw=>yI st_47 an (idx_lt af) rfl) (tQ rfl hS (λw hm=>yl isAgg3 ((flat_cells (cs:=[nV aa]) (hm.ow_rep 4 rfl) af rfl).cell (j:=0) rfl) rfl) (tUse hT7_12 λa hf=>⟨hf.sb rfl,hm.pk [6,7,8,5,3,2,0,1,9,4] rfl rfl⟩))))
         refine tO (tf rfl rfl (λa hf=>e_alloc hm zeroValue51 rfl rfl) ?_)
         rintro _ w ⟨cd,rfl,hm⟩
         exact tAk hm [1,2,3,4,5,6,7,8,9,10] rfl λhS=>tUse hT7_15 λa hf=>⟨cd,hf.sb rfl,hm.pk [7,8,9,6,4,3,1,2,10,5,0] rfl rfl⟩
        refine tO (tf rfl rfl (λa hf=>e_alloc hm zeroValue51 rfl rfl) ?_)
        rintro _ w ⟨be,rfl,hm⟩
        refine tAk hm [1,2,3,4,5,6,7,8,9,10] rfl λhS=>tMo ?_ ?_
        ·exact tY rfl (yl isAgg42 ((hm.holeE_at 9 rfl).cell (j:=2) rfl) rfl) (tAs hS (tUse hT7_19 λa hf=>⟨be,hf.sb rfl,hm.pk [7,8,9,6,4,3,1,2,10,5,0] rfl rfl⟩))
        refine tMo ?_ ?_
        ·refine tY rfl (yl isAgg47 ((hm.holeE_at 10 rfl).cell (j := 0) rfl) rfl) (tAs hS ?_)
         obtain ⟨dl,dm,dp,he⟩:=idx_form (hm.ow_rep 5 rfl) af
         subst he
         exact tP rfl (λw=>yI st_47 an (idx_lt af) rfl) (tQ rfl hS (λw hm=>yl isAgg3 ((flat_cells (cs:=[nV aa]) (hm.ow_rep 4 rfl) af rfl).cell (j:=0) rfl) rfl) (tUse hT7_16 λa hf=>⟨be,hf.sb rfl,hm.pk [7,8,9,6,4,3,1,2,10,5,0] rfl rfl⟩))
        refine tO (tY rfl (yl isAgg47 ((hm.holeE_at 10 rfl).cell (j:=0) rfl) rfl) (tAs hS ?_))
        obtain ⟨dq,dr,dt,he⟩:=idx_form (hm.ow_rep 5 rfl) ab
        subst he
        exact tP rfl (λw=>yI st_47 am (idx_lt ab) rfl) (tQ rfl hS (λw hm=>yl isAgg3 ((flat_cells (cs:=[nV aX]) (hm.ow_rep 4 rfl) ab rfl).cell (j:=0) rfl) rfl) (tUse hT7_15 λa hf=>⟨be,hf.sb rfl,hm.pk [7,8,9,6,4,3,1,2,10,5,0] rfl rfl⟩))
       repeat clear hm
       rintro cG a w ⟨ap,hf,hm⟩
       refine gv hf (gS (gS (gR (gF fo_28_0 rfl (gL hm 1 isAgg26 rfl (gF fo_51_3 rfl (gL hm 4 isAgg3 rfl (gg λah ce bB=>?_))))))))
       obtain ⟨du,dv,dw⟩:=rk_Code_ (hm.ow_rep 2 rfl) bB
       refine gI st_26 ce (idx_lt bB) rfl ?_
       obtain ⟨bJ,hm⟩:=pin_Code_ hm 2 rfl bB
       have dx:(aD.n_).toNat<aA.1.length:=(idx_lt bB)
       refine gY (yn (hm.holeE_at 3 rfl) isAgg44 sizeOf44 rfl) (gC hm rfl call33 (spec_l19Size_ok _ ah bJ (hm.ow_rep 0 rfl)) λdy dz w hm=>gM rfl (gB rfl (gE (gsd 73 rfl (λcf=>?_) λcf=>?_))))
       ·refine gct rfl (gXt (gHh ?_))
        replace hm:Mem w0 (hp w0) _ [ow [nV ah.params,nV ah.regs,bJ] (ah:Code_),blk aJ [.slice none 0 0] 28,blk aK [sV aF aG aA.1.length aH] 28,holeE aF aG aA.1.length aH (aA.1:List Code_) (aD.n_).toNat [nV ah.params,nV ah.regs,bJ],ow [sV aL aM aE.length aN] aE,blk ap [nV aD.op,nV aD.to,aR,nV aD.n_] 51]:=mk_Code_ ah.params ah.regs hm 0 rfl
        replace hm:=(hm.shutE (y:=(ah:Code_)) 3 0 (by decide) rfl rfl).pk (L':=[_,_,_,_,_]) [1,2,3,4,5] rfl rfl
        rw [set_same bB] at hm
        exact gZe λa hf=>⟨sV aF aG aA.1.length aH,hf.sb rfl,hm.pk [0,1,2,3] rfl rfl⟩
       refine gcf rfl (gSk (gS ?_))
       replace hm:Mem w0 (hp w0) _ [ow [nV ah.params,nV ah.regs,bJ] (ah:Code_),blk aJ [.slice none 0 0] 28,blk aK [sV aF aG aA.1.length aH] 28,holeE aF aG aA.1.length aH (aA.1:List Code_) (aD.n_).toNat [nV ah.params,nV ah.regs,bJ],ow [sV aL aM aE.length aN] aE,blk ap [nV aD.op,nV aD.to,aR,nV aD.n_] 51]:=mk_Code_ ah.params ah.regs hm 0 rfl
       replace hm:=(hm.shutE (y:=(ah:Code_)) 3 0 (by decide) rfl rfl).pk (L':=[_,_,_,_,_]) [1,2,3,4,5] rfl rfl
       rw [set_same bB] at hm
       refine gg λac cL al=>?_
       obtain ⟨_,cg,hm⟩:=hm.openE 3 rfl al
       have ci:=hm.ow_rep 0 rfl
       have b8:=ci
       obtain ⟨aw,rfl,-⟩:=id b8
       replace b8:GT.rep (hp _) [aw] ac:=b8
       clear cg b8
       replace hm:Mem w0 (hp w0) _ [ow [aw] (ac:List Int),blk aJ [.slice none 0 0] 28,blk aK [sV aF aG aA.1.length aH] 28,ow [sV aF aG aA.1.length aH] aA.1,holeE aL aM aE.length aN (aE:List (List Int)) (aA.2.2).toNat [aw],blk ap [nV aD.op,nV aD.to,aR,nV aD.n_] 51]:=hm
       replace hm:=hm.pk (L':=[_,_,_,_,_,_]) [0,1,2,3,4,5] rfl rfl
       refine gJg (λb9 a w=>∃ (bf:Nat) (ba:Value),St 97 [(1,(nV most)),(4,(pV aJ)),(6,(pV aK)),(8,(nV (((aI.1.length:Int)) - 1))),(9,(sV aL aM aE.length aN)),(10,(nV aA.2.2)),(12,(pV bf)),(13,(.bool (b9.2)))] w0 (hp w0) [blk aJ [.slice none 0 0] 28,blk aK [sV aF aG aA.1.length aH] 28,ow [sV aF aG aA.1.length aH] aA.1,ow [sV aL aM aE.length aN] aE,blk bf [ba] 28,ow [ba] b9.1] a w) (λb9=>?_) ?_
       ·replace hm : Mem w0 (hp w0) _ [ow [aw] ac, blk aJ [.slice none 0 0] 28, blk aK [sV aF aG aA.1.length aH] 28, ow [sV aF aG aA.1.length aH] aA.1, holeE aL aM aE.length aN (aE : List (List Int)) (aA.2.2).toNat [aw], blk ap [nV aD.op, nV aD.to, aR, nV aD.n_] 51] := hm
        refine gW (.p 1 (.p 2 (.p 3 (.p 4 (.p 8 (.p 9 (.p 10 (.q 0 (.e 5 (.p 6 (.q 7 (.e 11 (.p 12 (.q 13 (.e 14 (.p 15 (.p 16 (.p 17 (.e 18 (.e 19 (.p 20 .fin) .nil) .nil)))) (.e 18 (.e 14 (.p 15 (.p 16 (.p 17 (.e 19 (.p 20 .fin) .nil)))) .nil) .nil)))) (.e 18 (.e 11 (.p 12 (.e 13 (.e 14 (.p 15 (.p 16 (.p 17 (.e 19 (.p 20 .fin) .nil)))) .nil) .nil)) .nil) .nil)))) (.e 11 (.p 12 (.q 13 (.e 5 (.p 6 (.q 7 (.e 14 (.p 15 (.p 16 (.p 17 (.e 18 (.e 19 (.p 20 .fin) .nil) .nil)))) (.e 18 (.e 14 (.p 15 (.p 16 (.p 17 (.e 19 (.p 20 .fin) .nil)))) .nil) .nil)))) (.e 18 (.e 5 (.p 6 (.e 7 (.e 14 (.p 15 (.p 16 (.p 17 (.e 19 (.p 20 .fin) .nil)))) .nil) .nil)) .nil) .nil)))) (.e 18 (.e 5 (.p 6 (.q 7 (.e 11 (.p 12 (.e 13 (.e 14 (.p 15 (.p 16 (.p 17 (.e 19 (.p 20 .fin) .nil)))) .nil) .nil)) .nil))) (.e 11 (.p 12 (.q 13 (.e 5 (.p 6 (.e 7 (.e 14 (.p 15 (.p 16 (.p 17 (.e 19 (.p 20 .fin) .nil)))) .nil) .nil)) .nil))) .nil)) .nil))))))))))) [0,5,7,11,13,18] [1,2,3,4,6,8,9,10,12,15,16,17,20] hm [0,1,2,3,4,5] [ow [aw] ac,blk aJ [.slice none 0 0] 28,blk aK [sV aF aG aA.1.length aH] 28,ow [sV aF aG aA.1.length aH] aA.1,holeE aL aM aE.length aN (aE:List (List Int)) (aA.2.2).toNat [aw],blk ap [nV aD.op,nV aD.to,aR,nV aD.n_] 51] rfl mxo (by kernel_rfl) (λ_ _ _ h=>h.2) λw hm hS=>tP rfl (λw=>yM rfl) (tP rfl (λw=>yM rfl) (tP rfl (λw=>yM rfl) ?_))
        have hL6_4:=hm.holeE_len 4 rfl
        refine tP rfl (λw=>yI st_59 cL (idx_lt2 al hL6_4) rfl) (tP rfl (λw=>yM rfl) (tP rfl (λw=>yM rfl) ?_))
        have hL6_5:=hm.holeE_len 4 rfl
        refine tP rfl (λw=>yI st_59 cL (idx_lt2 al hL6_5) rfl) (tQ rfl hS (λw hm=>yn (hm.blk_at 2 rfl) isAgg28 sizeOf28 rfl) (gb λaj bK=>gb λak bL=>gb λeA au=>tMo ?_ ?_))
        ·refine tY rfl (yl isAgg47 ((hm.holeE_at 4 rfl).cell (j := 0) rfl) rfl) (tAs hS ?_)
         obtain ⟨cj,bg⟩:=getI_some.1 bK
         obtain ⟨bh,bi,bj,he⟩:=idx_form (hm.ow_rep 0 rfl) bg
         subst he
         refine tP rfl (λw=>yI st_47 cj (idx_lt bg) rfl) (tQ rfl hS (λw hm=>yl isAgg3 ((flat_cells (cs:=[nV aj]) (hm.ow_rep 0 rfl) bg rfl).cell (j:=0) rfl) rfl) (tMo ?_ ?_))
         ·refine tY rfl (yl isAgg47 ((hm.holeE_at 4 rfl).cell (j := 0) rfl) rfl) (tAs hS ?_)
          obtain ⟨ck,cM⟩:=getI_some.1 bL
          refine tP rfl (λw=>yI st_47 ck (idx_lt cM) rfl) (tQ rfl hS (λw hm=>yl isAgg3 ((flat_cells (cs:=[nV ak]) (hm.ow_rep 0 rfl) cM rfl).cell (j:=0) rfl) rfl) (tMo ?_ ?_))
          ·refine tf rfl rfl (fun a hf => e_call hf rfl call7 rfl (spec_InlineCall_ok _ (⟨aA.1⟩ : Unit_) (sV aF aG aA.1.length aH) (hm.ow_rep 3 rfl) (((aI.1.length : Int)) - 1) aj ak _ au)) ?_
           rintro eB w ⟨cl,rfl,hB⟩
           replace hm:=hm.give hB;clear hB
           refine tAn rfl (tP rfl (λw=>yM rfl) (tP rfl (λw=>yX rfl) (tP rfl (λw=>yX rfl) (tO (tf rfl rfl (λa hf=>e_alloc hm zeroValue28 rfl rfl) ?_)))))
           rintro _ w ⟨cm,rfl,hm⟩
           refine tAk hm [2,3,4,5,6,7] rfl λhS=>tO (tf0 rfl rfl (λa hf=>e_storeN 0 hf hm rfl sizeOf28 rfl rfl rfl (one_cons (rep_one (hm.ow_rep 1 rfl)) one_nil) rfl rfl) ?_)
           rintro _ w hm
           refine tAn rfl (tP rfl (λw=>yA rfl) (tE ?_))
           replace hm:=hm.imp (c':=ow [sV bh bi ac.length bj] (ac:List Int)) 2 rfl (λF h0=>h0)
           replace hm:=(hm.shutE (y:=(ac:List Int)) 6 2 (by decide) rfl rfl).pk (L':=[_,_,_,_,_,_,_]) [0,1,3,4,5,6,7] rfl rfl
           rw [set_same al] at hm
           exact gZ λa hf=>⟨cm,cl,hf.sb rfl,hm.pk [2,3,4,5,0,1] rfl rfl⟩
          refine tO (tf rfl rfl (λa hf=>e_alloc hm zeroValue28 rfl rfl) ?_)
          rintro _ w ⟨cn,rfl,hm⟩
          refine tAk hm [1,2,3,4,5,6] rfl λhS=>tO (tf rfl rfl (λa hf=>e_call hf rfl call7 rfl (spec_InlineCall_ok _ (⟨aA.1⟩:Unit_) (sV aF aG aA.1.length aH) (hm.ow_rep 4 rfl) (((aI.1.length:Int)) - 1) aj ak _ au)) ?_)
          rintro eC w ⟨co,rfl,hB⟩
          replace hm:=hm.give hB;clear hB
          refine tAn rfl (tP rfl (λw=>yM rfl) (tP rfl (λw=>yX rfl) (tP rfl (λw=>yX rfl) (tO (tf0 rfl rfl (λa hf=>e_storeN 1 hf hm rfl sizeOf28 rfl rfl rfl (one_cons (rep_one (hm.ow_rep 0 rfl)) one_nil) rfl rfl) ?_)))))
          rintro _ w hm
          refine tAn rfl (tP rfl (λw=>yA rfl) (tE ?_))
          replace hm:=hm.imp (c':=ow [sV bh bi ac.length bj] (ac:List Int)) 2 rfl (λF h0=>h0)
          replace hm:=(hm.shutE (y:=(ac:List Int)) 6 2 (by decide) rfl rfl).pk (L':=[_,_,_,_,_,_,_]) [0,1,3,4,5,6,7] rfl rfl
          rw [set_same al] at hm
          exact gZ λa hf=>⟨cn,co,hf.sb rfl,hm.pk [2,3,4,5,1,0] rfl rfl⟩
         refine tO (tf rfl rfl (λa hf=>e_alloc hm zeroValue28 rfl rfl) ?_)
         rintro _ w ⟨cq,rfl,hm⟩
         refine tAk hm [1,2,3,4,5,6] rfl λhS=>tO (tY rfl (yl isAgg47 ((hm.holeE_at 5 rfl).cell (j:=0) rfl) rfl) (tAs hS ?_))
         obtain ⟨cr,cN⟩:=getI_some.1 bL
         refine tP rfl (λw=>yI st_47 cr (idx_lt cN) rfl) (tO (tY rfl (yl isAgg3 ((flat_cells (cs:=[nV ak]) (hm.ow_rep 1 rfl) cN rfl).cell (j:=0) rfl) rfl) (tAs hS (tO (tf rfl rfl (λa hf=>e_call hf rfl call7 rfl (spec_InlineCall_ok _ (⟨aA.1⟩:Unit_) (sV aF aG aA.1.length aH) (hm.ow_rep 4 rfl) (((aI.1.length:Int)) - 1) aj ak _ au)) ?_)))))
         rintro eD w ⟨ct,rfl,hB⟩
         replace hm:=hm.give hB;clear hB
         refine tAn rfl (tP rfl (λw=>yM rfl) (tP rfl (λw=>yX rfl) (tP rfl (λw=>yX rfl) (tO (tf0 rfl rfl (λa hf=>e_storeN 1 hf hm rfl sizeOf28 rfl rfl rfl (one_cons (rep_one (hm.ow_rep 0 rfl)) one_nil) rfl rfl) ?_)))))
         rintro _ w hm
         refine tAn rfl (tP rfl (λw=>yA rfl) (tE ?_))
         replace hm:=hm.imp (c':=ow [sV bh bi ac.length bj] (ac:List Int)) 2 rfl (λF h0=>h0)
         replace hm:=(hm.shutE (y:=(ac:List Int)) 6 2 (by decide) rfl rfl).pk (L':=[_,_,_,_,_,_,_]) [0,1,3,4,5,6,7] rfl rfl
         rw [set_same al] at hm
         exact gZ λa hf=>⟨cq,ct,hf.sb rfl,hm.pk [2,3,4,5,1,0] rfl rfl⟩
        refine tMo ?_ ?_
        ·refine tY rfl (yl isAgg47 ((hm.holeE_at 4 rfl).cell (j := 0) rfl) rfl) (tAs hS ?_)
         obtain ⟨cu,bk⟩:=getI_some.1 bL
         obtain ⟨bm,bp,bq,he⟩:=idx_form (hm.ow_rep 0 rfl) bk
         subst he
         refine tP rfl (λw=>yI st_47 cu (idx_lt bk) rfl) (tQ rfl hS (λw hm=>yl isAgg3 ((flat_cells (cs:=[nV ak]) (hm.ow_rep 0 rfl) bk rfl).cell (j:=0) rfl) rfl) (tMo ?_ ?_))
         ·refine tY rfl (yl isAgg47 ((hm.holeE_at 4 rfl).cell (j := 0) rfl) rfl) (tAs hS ?_)
          obtain ⟨cv,cO⟩:=getI_some.1 bK
          refine tP rfl (λw=>yI st_47 cv (idx_lt cO) rfl) (tQ rfl hS (λw hm=>yl isAgg3 ((flat_cells (cs:=[nV aj]) (hm.ow_rep 0 rfl) cO rfl).cell (j:=0) rfl) rfl) (tMo ?_ ?_))
          ·refine tf rfl rfl (fun a hf => e_call hf rfl call7 rfl (spec_InlineCall_ok _ (⟨aA.1⟩ : Unit_) (sV aF aG aA.1.length aH) (hm.ow_rep 3 rfl) (((aI.1.length : Int)) - 1) aj ak _ au)) ?_
           rintro eE w ⟨cw,rfl,hB⟩
           replace hm:=hm.give hB;clear hB
           refine tAn rfl (tP rfl (λw=>yM rfl) (tP rfl (λw=>yX rfl) (tP rfl (λw=>yX rfl) (tO (tf rfl rfl (λa hf=>e_alloc hm zeroValue28 rfl rfl) ?_)))))
           rintro _ w ⟨cx,rfl,hm⟩
           refine tAk hm [2,3,4,5,6,7] rfl λhS=>tO (tf0 rfl rfl (λa hf=>e_storeN 0 hf hm rfl sizeOf28 rfl rfl rfl (one_cons (rep_one (hm.ow_rep 1 rfl)) one_nil) rfl rfl) ?_)
           rintro _ w hm
           refine tAn rfl (tP rfl (λw=>yA rfl) (tE ?_))
           replace hm:=hm.imp (c':=ow [sV bm bp ac.length bq] (ac:List Int)) 2 rfl (λF h0=>h0)
           replace hm:=(hm.shutE (y:=(ac:List Int)) 6 2 (by decide) rfl rfl).pk (L':=[_,_,_,_,_,_,_]) [0,1,3,4,5,6,7] rfl rfl
           rw [set_same al] at hm
           exact gZ λa hf=>⟨cx,cw,hf.sb rfl,hm.pk [2,3,4,5,0,1] rfl rfl⟩
          refine tO (tf rfl rfl (λa hf=>e_alloc hm zeroValue28 rfl rfl) ?_)
          rintro _ w ⟨cy,rfl,hm⟩
          refine tAk hm [1,2,3,4,5,6] rfl λhS=>tO (tf rfl rfl (λa hf=>e_call hf rfl call7 rfl (spec_InlineCall_ok _ (⟨aA.1⟩:Unit_) (sV aF aG aA.1.length aH) (hm.ow_rep 4 rfl) (((aI.1.length:Int)) - 1) aj ak _ au)) ?_)
          rintro eF w ⟨cz,rfl,hB⟩
          replace hm:=hm.give hB;clear hB
          refine tAn rfl (tP rfl (λw=>yM rfl) (tP rfl (λw=>yX rfl) (tP rfl (λw=>yX rfl) (tO (tf0 rfl rfl (λa hf=>e_storeN 1 hf hm rfl sizeOf28 rfl rfl rfl (one_cons (rep_one (hm.ow_rep 0 rfl)) one_nil) rfl rfl) ?_)))))
          rintro _ w hm
          refine tAn rfl (tP rfl (λw=>yA rfl) (tE ?_))
          replace hm:=hm.imp (c':=ow [sV bm bp ac.length bq] (ac:List Int)) 2 rfl (λF h0=>h0)
          replace hm:=(hm.shutE (y:=(ac:List Int)) 6 2 (by decide) rfl rfl).pk (L':=[_,_,_,_,_,_,_]) [0,1,3,4,5,6,7] rfl rfl
          rw [set_same al] at hm
          exact gZ λa hf=>⟨cy,cz,hf.sb rfl,hm.pk [2,3,4,5,1,0] rfl rfl⟩
         refine tO (tf rfl rfl (λa hf=>e_alloc hm zeroValue28 rfl rfl) ?_)
         rintro _ w ⟨dA,rfl,hm⟩
         refine tAk hm [1,2,3,4,5,6] rfl λhS=>tO (tY rfl (yl isAgg47 ((hm.holeE_at 5 rfl).cell (j:=0) rfl) rfl) (tAs hS ?_))
         obtain ⟨dB,cP⟩:=getI_some.1 bK
         refine tP rfl (λw=>yI st_47 dB (idx_lt cP) rfl) (tO (tY rfl (yl isAgg3 ((flat_cells (cs:=[nV aj]) (hm.ow_rep 1 rfl) cP rfl).cell (j:=0) rfl) rfl) (tAs hS (tO (tf rfl rfl (λa hf=>e_call hf rfl call7 rfl (spec_InlineCall_ok _ (⟨aA.1⟩:Unit_) (sV aF aG aA.1.length aH) (hm.ow_rep 4 rfl) (((aI.1.length:Int)) - 1) aj ak _ au)) ?_)))))
         rintro eG w ⟨dC,rfl,hB⟩
         replace hm:=hm.give hB;clear hB
         refine tAn rfl (tP rfl (λw=>yM rfl) (tP rfl (λw=>yX rfl) (tP rfl (λw=>yX rfl) (tO (tf0 rfl rfl (λa hf=>e_storeN 1 hf hm rfl sizeOf28 rfl rfl rfl (one_cons (rep_one (hm.ow_rep 0 rfl)) one_nil) rfl rfl) ?_)))))
         rintro _ w hm
         refine tAn rfl (tP rfl (λw=>yA rfl) (tE ?_))
         replace hm:=hm.imp (c':=ow [sV bm bp ac.length bq] (ac:List Int)) 2 rfl (λF h0=>h0)
         replace hm:=(hm.shutE (y:=(ac:List Int)) 6 2 (by decide) rfl rfl).pk (L':=[_,_,_,_,_,_,_]) [0,1,3,4,5,6,7] rfl rfl
         rw [set_same al] at hm
         exact gZ λa hf=>⟨dA,dC,hf.sb rfl,hm.pk [2,3,4,5,1,0] rfl rfl⟩
        refine tO (tf rfl rfl (λa hf=>e_alloc hm zeroValue28 rfl rfl) ?_)
        rintro _ w ⟨cQ,rfl,hm⟩
        refine tAk hm [1,2,3,4,5,6] rfl λhS=>tMo ?_ ?_
        ·refine tY rfl (yl isAgg47 ((hm.holeE_at 5 rfl).cell (j := 0) rfl) rfl) (tAs hS ?_)
         obtain ⟨dD,br⟩:=getI_some.1 bK
         obtain ⟨dE,dF,dG,he⟩:=idx_form (hm.ow_rep 1 rfl) br
         subst he
         refine tP rfl (λw=>yI st_47 dD (idx_lt br) rfl) (tQ rfl hS (λw hm=>yl isAgg3 ((flat_cells (cs:=[nV aj]) (hm.ow_rep 0 rfl) br rfl).cell (j:=0) rfl) rfl) (tO (tY rfl (yl isAgg47 ((hm.holeE_at 5 rfl).cell (j:=0) rfl) rfl) (tAs hS ?_))))
         obtain ⟨dH,cR⟩:=getI_some.1 bL
         refine tP rfl (λw=>yI st_47 dH (idx_lt cR) rfl) (tO (tY rfl (yl isAgg3 ((flat_cells (cs:=[nV ak]) (hm.ow_rep 1 rfl) cR rfl).cell (j:=0) rfl) rfl) (tAs hS (tO (tf rfl rfl (λa hf=>e_call hf rfl call7 rfl (spec_InlineCall_ok _ (⟨aA.1⟩:Unit_) (sV aF aG aA.1.length aH) (hm.ow_rep 4 rfl) (((aI.1.length:Int)) - 1) aj ak _ au)) ?_)))))
         rintro eH w ⟨dI,rfl,hB⟩
         replace hm:=hm.give hB;clear hB
         refine tAn rfl (tP rfl (λw=>yM rfl) (tP rfl (λw=>yX rfl) (tP rfl (λw=>yX rfl) (tO (tf0 rfl rfl (λa hf=>e_storeN 1 hf hm rfl sizeOf28 rfl rfl rfl (one_cons (rep_one (hm.ow_rep 0 rfl)) one_nil) rfl rfl) ?_)))))
         rintro _ w hm
         refine tAn rfl (tP rfl (λw=>yA rfl) (tE ?_))
         replace hm:=hm.imp (c':=ow [sV dE dF ac.length dG] (ac:List Int)) 2 rfl (λF h0=>h0)
         replace hm:=(hm.shutE (y:=(ac:List Int)) 6 2 (by decide) rfl rfl).pk (L':=[_,_,_,_,_,_,_]) [0,1,3,4,5,6,7] rfl rfl
         rw [set_same al] at hm
         exact gZ λa hf=>⟨cQ,dI,hf.sb rfl,hm.pk [2,3,4,5,1,0] rfl rfl⟩
        refine tO (tY rfl (yl isAgg47 ((hm.holeE_at 5 rfl).cell (j:=0) rfl) rfl) (tAs hS ?_))
        obtain ⟨dJ,bs⟩:=getI_some.1 bL
        obtain ⟨dK,dL,dM,he⟩:=idx_form (hm.ow_rep 1 rfl) bs
        subst he
        refine tP rfl (λw=>yI st_47 dJ (idx_lt bs) rfl) (tQ rfl hS (λw hm=>yl isAgg3 ((flat_cells (cs:=[nV ak]) (hm.ow_rep 0 rfl) bs rfl).cell (j:=0) rfl) rfl) (tO (tY rfl (yl isAgg47 ((hm.holeE_at 5 rfl).cell (j:=0) rfl) rfl) (tAs hS ?_))))
        obtain ⟨dN,cS⟩:=getI_some.1 bK
        refine tP rfl (λw=>yI st_47 dN (idx_lt cS) rfl) (tO (tY rfl (yl isAgg3 ((flat_cells (cs:=[nV aj]) (hm.ow_rep 1 rfl) cS rfl).cell (j:=0) rfl) rfl) (tAs hS (tO (tf rfl rfl (λa hf=>e_call hf rfl call7 rfl (spec_InlineCall_ok _ (⟨aA.1⟩:Unit_) (sV aF aG aA.1.length aH) (hm.ow_rep 4 rfl) (((aI.1.length:Int)) - 1) aj ak _ au)) ?_)))))
        rintro eI w ⟨dO,rfl,hB⟩
        replace hm:=hm.give hB;clear hB
        refine tAn rfl (tP rfl (λw=>yM rfl) (tP rfl (λw=>yX rfl) (tP rfl (λw=>yX rfl) (tO (tf0 rfl rfl (λa hf=>e_storeN 1 hf hm rfl sizeOf28 rfl rfl rfl (one_cons (rep_one (hm.ow_rep 0 rfl)) one_nil) rfl rfl) ?_)))))
        rintro _ w hm
        refine tAn rfl (tP rfl (λw=>yA rfl) (tE ?_))
        replace hm:=hm.imp (c':=ow [sV dK dL ac.length dM] (ac:List Int)) 2 rfl (λF h0=>h0)
        replace hm:=(hm.shutE (y:=(ac:List Int)) 6 2 (by decide) rfl rfl).pk (L':=[_,_,_,_,_,_,_]) [0,1,3,4,5,6,7] rfl rfl
        rw [set_same al] at hm
        exact gZ λa hf=>⟨cQ,dO,hf.sb rfl,hm.pk [2,3,4,5,1,0] rfl rfl⟩
       repeat clear hm
       rintro b9 a w ⟨bf,ba,hf,hm⟩
       refine gv hf (gS (gS (gR (gM rfl (gN rfl (gE (gsn 93 rfl (λdP=>?_) λdP=>?_)))))))
       ·exact gct rfl (gS (gR (gY (yn (hm.blk_at 1 rfl) isAgg28 sizeOf28 rfl) (gSN hm 0 sizeOf28 (one_cons rfl one_nil) rfl λw hm=>gA rfl (gE (gRt (gEr c7 (gLp cC cB (gl (gEr c4 (gLp bx bv (gl (gEr cY (grct 0 results13 hm rfl isAgg28 sizeOf28 ⟨sV aF aG aA.1.length aH,rfl,hm.pk [2] rfl rfl⟩))))))))))))))
       exact gcf rfl (gSk (gS (gR (gY (yn (hm.blk_at 4 rfl) isAgg28 sizeOf28 rfl) (gSN hm 1 sizeOf28 (one_cons (rep_one (hm.ow_rep 5 rfl)) one_nil) rfl λw hm=>gE (gR (gA rfl (gE (gZe λa hf=>⟨ba,hf.sb rfl,hm.pk [0,1,5,3] rfl rfl⟩)))))))))
      repeat clear hm
      rintro bd a w ⟨bR,hf,hm⟩
      exact gv hf (gR (gM rfl (gB rfl (gA rfl (gE (gZe λa hf=>⟨bR,hf.sb rfl,hm.pk [0,1,2,3] rfl rfl⟩))))))
     exact gcf rfl (gXt (gHh (gLp cC cB (gr (gZe λa hf=>⟨ay,hf.sb rfl,hm.pk [0,1,2] rfl rfl⟩)))))
    repeat clear hm
    rintro bc a w ⟨bP,hf,hm⟩
    exact gv hf (gZe λa hf=>⟨bP,hf.sb rfl,hm.pk [0,1,2] rfl rfl⟩)
   exact gcf rfl (gXt (gHh (gLp bx bv (gr (gZe λa hf=>⟨bO,hf.sb rfl,hm.pk [0,1,2] rfl rfl⟩)))))
  repeat clear hm
  rintro bu a w ⟨bN,hf,hm⟩
  exact gv hf (gS (gR (gY (yn (hm.blk_at 1 rfl) isAgg28 sizeOf28 rfl) (gSN hm 0 sizeOf28 (one_cons (rep_one (hm.ow_rep 2 rfl)) one_nil) rfl λw hm=>gA rfl (gE (gRt (grct 0 results13 hm rfl isAgg28 sizeOf28 ⟨bN,rfl,hm.pk [2] rfl rfl⟩)))))))
theorem impl_within_ok (w0 : World) (n_ : Int) (low : Int) (high : Int) :
    ConM Tryz.prog 25 [nV n_,nV low,nV high] w0 (impl_within n_ low high) λr v w'=>v=(.bool (r))∧Below w0.heap.size w0 w':=by
  unfold impl_within
  refine gcon func25 rfl λr=>?_
  have hm:=Mem.start w0
  refine gS (gR (gA rfl (gE (gS (gJ hm (λaA=>[(6,(.bool (aA)))]) (λaA=>[]) (λaA=>?_) ?_)))))
  ·refine gR (gM rfl (gM rfl (gB rfl (gM rfl (gsd 10 rfl (fun aB => ?_) fun aB => ?_)))))
   ·exact gM rfl (gM rfl (gB rfl (gKt rfl (gA rfl (gE (gz hm [] rfl))))))
   exact gO rfl (gO rfl (gO rfl (gKf rfl (gA rfl (gE (gz hm [] rfl))))))
  repeat clear hm
  intro aA w hm
  exact gRt (gr1 results25 rfl ⟨rfl,hm.below⟩)
theorem impl_codeOk_1_ok (w0 : World) (r_ : Int) (c0_ : Code_) (v1 : Value) (h1 : GT.rep (hp w0) [v1] c0_.blocks) (bf0 : Nat) (hbf0 : w0.heap[bf0]? = some (.cells ([nV c0_.params, nV c0_.regs, v1] : List Value).toArray 44 (0, 0))) :
    ConM Tryz.prog 104 [nV r_,(pV bf0)] w0 (impl_codeOk_1 r_ c0_) λr v w'=>v=(.bool (r))∧Below w0.heap.size w0 w':=by
  unfold impl_codeOk_1
  refine gcon func104 rfl λr=>?_
  have hm:=Mem.start w0
  exact gS (gR (gA rfl (gE (gS (gR (gM rfl (gF fo_44_1 rfl (gY (yl isAgg3 (hm.old_cell hbf0 rfl) rfl) (gB rfl (gC hm rfl call25 (impl_within_ok _ r_ 0 (w64 (c0_.regs - 1))) λaA aB w hm=>gA rfl (gE (gRt (gr1 results104 rfl ⟨rfl,hm.below⟩)))))))))))))
theorem impl_nextCount_ok (w0 : World) (jump : Int) :
    ConM Tryz.prog 105 [nV jump] w0 (impl_nextCount jump) λr v w'=>v=(nV r)∧Below w0.heap.size w0 w':=by
  unfold impl_nextCount
  refine gcon func105 rfl λr=>?_
  have hm:=Mem.start w0
  refine gS (gR (gA rfl (gE (gS (gS (gR (gM rfl (gE (gBk (gS (gR (gB rfl (gA rfl (gE (gsd 4 rfl (λaA=>?_) λaA=>?_)))))))))))))))
  ·exact gct rfl (gS (gR (gA rfl (gE (gRt (gr1 results105 rfl ⟨rfl,hm.below⟩))))))
  refine gcf rfl (gS (gR (gB rfl (gA rfl (gE (gsd 6 rfl (λaB=>?_) λaB=>?_))))))
  ·exact gct rfl (gS (gR (gA rfl (gE (gRt (gr1 results105 rfl ⟨rfl,hm.below⟩))))))
  refine gcf rfl (gS (gR (gB rfl (gA rfl (gE (gsd 8 rfl (λaC=>?_) λaC=>?_))))))
  ·exact gct rfl (gS (gR (gA rfl (gE (gRt (gr1 results105 rfl ⟨rfl,hm.below⟩))))))
  exact gcf rfl (gSk (gS (gR (gA rfl (gE (gRt (gr1 results105 rfl ⟨rfl,hm.below⟩)))))))
theorem impl_usesOn_ok (w0 : World) (jump : Int) :
    ConM Tryz.prog 93 [nV jump] w0 (impl_usesOn jump) λr v w'=>v=(.bool (r))∧Below w0.heap.size w0 w':=by
  unfold impl_usesOn
  refine gcon func93 rfl λr=>?_
  have hm:=Mem.start w0
  refine gS (gR (gA rfl (gE (gS (gJ hm (λaA=>[(2,(.bool (aA)))]) (λaA=>[]) (λaA=>?_) ?_)))))
  ·refine gR (gM rfl (gB rfl (gM rfl (gsd 5 rfl (fun aB => ?_) fun aB => ?_))))
   ·exact gO rfl (gO rfl (gKt rfl (gA rfl (gE (gz hm [] rfl)))))
   exact gM rfl (gB rfl (gKf rfl (gA rfl (gE (gz hm [] rfl)))))
  repeat clear hm
  intro aA w hm
  exact gRt (gr1 results93 rfl ⟨rfl,hm.below⟩)
theorem impl_codeOk_2_ok (w0 : World) (n_ : Int) (c0_ : Code_) (v1 : Value) (h1 : GT.rep (hp w0) [v1] c0_.blocks) (bf0 : Nat) (hbf0 : w0.heap[bf0]? = some (.cells ([nV c0_.params, nV c0_.regs, v1] : List Value).toArray 44 (0, 0))) :
    ConM Tryz.prog 107 [nV n_,(pV bf0)] w0 (impl_codeOk_2 n_ c0_) λr v w'=>v=(.bool (r))∧Below w0.heap.size w0 w':=by
  unfold impl_codeOk_2
  refine gcon func107 rfl λr=>?_
  have hm:=Mem.start w0
  refine gS (gR (gA rfl (gE (gS (gR (gM rfl (gF fo_44_2 rfl (gY (yl isAgg42 (hm.old_cell hbf0 rfl) rfl) ?_))))))))
  obtain ⟨aA,aB,rfl,aC⟩:=ro_slice h1
  exact gY (yV st_42 rfl) (gY (yS (by omega) (by omega) rfl) (gC hm rfl call25 (impl_within_ok _ n_ 1 (((c0_.blocks.length:Int)) - 1)) λaD aE w hm=>gN rfl (gA rfl (gE (gRt (gr1 results107 rfl ⟨rfl,hm.below⟩))))))
theorem slices_IndexFunc_S_int_int_ok (w0 : World) (s_ : List Int) (v1 : Value) (h1 : GT.rep (hp w0) [v1] s_) (f : Int → Option Bool) (fv1 : Value) (hfn1 : ∀ (w : World) (y0 : Int) (r : Bool), Below w0.heap.size w0 w → f y0 = some r → FnOk Tryz.prog fv1 [nV y0] w (fun v w' => v = (.bool (r)) ∧ Below w.heap.size w w')) :
    ConM Tryz.prog 156 [v1,fv1] w0 (slices_IndexFunc_S_int_int s_ f) λr v w'=>v=(nV r)∧Below w0.heap.size w0 w':=by
  unfold slices_IndexFunc_S_int_int
  refine gcon func156 rfl λr=>?_
  have hm:=Mem.start w0
  refine gS (gR (gA rfl (gE (gS (gS (gR (gM rfl ?_)))))))
  obtain ⟨aE,aF,rfl,aL⟩:=ro_slice h1
  refine gY (yV st_47 rfl) (gM rfl (gE (gBk (gNf hm (λaA aC=>[(0,(.slice aE s_.length aF)),(1,fv1),(7,(nV ((s_.length:Int)))),(8,(nV aA))]) (λaA aC=>[]) [] rfl ?_ ?_))))
  ·repeat clear hm
   intro aM aG aA aC w hm aN aO aP aH
   refine gS (gR (gB rfl (gE (gS (go _ 9 rfl (decide_eq_true (by omega)) (gct rfl (gSk (gS (gBk (gS (gR (gM rfl (gA rfl (gE (gS (gR (gM rfl (gM rfl (gM rfl (gg λaD aI aB=>?_))))))))))))))))))))
   obtain ⟨aQ,aR,aS,he⟩:=idx_form h1 aB
   obtain ⟨rfl,_,rfl⟩:=sl3 he
   refine gI st_47 aI (idx_lt aB) rfl (gY (yl isAgg3 ((flat_cells (cs:=[nV aD]) (hm.now h1) aB rfl).cell (j:=0) rfl) rfl) (gb λaT aJ=>gf rfl (λa hf=>e_callv hf rfl rfl rfl (hfn1 _ aD _ hm.below aJ)) ?_))
   rintro aV w ⟨rfl,hB⟩
   replace hm:=hm.below' hB;clear hB
   refine gE (gs 16 rfl (λaK=>?_) λaK=>?_)
   ·exact gct rfl (gS (gR (gM rfl (gA rfl (gE (gRt (gLr aH aG (gr1 results156 rfl ⟨rfl,hm.below⟩))))))))
   exact gcf rfl (gSk (gR (gP (by omega) (by omega) rfl (gM rfl (gE (gze hm [] rfl))))))
  repeat clear hm
  intro aW aX w hm aY aZ
  exact gS (gR (gB rfl (gE (gS (go _ 9 rfl (decide_eq_false (by omega)) (gcf rfl (gXt (gHh (gS (gR (gA rfl (gE (gRt (gr1 results156 rfl ⟨rfl,hm.below⟩))))))))))))))
theorem slices_ContainsFunc_S_int_int_ok (w0 : World) (s_ : List Int) (v1 : Value) (h1 : GT.rep (hp w0) [v1] s_) (f : Int → Option Bool) (fv1 : Value) (hfn1 : ∀ (w : World) (y0 : Int) (r : Bool), Below w0.heap.size w0 w → f y0 = some r → FnOk Tryz.prog fv1 [nV y0] w (fun v w' => v = (.bool (r)) ∧ Below w.heap.size w w')) :
    ConM Tryz.prog 106 [v1,fv1] w0 (slices_ContainsFunc_S_int_int s_ f) λr v w'=>v=(.bool (r))∧Below w0.heap.size w0 w':=by
  unfold slices_ContainsFunc_S_int_int
  refine gcon func106 rfl λr=>?_
  have hm:=Mem.start w0
  exact gS (gR (gA rfl (gE (gS (gR (gM rfl (gM rfl (gC hm rfl call156 (slices_IndexFunc_S_int_int_ok _ s_ v1 (hm.now h1) f fv1 (λw y0 r hB hq=>hfn1 w y0 r (hm.below.trans (hB.mono hm.below.size)) hq)) λaA aB w hm=>gB rfl (gA rfl (gE (gRt (gr1 results106 rfl ⟨rfl,hm.below⟩))))))))))))
theorem impl_insOk_1_ok (w0 : World) (r_ : Int) (c0_ : Code_) (v1 : Value) (h1 : GT.rep (hp w0) [v1] c0_.blocks) (bf0 : Nat) (hbf0 : w0.heap[bf0]? = some (.cells ([nV c0_.params, nV c0_.regs, v1] : List Value).toArray 44 (0, 0))) :
    ConM Tryz.prog 158 [nV r_,(pV bf0)] w0 (impl_insOk_1 r_ c0_) λr v w'=>v=(.bool (r))∧Below w0.heap.size w0 w':=by
  unfold impl_insOk_1
  refine gcon func158 rfl λr=>?_
  have hm:=Mem.start w0
  exact gS (gR (gA rfl (gE (gS (gR (gM rfl (gF fo_44_1 rfl (gY (yl isAgg3 (hm.old_cell hbf0 rfl) rfl) (gB rfl (gC hm rfl call25 (impl_within_ok _ r_ 0 (w64 (c0_.regs - 1))) λaA aB w hm=>gA rfl (gE (gRt (gr1 results158 rfl ⟨rfl,hm.below⟩)))))))))))))
theorem impl_isIns_ok (w0 : World) (op : Int) :
    ConM Tryz.prog 153 [nV op] w0 (impl_isIns op) λr v w'=>v=(.bool (r))∧Below w0.heap.size w0 w':=by
  unfold impl_isIns
  refine gcon func153 rfl λr=>?_
  have hm:=Mem.start w0
  exact gS (gR (gA rfl (gE (gS (gR (gM rfl (gC hm rfl call25 (impl_within_ok _ op 1 14) λaA aB w hm=>gA rfl (gE (gRt (gr1 results153 rfl ⟨rfl,hm.below⟩))))))))))
theorem impl_insOk_2_ok (w0 : World) (r_ : Int) (c0_0_ : Code_) (v1 : Value) (h1 : GT.rep (hp w0) [v1] c0_0_.blocks) (aA : Nat) (aB : w0.heap[aA]? = some (.cells ([nV c0_0_.params, nV c0_0_.regs, v1] : List Value).toArray 44 (0, 0))) (bf0 : Nat) (hbf0 : w0.heap[bf0]? = some (.cells ([(.func (.func 158) #[] #[(pV aA)])] : List Value).toArray 124 (0, 0))) :
    ConM Tryz.prog 159 [nV r_,(pV bf0)] w0 (impl_insOk_2 r_ c0_0_) λr v w'=>v=(.bool (r))∧Below w0.heap.size w0 w':=by
  unfold impl_insOk_2
  refine gcon func159 rfl λr=>?_
  have hm:=Mem.start w0
  refine gS (gR (gA rfl (gE (gS (gR (gY (yl isAgg124 (hm.old_cell hbf0 rfl) rfl) (gM rfl (gb λaD aC=>gf rfl (λa hf=>e_callv hf rfl rfl rfl ⟨158,[(pV aA)],rfl,call158,impl_insOk_1_ok _ r_ c0_0_ v1 (rep_later (hm.now h1) (Below.refl _ _)) aA (hm.old_later aB (Below.refl _ _)) _ aC⟩) ?_))))))))
  rintro aE w ⟨rfl,hB⟩
  replace hm:=hm.below' hB;clear hB
  exact gN rfl (gA rfl (gE (gRt (gr1 results159 rfl ⟨rfl,hm.below⟩))))
theorem impl_sets_ok (w0 : World) (op : Int) :
    ConM Tryz.prog 92 [nV op] w0 (impl_sets op) λr v w'=>v=(.bool (r))∧Below w0.heap.size w0 w':=by
  unfold impl_sets
  refine gcon func92 rfl λr=>?_
  have hm:=Mem.start w0
  refine gS (gR (gA rfl (gE (gS (gJ hm (λaA=>[(2,(.bool (aA)))]) (λaA=>[]) (λaA=>?_) ?_)))))
  ·refine gR (gM rfl (gC hm rfl call153 (impl_isIns_ok _ op) fun aD aE w hm => gM rfl (gs 5 rfl (fun aB => ?_) fun aB => ?_)))
   ·refine gM rfl (gB rfl (gKt rfl (gM rfl (gsd 9 rfl (fun aC => ?_) fun aC => ?_))))
    ·exact gM rfl (gB rfl (gKt rfl (gA rfl (gE (gz hm [] rfl)))))
    exact gO rfl (gO rfl (gKf rfl (gA rfl (gE (gz hm [] rfl)))))
   exact gO rfl (gO rfl (gKf rfl (gM rfl (gO rfl (gO rfl (gKf rfl (gA rfl (gE (gz hm [] rfl)))))))))
  repeat clear hm
  intro aA w hm
  exact gRt (gr1 results92 rfl ⟨rfl,hm.below⟩)
theorem impl_isByte_ok (w0 : World) (n_ : Int) :
    ConM Tryz.prog 160 [nV n_] w0 (impl_isByte n_) λr v w'=>v=(.bool (r))∧Below w0.heap.size w0 w':=by
  unfold impl_isByte
  refine gcon func160 rfl λr=>?_
  have hm:=Mem.start w0
  exact gS (gR (gA rfl (gE (gS (gR (gM rfl (gC hm rfl call25 (impl_within_ok _ n_ 0 255) λaA aB w hm=>gA rfl (gE (gRt (gr1 results160 rfl ⟨rfl,hm.below⟩))))))))))
theorem impl_insArgs_ok (w0 : World) (op : Int) :
    ConM Tryz.prog 161 [nV op] w0 (impl_insArgs op) λr v w'=>v=(nV r)∧Below w0.heap.size w0 w':=by
  unfold impl_insArgs
  refine gcon func161 rfl λr=>?_
  have hm:=Mem.start w0
  refine gS (gR (gA rfl (gE (gS (gS (gR (gM rfl (gE (gBk (gS (gR (gB rfl (gA rfl (gE (gsd 4 rfl (λaD=>?_) λaD=>?_)))))))))))))))
  ·exact gct rfl (gS (gR (gA rfl (gE (gRt (gr1 results161 rfl ⟨rfl,hm.below⟩))))))
  refine gcf rfl (gS (gS (gR (gB rfl (gA rfl (gE (gJ hm (λaA=>[(6,(.bool (aA)))]) (λaA=>[]) (λaA=>?_) ?_)))))))
  ·refine gsd 6 rfl (fun aE => ?_) fun aE => ?_
   ·exact gct rfl (gSk (gz hm [] rfl))
   refine gcf rfl (gS (gR (gB rfl (gA rfl (gE (gJ hm (λaB=>[(6,(.bool (aB)))]) (λaB=>[]) (λaB=>?_) ?_))))))
   ·refine gsd 6 rfl (fun aF => ?_) fun aF => ?_
    ·exact gct rfl (gSk (gz hm [] rfl))
    refine gcf rfl (gS (gR (gB rfl (gA rfl (gE (gJ hm (λaC=>[(6,(.bool (aC)))]) (λaC=>[]) (λaC=>?_) ?_))))))
    ·refine gsd 6 rfl (fun aG => ?_) fun aG => ?_
     ·exact gct rfl (gSk (gz hm [] rfl))
     exact gcf rfl (gR (gB rfl (gA rfl (gE (gz hm [] rfl)))))
    repeat clear hm
    intro aC w hm
    exact gz hm [] rfl
   repeat clear hm
   intro aB w hm
   exact gz hm [] rfl
  repeat clear hm
  intro aA w hm
  refine gs 6 rfl (λaH=>?_) λaH=>?_
  ·exact gct rfl (gS (gR (gA rfl (gE (gRt (gr1 results161 rfl ⟨rfl,hm.below⟩))))))
  exact gcf rfl (gSk (gS (gR (gA rfl (gE (gRt (gr1 results161 rfl ⟨rfl,hm.below⟩)))))))
theorem impl_insOk_ok (w0 : World) (u : Unit_) (v1 : Value) (h1 : GT.rep (hp w0) [v1] u.codes) (k_ : Int) (x_ : Ins_) (v2 : Value) (h2 : GT.rep (hp w0) [v2] x_.args) :
    ConM Tryz.prog 110 [(.agg #[v1]),nV k_,(.agg #[nV x_.op,nV x_.to,v2,nV x_.n_])] w0 (impl_insOk u k_ x_) λr v w'=>v=(.bool (r))∧Below w0.heap.size w0 w':=by
  unfold impl_insOk
  refine gcon func110 rfl λr=>?_
  have hm:=Mem.start w0
  refine gS (gR (gBx hm rfl λaA w hm=>gBx hm rfl λaB w hm=>gA rfl (gE (gS (gR (gF fo_28_0 rfl (gL hm 1 isAgg26 rfl (gM rfl (gg λaC aR aN=>?_)))))))))
  obtain ⟨aF,aG,aH,he⟩:=idx_form' h1 aN
  subst he
  obtain ⟨aO,aS,aP⟩:=rk_Code_ h1 aN
  refine gI st_26 aR (idx_lt aN) rfl (gY (yn (aS.mono hm.lez) isAgg44 sizeOf44 rfl) (gAl hm zeroValue44 rfl λaD w hm=>gSN hm 0 sizeOf44 (one_cons rfl (one_cons rfl (one_cons (rep_one aP) one_nil))) rfl λw hm=>gE (gS (gR (gY (yU rfl) (gAl hm zeroValue124 rfl λaE w hm=>gS1 hm 0 sizeOf124 rfl rfl λw hm=>gE (gS (gS (gJ hm (λaI=>[(1,(nV k_)),(3,(pV aA)),(5,(pV aB)),(8,(pV aE)),(24,(.bool (aI)))]) (λaI=>[blk aA [sV aF aG u.codes.length aH] 28,blk aB [nV x_.op,nV x_.to,v2,nV x_.n_] 51,blk aE [(.func (.func 158) #[] #[(pV aD)])] 124,blk aD [nV aC.params,nV aC.regs,aO] 44]) (λaI=>?_) ?_)))))))))
  ·refine gR (gF fo_51_0 rfl (gL hm 2 isAgg3 rfl (gC hm rfl call153 (impl_isIns_ok _ x_.op) fun an ao w hm => gN rfl (gM rfl (gsn 19 rfl (fun aT => ?_) fun aT => ?_)))))
   ·exact gO rfl (gO rfl (gO rfl (gO rfl (gKt rfl (gE (gz hm [3,2,0,1] rfl))))))
   exact gF fo_51_2 rfl (gL hm 2 isAgg47 rfl (gY (yU rfl) (gC hm rfl call106 (slices_ContainsFunc_S_int_int_ok _ x_.args v2 (hm.now h2) (λy0=>impl_insOk_2 y0 aC) (.func (.func 159) #[] #[(pV aE)]) (λw y0 r hB hq=>⟨159,[(pV aE)],rfl,call159,impl_insOk_2_ok w y0 aC aO (rep_later (hm.now aP) hB) aD (hm.blk_later 1 rfl hB) aE (hm.blk_later 0 rfl hB) r hq⟩)) λap aq w hm=>gKf rfl (gE (gz hm [3,2,0,1] rfl)))))
  repeat clear hm
  intro aI w hm
  refine gs 24 rfl (λaV=>?_) λaV=>?_
  ·exact gct rfl (gS (gR (gA rfl (gE (gRt (gr1 results110 rfl ⟨rfl,hm.below⟩))))))
  refine gcf rfl (gSk (gS (gS (gJ hm (λaJ=>[(1,(nV k_)),(3,(pV aA)),(5,(pV aB)),(45,(.bool (aJ)))]) (λaJ=>[blk aA [sV aF aG u.codes.length aH] 28,blk aB [nV x_.op,nV x_.to,v2,nV x_.n_] 51]) (λaJ=>?_) ?_))))
  ·refine gR (gF fo_51_0 rfl (gL hm 1 isAgg3 rfl (gC hm rfl call92 (impl_sets_ok _ x_.op) fun ar au w hm => gM rfl (gs 28 rfl (fun aW => ?_) fun aW => ?_))))
   ·refine gL hm 2 isAgg124 rfl (gF fo_51_1 rfl (gL hm 1 isAgg3 rfl (gb fun av aX => gf rfl (fun a hf => e_callv hf rfl rfl rfl ⟨158, [(pV aD)], rfl, call158, impl_insOk_1_ok _ x_.to aC aO (rep_later (hm.now aP) (Below.refl _ _)) aD (hm.blk_later 3 rfl (Below.refl _ _)) _ aX⟩) ?_)))
    rintro aw w ⟨rfl,hB⟩
    replace hm:=hm.below' hB;clear hB
    refine gN rfl (gKt rfl (gM rfl (gsn 35 rfl (λaY=>?_) λaY=>?_)))
    ·exact gO rfl (gO rfl (gO rfl (gO rfl (gO rfl (gO rfl (gO rfl (gO rfl (gO rfl (gKt rfl (gE (gz hm [0,1] rfl)))))))))))
    refine gF fo_51_0 rfl (gL hm 1 isAgg3 rfl (gC hm rfl call92 (impl_sets_ok _ x_.op) λax ay w hm=>gN rfl (gM rfl (gsn 40 rfl (λaZ=>?_) λaZ=>?_))))
    ·exact gF fo_51_1 rfl (gL hm 1 isAgg3 rfl (gB rfl (gKt rfl (gKf rfl (gE (gz hm [0,1] rfl))))))
    exact gO rfl (gO rfl (gO rfl (gKf rfl (gKf rfl (gE (gz hm [0,1] rfl))))))
   refine gO rfl (gO rfl (gO rfl (gO rfl (gO rfl (gKf rfl (gM rfl (gF fo_51_0 rfl (gL hm 1 isAgg3 rfl (gC hm rfl call92 (impl_sets_ok _ x_.op) λaz bA w hm=>gN rfl (gM rfl (gsn 40 rfl (λaa=>?_) λaa=>?_)))))))))))
   ·exact gF fo_51_1 rfl (gL hm 1 isAgg3 rfl (gB rfl (gKt rfl (gKf rfl (gE (gz hm [0,1] rfl))))))
   exact gO rfl (gO rfl (gO rfl (gKf rfl (gKf rfl (gE (gz hm [0,1] rfl))))))
  repeat clear hm
  intro aJ w hm
  refine gs 45 rfl (λab=>?_) λab=>?_
  ·exact gct rfl (gS (gR (gA rfl (gE (gRt (gr1 results110 rfl ⟨rfl,hm.below⟩))))))
  refine gcf rfl (gSk (gS (gS (gR (gF fo_51_0 rfl (gL hm 1 isAgg3 rfl (gE (gBk (gS (gR (gB rfl (gA rfl (gE (gsd 48 rfl (λac=>?_) λac=>?_))))))))))))))
  ·refine gct rfl (gS (gJ hm (fun aK => [(6, (.bool (aK)))]) (fun aK => []) (fun aK => ?_) ?_))
   ·refine gR (gF fo_51_2 rfl (gL hm 1 isAgg47 rfl ?_))
    obtain ⟨bB,bC,rfl,bD⟩:=ro_slice h2
    refine gY (yV st_47 rfl) (gB rfl (gM rfl (gsd 54 rfl (λae=>?_) λae=>?_)))
    ·exact gF fo_51_3 rfl (gL hm 1 isAgg3 rfl (gC hm rfl call160 (impl_isByte_ok _ x_.n_) λbE bF w hm=>gKt rfl (gA rfl (gE (gz hm [] rfl)))))
    exact gO rfl (gO rfl (gO rfl (gKf rfl (gA rfl (gE (gz hm [] rfl))))))
   repeat clear hm
   intro aK w hm
   exact gRt (gr1 results110 rfl ⟨rfl,hm.below⟩)
  refine gcf rfl (gS (gR (gB rfl (gA rfl (gE (gsd 59 rfl (λaf=>?_) λaf=>?_))))))
  ·refine gct rfl (gS (gJ hm (fun aL => [(6, (.bool (aL)))]) (fun aL => []) (fun aL => ?_) ?_))
   ·refine gW (.p 0 (.p 2 (.p 3 (.e 1 (.e 4 (.p 5 (.p 6 (.p 9 (.p 11 (.q 7 (.p 8 (.q 10 (.e 12 (.p 13 (.p 14 (.e 15 (.p 16 (.p 17 (.p 18 .fin))) .nil))) .nil)))))))) .nil) .nil)))) [7, 10, 12, 15] [0, 2, 3, 5, 6, 8, 9, 11, 13, 14, 16, 17, 18] hm [0, 1] [blk aA [sV aF aG u.codes.length aH] 28, blk aB [nV x_.op, nV x_.to, v2, nV x_.n_] 51] rfl mxo (by kernel_rfl) (fun _ _ _ h => h.2) fun w hm hS => tP rfl (fun w => yF fo_51_3 rfl) (tP rfl (fun w => yM rfl) (tP rfl (fun w => yB rfl) (tO (tY rfl (yL hm 1 isAgg3 rfl) (tAn rfl (tO (gb fun bG ah => tf rfl rfl (fun a hf => e_call hf rfl call25 rfl (impl_within_ok _ x_.n_ 0 (w64 (k_ - 1)) _ ah)) ?_)))))))
    rintro bH w ⟨rfl,hB⟩
    replace hm:=hm.below' hB;clear hB
    refine tAk hm [0,1] rfl λhS=>tP rfl (λw=>yM rfl) (gs 66 rfl (λai=>?_) λai=>?_)
    ·refine tP rfl (fun w => yF fo_51_2 rfl) (tP rfl (fun w => yF fo_28_0 rfl) (tP rfl (fun w => yF fo_51_3 rfl) (tQ rfl hS (fun w hm => yL hm 1 isAgg47 rfl) ?_)))
     obtain ⟨bJ,bK,rfl,bL⟩:=ro_slice h2
     refine tP rfl (λw=>yV st_47 rfl) (tQ rfl hS (λw hm=>yL hm 0 isAgg26 rfl) (tO (tY rfl (yL hm 1 isAgg3 rfl) (tAs hS (gg λbM aj aQ=>?_)))))
     obtain ⟨bN,ak,bO⟩:=rk_Code_ h1 aQ
     exact tP rfl (λw=>yI st_26 aj (idx_lt aQ) rfl) (tP rfl (λw=>yF fo_44_0 rfl) (tO (tY rfl (yl isAgg3 ((ak.mono hm.lez).cell (j:=0) rfl) rfl) (tAs hS (tP rfl (λw=>yB rfl) (tP rfl (λw=>yKt rfl) (tP rfl (λw=>yA rfl) (tE (gz hm [] rfl)))))))))
    exact tPo rfl rfl (tPo rfl rfl (tPo rfl rfl (tQo rfl hS rfl (tPo rfl rfl (tQo rfl hS rfl (tO (tEo rfl rfl (tAs hS (tPo rfl rfl (tPo rfl rfl (tO (tEo rfl rfl (tAs hS (tPo rfl rfl (tP rfl (λw=>yKf rfl) (tP rfl (λw=>yA rfl) (tE (gz hm [] rfl))))))))))))))))))
   repeat clear hm
   intro aL w hm
   exact gRt (gr1 results110 rfl ⟨rfl,hm.below⟩)
  refine gcf rfl (gSk (gS (gJ hm (λaM=>[(6,(.bool (aM)))]) (λaM=>[]) (λaM=>?_) ?_)))
  ·refine gW (.p 0 (.e 1 (.p 2 (.p 3 (.p 4 (.p 7 (.q 5 (.p 6 (.e 8 (.e 9 (.p 10 (.p 11 (.p 12 .fin))) .nil) .nil))))))) .nil)) [8, 9] [0, 2, 3, 4, 6, 7, 10, 11, 12] hm [0, 1] [blk aA [sV aF aG u.codes.length aH] 28, blk aB [nV x_.op, nV x_.to, v2, nV x_.n_] 51] rfl mxo (by kernel_rfl) (fun _ _ _ h => h.2) fun w hm hS => tP rfl (fun w => yF fo_51_3 rfl) (tO (tY rfl (yL hm 1 isAgg3 rfl) (tAn rfl (tP rfl (fun w => yB rfl) (tP rfl (fun w => yM rfl) (gsd 82 rfl (fun al => ?_) fun al => ?_))))))
   ·refine tP rfl (fun w => yF fo_51_2 rfl) (tP rfl (fun w => yF fo_51_0 rfl) (tQ rfl hS (fun w hm => yL hm 1 isAgg47 rfl) ?_))
    obtain ⟨bP,bQ,rfl,bR⟩:=ro_slice h2
    refine tP rfl (λw=>yV st_47 rfl) (tO (tY rfl (yL hm 1 isAgg3 rfl) (tAs hS (tO (gb λbS am=>tf rfl rfl (λa hf=>e_call hf rfl call161 rfl (impl_insArgs_ok _ x_.op _ am)) ?_)))))
    rintro bT w ⟨rfl,hB⟩
    replace hm:=hm.below' hB;clear hB
    exact tAk hm [0,1] rfl λhS=>tP rfl (λw=>yB rfl) (tP rfl (λw=>yKt rfl) (tP rfl (λw=>yA rfl) (tE (gz hm [] rfl))))
   exact tPo rfl rfl (tPo rfl rfl (tQo rfl hS rfl (tPo rfl rfl (tO (tEo rfl rfl (tAs hS (tO (tEo rfl rfl (tAs hS (tPo rfl rfl (tP rfl (λw=>yKf rfl) (tP rfl (λw=>yA rfl) (tE (gz hm [] rfl))))))))))))))
  repeat clear hm
  intro aM w hm
  exact gRt (gr1 results110 rfl ⟨rfl,hm.below⟩)
theorem impl_codeOk_3_ok (w0 : World) (i_ : Ins_) (v1 : Value) (h1 : GT.rep (hp w0) [v1] i_.args) (c0_ : Unit_) (v2 : Value) (h2 : GT.rep (hp w0) [v2] c0_.codes) (bf0 : Nat) (hbf0 : w0.heap[bf0]? = some (.cells ([v2] : List Value).toArray 28 (0, 0))) (c1_ : Int) (bf1 : Nat) (hbf1 : w0.heap[bf1]? = some (.cells ([nV c1_] : List Value).toArray 3 (0, 0))) :
    ConM Tryz.prog 109 [(.agg #[nV i_.op,nV i_.to,v1,nV i_.n_]),(pV bf0),(pV bf1)] w0 (impl_codeOk_3 i_ c0_ c1_) λr v w'=>v=(.bool (r))∧Below w0.heap.size w0 w':=by
  unfold impl_codeOk_3
  refine gcon func109 rfl λr=>?_
  have hm:=Mem.start w0
  exact gS (gR (gBx hm rfl λaA w hm=>gA rfl (gE (gS (gR (gY (yn (hm.old_at hbf0) isAgg28 sizeOf28 rfl) (gY (yl isAgg3 (hm.old_cell hbf1 rfl) rfl) (gY (yn (hm.blk_at 0 rfl) isAgg51 sizeOf51 rfl) (gC hm rfl call110 (impl_insOk_ok _ c0_ v2 (hm.now h2) c1_ i_ v1 (hm.now h1)) λaB aC w hm=>gN rfl (gA rfl (gE (gRt (gr1 results109 rfl ⟨rfl,hm.below⟩)))))))))))))
theorem slices_IndexFunc_S_impl_Ins_impl_Ins_ok (w0 : World) (s_ : List Ins_) (v1 : Value) (h1 : GT.rep (hp w0) [v1] s_) (f : Ins_ → Option Bool) (fv1 : Value) (hfn1 : ∀ (w : World) (y0 : Ins_) (z1 : Value) (_ : GT.rep (hp w) [z1] y0.args) (r : Bool), Below w0.heap.size w0 w → f y0 = some r → FnOk Tryz.prog fv1 [(.agg #[nV y0.op, nV y0.to, z1, nV y0.n_])] w (fun v w' => v = (.bool (r)) ∧ Below w.heap.size w w')) :
    ConM Tryz.prog 157 [v1,fv1] w0 (slices_IndexFunc_S_impl_Ins_impl_Ins s_ f) λr v w'=>v=(nV r)∧Below w0.heap.size w0 w':=by
  unfold slices_IndexFunc_S_impl_Ins_impl_Ins
  refine gcon func157 rfl λr=>?_
  have hm:=Mem.start w0
  refine gS (gR (gA rfl (gE (gS (gS (gR (gM rfl ?_)))))))
  obtain ⟨aD,aE,rfl,aO⟩:=ro_slice h1
  refine gY (yV st_46 rfl) (gM rfl (gE (gBk (gNf hm (λaA aC=>[(0,(.slice aD s_.length aE)),(1,fv1),(7,(nV ((s_.length:Int)))),(8,(nV aA))]) (λaA aC=>[]) [] rfl ?_ ?_))))
  ·repeat clear hm
   intro aP aF aA aC w hm aQ aR aS aG
   refine gS (gR (gB rfl (gE (gS (go _ 9 rfl (decide_eq_true (by omega)) (gct rfl (gSk (gS (gBk (gS (gR (gM rfl (gA rfl (gE (gS (gR (gM rfl (gM rfl (gM rfl (gg λaH aI aB=>?_))))))))))))))))))))
   obtain ⟨aT,aV,aW,he⟩:=idx_form' h1 aB
   obtain ⟨rfl,_,rfl⟩:=sl3 he
   obtain ⟨aJ,aK,aL⟩:=rk_Ins_ h1 aB
   refine gI st_46 aI (idx_lt aB) rfl (gY (yn (aK.mono hm.lez) isAgg51 sizeOf51 rfl) (gb λaX aM=>gf rfl (λa hf=>e_callv hf rfl rfl rfl (hfn1 _ aH aJ (hm.now aL) _ hm.below aM)) ?_))
   rintro aY w ⟨rfl,hB⟩
   replace hm:=hm.below' hB;clear hB
   refine gE (gs 16 rfl (λaN=>?_) λaN=>?_)
   ·exact gct rfl (gS (gR (gM rfl (gA rfl (gE (gRt (gLr aG aF (gr1 results157 rfl ⟨rfl,hm.below⟩))))))))
   exact gcf rfl (gSk (gR (gP (by omega) (by omega) rfl (gM rfl (gE (gze hm [] rfl))))))
  repeat clear hm
  intro aZ aa w hm ab ac
  exact gS (gR (gB rfl (gE (gS (go _ 9 rfl (decide_eq_false (by omega)) (gcf rfl (gXt (gHh (gS (gR (gA rfl (gE (gRt (gr1 results157 rfl ⟨rfl,hm.below⟩))))))))))))))
theorem slices_ContainsFunc_S_impl_Ins_impl_Ins_ok (w0 : World) (s_ : List Ins_) (v1 : Value) (h1 : GT.rep (hp w0) [v1] s_) (f : Ins_ → Option Bool) (fv1 : Value) (hfn1 : ∀ (w : World) (y0 : Ins_) (z1 : Value) (_ : GT.rep (hp w) [z1] y0.args) (r : Bool), Below w0.heap.size w0 w → f y0 = some r → FnOk Tryz.prog fv1 [(.agg #[nV y0.op, nV y0.to, z1, nV y0.n_])] w (fun v w' => v = (.bool (r)) ∧ Below w.heap.size w w')) :
    ConM Tryz.prog 108 [v1,fv1] w0 (slices_ContainsFunc_S_impl_Ins_impl_Ins s_ f) λr v w'=>v=(.bool (r))∧Below w0.heap.size w0 w':=by
  unfold slices_ContainsFunc_S_impl_Ins_impl_Ins
  refine gcon func108 rfl λr=>?_
  have hm:=Mem.start w0
  exact gS (gR (gA rfl (gE (gS (gR (gM rfl (gM rfl (gC hm rfl call157 (slices_IndexFunc_S_impl_Ins_impl_Ins_ok _ s_ v1 (hm.now h1) f fv1 (λw y0 aA aB r hB hq=>hfn1 w y0 aA aB r (hm.below.trans (hB.mono hm.below.size)) hq)) λaC aD w hm=>gB rfl (gA rfl (gE (gRt (gr1 results108 rfl ⟨rfl,hm.below⟩))))))))))))
theorem slices_Index_S_int_int_ok (w0 : World) (s_ : List Int) (v1 : Value) (h1 : GT.rep (hp w0) [v1] s_) (v_ : Int) :
    ConM Tryz.prog 154 [v1,nV v_] w0 (slices_Index_S_int_int s_ v_) λr v w'=>v=(nV r)∧Below w0.heap.size w0 w':=by
  unfold slices_Index_S_int_int
  refine gcon func154 rfl λr=>?_
  have hm:=Mem.start w0
  refine gS (gR (gA rfl (gE (gS (gS (gR (gM rfl ?_)))))))
  obtain ⟨aD,aE,rfl,aK⟩:=ro_slice h1
  refine gY (yV st_47 rfl) (gM rfl (gE (gBk (gNf hm (λaA aC=>[(0,(.slice aD s_.length aE)),(1,(nV v_)),(7,(nV ((s_.length:Int)))),(8,(nV aA))]) (λaA aC=>[]) [] rfl ?_ ?_))))
  ·repeat clear hm
   intro aL aF aA aC w hm aM aN aO aG
   refine gS (gR (gB rfl (gE (gS (go _ 9 rfl (decide_eq_true (by omega)) (gct rfl (gSk (gS (gBk (gS (gR (gM rfl (gA rfl (gE (gS (gR (gM rfl (gM rfl (gM rfl (gg λaH aI aB=>?_))))))))))))))))))))
   obtain ⟨aP,aQ,aR,he⟩:=idx_form h1 aB
   obtain ⟨rfl,_,rfl⟩:=sl3 he
   refine gI st_47 aI (idx_lt aB) rfl (gY (yl isAgg3 ((flat_cells (cs:=[nV aH]) (hm.now h1) aB rfl).cell (j:=0) rfl) rfl) (gB rfl (gE (gsd 16 rfl (λaJ=>?_) λaJ=>?_))))
   ·exact gct rfl (gS (gR (gM rfl (gA rfl (gE (gRt (gLr aG aF (gr1 results154 rfl ⟨rfl,hm.below⟩))))))))
   exact gcf rfl (gSk (gR (gP (by omega) (by omega) rfl (gM rfl (gE (gze hm [] rfl))))))
  repeat clear hm
  intro aS aT w hm aV aW
  exact gS (gR (gB rfl (gE (gS (go _ 9 rfl (decide_eq_false (by omega)) (gcf rfl (gXt (gHh (gS (gR (gA rfl (gE (gRt (gr1 results154 rfl ⟨rfl,hm.below⟩))))))))))))))
theorem slices_Contains_S_int_int_ok (w0 : World) (s_ : List Int) (v1 : Value) (h1 : GT.rep (hp w0) [v1] s_) (v_ : Int) :
    ConM Tryz.prog 96 [v1,nV v_] w0 (slices_Contains_S_int_int s_ v_) λr v w'=>v=(.bool (r))∧Below w0.heap.size w0 w':=by
  unfold slices_Contains_S_int_int
  refine gcon func96 rfl λr=>?_
  have hm:=Mem.start w0
  exact gS (gR (gA rfl (gE (gS (gR (gM rfl (gM rfl (gC hm rfl call154 (slices_Index_S_int_int_ok _ s_ v1 (hm.now h1) v_) λaA aB w hm=>gB rfl (gA rfl (gE (gRt (gr1 results96 rfl ⟨rfl,hm.below⟩))))))))))))
theorem impl_PredsOf_ok (w0 : World) (c_ : Code_) (v1 : Value) (h1 : GT.rep (hp w0) [v1] c_.blocks) (b_ : Int) :
    ConM Tryz.prog 60 [(.agg #[nV c_.params,nV c_.regs,v1]),nV b_] w0 (impl_PredsOf c_ b_) λr v w'=>∃ (x1:Value),v=x1∧Mem w0 (hp w0) w' [ow [x1] r]:=by
  unfold impl_PredsOf
  refine gcon func60 rfl λr=>?_
  have hm:=Mem.start w0
  refine gS (gR (gBx hm rfl λab w hm=>gA rfl (gE (gS (gR (gA rfl (gE (gS (gS (gR (gM rfl (gF fo_44_2 rfl (gL hm 0 isAgg42 rfl ?_)))))))))))))
  obtain ⟨aI,aE,rfl,ac⟩:=ro_slice h1
  refine gY (yV st_42 rfl) (gY (yS (by omega) (by omega) rfl) (gC hm rfl call25 (impl_within_ok _ b_ 0 (((c_.blocks.length:Int)) - 1)) λae af w hm=>gN rfl (gE (gsn 14 rfl (λaL=>?_) λaL=>?_))))
  ·refine gct rfl (gS (gR (gA rfl (gE (gRt ?_)))))
   replace hm:=hm.nilow (α:=Int)
   exact gr1 results60 rfl ⟨.slice none 0 0,rfl,hm.pk [0] rfl rfl⟩
  refine gcf rfl (gSk (gS (gS (gR (gF fo_44_2 rfl (gL hm 0 isAgg42 rfl (gY (yV st_42 rfl) (gM rfl (gE (gBk ?_))))))))))
  replace hm:=hm.nilow (α:=Int)
  refine gNg (λaA aJ a w=>∃ (aB:Value),St 33 [(1,(nV b_)),(5,aB),(16,(.slice aI c_.blocks.length aE)),(17,(nV ((c_.blocks.length:Int)))),(18,(nV aA))] w0 (hp w0) [ow [aB] aJ] a w) (λa hf=>⟨.slice none 0 0,hf.sb rfl,hm.pk [0] rfl rfl⟩) ?_ ?_
  ·repeat clear hm
   rintro _ _ aA aJ a w ⟨aB,hf,hm⟩ ah ai aj _
   refine gv hf (gS (gR (gB rfl (gE (gS (go _ 19 rfl (decide_eq_true (by omega)) (gct rfl (gSk (gS (gJg (λaF a w=>∃ (aC:Value),St 33 [(1,(nV b_)),(5,aC),(16,(.slice aI c_.blocks.length aE)),(17,(nV ((c_.blocks.length:Int)))),(18,(nV aA))] w0 (hp w0) [ow [aC] aF] a w) (λaF=>?_) ?_))))))))))
   ·refine gBk (gS (gR (gM rfl (gg fun aM aN aG => ?_))))
    obtain ⟨aO,aP,ak,he⟩:=idx_form' h1 aG
    obtain ⟨rfl,_,rfl⟩:=sl3 he
    obtain ⟨al,am,aQ,aR,aS,aT,aK⟩:=rk_Block_ h1 aG
    refine gI st_42 aN (idx_lt aG) rfl (gY (yn (aR.mono hm.lez) isAgg49 sizeOf49 rfl) (gAl hm zeroValue49 rfl λan w hm=>gA rfl (gSN hm 0 sizeOf49 (one_cons (rep_one aS) (one_cons (rep_one aT) (one_cons rfl (one_cons rfl (one_cons (rep_one aK) one_nil))))) rfl λw hm=>gE (gS (gR (gF fo_49_4 rfl (gL hm 0 isAgg47 rfl (gM rfl (gC hm rfl call96 (slices_Contains_S_int_int_ok _ aM.next_ aQ (hm.now aK) b_) λao ap w hm=>gE (gJg (λaH a w=>∃ (aD:Value),St 33 [(1,(nV b_)),(5,aD),(16,(sV aO aP c_.blocks.length aE)),(17,(nV ((c_.blocks.length:Int)))),(18,(nV aA))] w0 (hp w0) [ow [aD] aH] a w) (λaH=>?_) ?_))))))))))
    ·refine gs 26 rfl (fun aV => ?_) fun aV => ?_
     ·refine gct rfl (gR (gM rfl (gM rfl (gf rfl (fun a hf => e_build (vs := #[(0, (nV aA))]) (cs := [nV aA]) et_47 hf hm rfl rfl (by kernel_rfl) rfl rfl) ?_))))
      rintro _ w ⟨aq,rfl,hm⟩
      replace hm:=hm.lit (xs:=([aA]:List Int)) 0 rfl rfl rfl rfl
      refine gb λar aW=>?_
      obtain ⟨aX,aY⟩:=appM_some.1 aW
      refine gf rfl (λa hf=>e_append 2 et_47 hf hm rfl (hm.ow_rep 0 rfl) rfl rfl rfl aX) ?_
      rintro aZ w hm
      rw [aY] at hm
      exact gA rfl (gE (gZ λa hf=>⟨aZ,hf.sb rfl,hm.pk [2] rfl rfl⟩))
     exact gcf rfl (gSk (gZ λa hf=>⟨aB,hf.sb rfl,hm.pk [1] rfl rfl⟩))
    repeat clear hm
    rintro aH a w ⟨aD,hf,hm⟩
    exact gv hf (gZ λa hf=>⟨aD,hf.sb rfl,hm.pk [0] rfl rfl⟩)
   repeat clear hm
   rintro aF a w ⟨aC,hf,hm⟩
   exact gv hf (gR (gP (by omega) (by omega) rfl (gM rfl (gE (gZe λa hf=>⟨aC,hf.sb rfl,hm.pk [0] rfl rfl⟩)))))
  repeat clear hm
  rintro au av a w ⟨aa,hf,hm⟩ aw ax
  exact gv hf (gS (gR (gB rfl (gE (gS (go _ 19 rfl (decide_eq_false (by omega)) (gcf rfl (gXt (gHh (gS (gR (gM rfl (gA rfl (gE (gRt (gr1 results60 rfl ⟨aa,rfl,hm.pk [0] rfl rfl⟩))))))))))))))))
theorem impl_codeOk_4_ok (w0 : World) (r_ : Int) (c0_0_ : Code_) (v1 : Value) (h1 : GT.rep (hp w0) [v1] c0_0_.blocks) (aA : Nat) (aB : w0.heap[aA]? = some (.cells ([nV c0_0_.params, nV c0_0_.regs, v1] : List Value).toArray 44 (0, 0))) (bf0 : Nat) (hbf0 : w0.heap[bf0]? = some (.cells ([(.func (.func 104) #[] #[(pV aA)])] : List Value).toArray 124 (0, 0))) :
    ConM Tryz.prog 111 [nV r_,(pV bf0)] w0 (impl_codeOk_4 r_ c0_0_) λr v w'=>v=(.bool (r))∧Below w0.heap.size w0 w':=by
  unfold impl_codeOk_4
  refine gcon func111 rfl λr=>?_
  have hm:=Mem.start w0
  refine gS (gR (gA rfl (gE (gS (gR (gY (yl isAgg124 (hm.old_cell hbf0 rfl) rfl) (gM rfl (gb λaD aC=>gf rfl (λa hf=>e_callv hf rfl rfl rfl ⟨104,[(pV aA)],rfl,call104,impl_codeOk_1_ok _ r_ c0_0_ v1 (rep_later (hm.now h1) (Below.refl _ _)) aA (hm.old_later aB (Below.refl _ _)) _ aC⟩) ?_))))))))
  rintro aE w ⟨rfl,hB⟩
  replace hm:=hm.below' hB;clear hB
  exact gN rfl (gA rfl (gE (gRt (gr1 results111 rfl ⟨rfl,hm.below⟩))))
theorem impl_codeOk_ok (w0 : World) (u : Unit_) (v1 : Value) (h1 : GT.rep (hp w0) [v1] u.codes) (k_ : Int) :
    ConM Tryz.prog 66 [(.agg #[v1]),nV k_] w0 (impl_codeOk u k_) λr v w'=>v=(.bool (r))∧Below w0.heap.size w0 w':=by
  unfold impl_codeOk
  refine gcon func66 rfl λr=>?_
  have hm:=Mem.start w0
  refine gS (gR (gBx hm rfl λaD w hm=>gBx hm rfl λaE w hm=>gA rfl (gE (gS (gR (gF fo_28_0 rfl (gL hm 1 isAgg26 rfl (gL hm 0 isAgg3 rfl (gg λaA ap aY=>?_)))))))))
  obtain ⟨aL,aM,aN,he⟩:=idx_form' h1 aY
  subst he
  obtain ⟨aq,ar,aK⟩:=rk_Code_ h1 aY
  refine gI st_26 ap (idx_lt aY) rfl (gY (yn (ar.mono hm.lez) isAgg44 sizeOf44 rfl) (gAl hm zeroValue44 rfl λaB w hm=>gSN hm 0 sizeOf44 (one_cons rfl (one_cons rfl (one_cons (rep_one aK) one_nil))) rfl λw hm=>gE (gS (gS (gJ hm (λaP=>[(2,(pV aD)),(3,(pV aE)),(5,(pV aB)),(36,(.bool (aP)))]) (λaP=>[blk aD [sV aL aM u.codes.length aN] 28,blk aE [nV k_] 3,blk aB [nV aA.params,nV aA.regs,aq] 44]) (λaP=>?_) ?_)))))
  ·refine gR (gF fo_44_1 rfl (gL hm 0 isAgg3 rfl (gC hm rfl call25 (impl_within_ok _ aA.regs 0 300) fun b9 ba w hm => gN rfl (gM rfl (gsn 21 rfl (fun au => ?_) fun au => ?_)))))
   ·exact gO rfl (gO rfl (gO rfl (gO rfl (gO rfl (gO rfl (gO rfl (gKt rfl (gM rfl (gO rfl (gO rfl (gO rfl (gO rfl (gO rfl (gKt rfl (gE (gz hm [2,1,0] rfl))))))))))))))))
   refine gF fo_44_0 rfl (gL hm 0 isAgg3 rfl (gF fo_44_1 rfl (gL hm 0 isAgg3 rfl (gY (yG rfl (y_min rfl rfl rfl)) ?_))))
   have bc:minI 3 aA.regs=min 3 aA.regs:=minI_eq _ _
   refine gC hm rfl call25 (impl_within_ok _ aA.params 0 (minI 3 aA.regs)) λbd be w hm=>gN rfl (gKf rfl (gM rfl (gsn 30 rfl (λav=>?_) λav=>?_)))
   ·exact gO rfl (gO rfl (gO rfl (gO rfl (gO rfl (gKt rfl (gE (gz hm [2,1,0] rfl)))))))
   refine gF fo_44_2 rfl (gL hm 0 isAgg42 rfl ?_)
   obtain ⟨bf,bg,rfl,bh⟩:=ro_slice aK
   exact gY (yV st_42 rfl) (gC hm rfl call25 (impl_within_ok _ (aA.blocks.length:Int) 1 160) λbi bj w hm=>gN rfl (gKf rfl (gE (gz hm [2,1,0] rfl))))
  repeat clear hm
  intro aP w hm
  refine gs 36 rfl (λaw=>?_) λaw=>?_
  ·exact gct rfl (gS (gR (gA rfl (gE (gRt (gr1 results66 rfl ⟨rfl,hm.below⟩))))))
  refine gcf rfl (gSk (gS (gR (gY (yU rfl) (gAl hm zeroValue124 rfl λaG w hm=>gS1 hm 0 sizeOf124 rfl rfl λw hm=>gE (gS (gS (gR (gF fo_44_2 rfl (gL hm 3 isAgg42 rfl ?_))))))))))
  obtain ⟨aj,aF,rfl,bk⟩:=ro_slice aK
  refine gY (yV st_42 rfl) (gM rfl (gE (gBk (gNf hm (λaJ ak=>[(2,(pV aD)),(3,(pV aE)),(5,(pV aB)),(6,(pV aG)),(39,(.slice aj aA.blocks.length aF)),(40,(nV ((aA.blocks.length:Int)))),(41,(nV aJ))]) (λaJ ak=>[blk aD [sV aL aM u.codes.length aN] 28,blk aE [nV k_] 3,blk aB [nV aA.params,nV aA.regs,.slice aj aA.blocks.length aF] 44,blk aG [(.func (.func 104) #[] #[(pV aB)])] 124]) [1,2,3,0] rfl ?_ ?_))))
  ·repeat clear hm
   intro bm aZ aJ ak w hm bp bq br aa
   refine gS (gR (gB rfl (gE (gS (go _ 42 rfl (decide_eq_true (by omega)) (gct rfl (gSk (gS (gBk (gS (gR (gM rfl (gg λaC ax ab=>?_)))))))))))))
   obtain ⟨aH,aI,bs,he⟩:=idx_form' aK ab
   obtain ⟨rfl,_,rfl⟩:=sl3 he
   obtain ⟨ac,aQ,aR,ay,aS,al,ae⟩:=rk_Block_ aK ab
   refine gI st_42 ax (idx_lt ab) rfl (gY (yn (ay.mono hm.lez) isAgg49 sizeOf49 rfl) (gAl hm zeroValue49 rfl λaO w hm=>gA rfl (gSN hm 0 sizeOf49 (one_cons (rep_one aS) (one_cons (rep_one al) (one_cons rfl (one_cons rfl (one_cons (rep_one ae) one_nil))))) rfl λw hm=>gE (gS (gS (gJ hm (λaT=>[(2,(pV aD)),(3,(pV aE)),(5,(pV aB)),(6,(pV aG)),(7,(nV aJ)),(8,(pV aO)),(39,(sV aH aI aA.blocks.length aF)),(40,(nV ((aA.blocks.length:Int)))),(41,(nV aJ)),(75,(.bool (aT)))]) (λaT=>[blk aD [sV aL aM u.codes.length aN] 28,blk aE [nV k_] 3,blk aB [nV aA.params,nV aA.regs,sV aH aI aA.blocks.length aF] 44,blk aG [(.func (.func 104) #[] #[(pV aB)])] 124,blk aO [ac,aQ,nV aC.jump,nV aC.on,aR] 49]) (λaT=>?_) ?_))))))
   ·refine gW (.p 0 (.p 3 (.q 1 (.p 2 (.e 4 (.e 5 (.p 6 (.p 7 (.p 8 (.e 9 (.e 10 (.p 11 (.p 13 (.q 12 (.e 14 (.e 15 (.p 16 (.p 17 (.p 18 (.p 19 (.p 20 (.e 21 (.e 22 (.p 23 (.p 24 (.p 25 (.e 26 (.p 27 (.p 28 (.p 29 .fin))) .nil)))) .nil) .nil)))))) .nil) .nil)))) .nil) .nil)))) .nil) .nil))))) [4, 5, 14] [0, 2, 3, 6, 7, 8, 11, 13, 16, 17, 18, 19, 20, 23, 24, 25, 27, 28, 29] hm [0, 1, 2, 3, 4] [blk aO [ac, aQ, nV aC.jump, nV aC.on, aR] 49, blk aD [sV aL aM u.codes.length aN] 28, blk aE [nV k_] 3, blk aB [nV aA.params, nV aA.regs, sV aH aI aA.blocks.length aF] 44, blk aG [(.func (.func 104) #[] #[(pV aB)])] 124] rfl mxo (by kernel_rfl) (fun _ _ _ h => h.2) fun w hm hS => tP rfl (fun w => yF fo_49_4 rfl) (tP rfl (fun w => yF fo_49_2 rfl) (tQ rfl hS (fun w hm => yL hm 0 isAgg47 rfl) ?_))
    obtain ⟨bt,bu,rfl,bv⟩:=ro_slice ae
    refine tP rfl (λw=>yV st_47 rfl) (tO (tY rfl (yL hm 0 isAgg3 rfl) (tAs hS (tO (gb λbx az=>tf rfl rfl (λa hf=>e_call hf rfl call105 rfl (impl_nextCount_ok _ aC.jump _ az)) ?_)))))
    rintro bz w ⟨rfl,hB⟩
    replace hm:=hm.below' hB;clear hB
    refine tAk hm [0,1,2,3,4] rfl λhS=>tP rfl (λw=>yB rfl) (tP rfl (λw=>yM rfl) (gsd 53 rfl (λbA=>?_) λbA=>?_))
    ·refine tPo rfl rfl (tO (tEo rfl rfl (tAn rfl (tO (tEo rfl rfl (tAn rfl (tPo rfl rfl (tPo rfl rfl (tQo rfl hS rfl (tO (tEo rfl rfl (tAs hS (tO (tEo rfl rfl (tAn rfl (tPo rfl rfl (tPo rfl rfl (tP rfl (fun w => yKt rfl) (tP rfl (fun w => yM rfl) (tPo rfl rfl (tO (tEo rfl rfl (tAn rfl (tO (tEo rfl rfl (tAn rfl (tPo rfl rfl (tPo rfl rfl (tPo rfl rfl (tO ?_))))))))))))))))))))))))))))))
     exact tEo rfl rfl (tAn rfl (tPo rfl rfl (tPo rfl rfl (tP rfl (λw=>yKt rfl) (tE (gz hm [1,2,3,4,0] rfl))))))
    refine tP rfl (λw=>yF fo_49_2 rfl) (tO (tY rfl (yL hm 0 isAgg3 rfl) (tAn rfl (tO (gb λcA bB=>tf rfl rfl (λa hf=>e_call hf rfl call93 rfl (impl_usesOn_ok _ aC.jump _ bB)) ?_)))))
    rintro cB w ⟨rfl,hB⟩
    replace hm:=hm.below' hB;clear hB
    refine tAk hm [0,1,2,3,4] rfl λhS=>tP rfl (λw=>yM rfl) (gs 57 rfl (λbC=>?_) λbC=>?_)
    ·refine tP rfl (fun w => yF fo_49_3 rfl) (tQ rfl hS (fun w hm => yL hm 4 isAgg124 rfl) (tO (tY rfl (yL hm 0 isAgg3 rfl) (tAs hS (tO (gb fun cC bD => tf rfl rfl (fun a hf => e_callv hf rfl rfl rfl ⟨104, [(pV aB)], rfl, call104, impl_codeOk_1_ok _ aC.on aA (sV aH aI aA.blocks.length aF) (rep_later (hm.now aK) (Below.refl _ _)) aB (hm.blk_later 3 rfl (Below.refl _ _)) _ bD⟩) ?_))))))
     rintro cD w ⟨rfl,hB⟩
     replace hm:=hm.below' hB;clear hB
     refine tAn rfl (tP rfl (λw=>yN rfl) (tP rfl (λw=>yKt rfl) (tP rfl (λw=>yKf rfl) (tP rfl (λw=>yM rfl) (gsn 65 rfl (λbE=>?_) λbE=>?_)))))
     ·exact tPo rfl rfl (tO (tEo rfl rfl (tAn rfl (tO (tEo rfl rfl (tAn rfl (tPo rfl rfl (tPo rfl rfl (tPo rfl rfl (tO (tEo rfl rfl (tAn rfl (tPo rfl rfl (tPo rfl rfl (tP rfl (λw=>yKt rfl) (tE (gz hm [1,2,3,4,0] rfl)))))))))))))))))
     refine tP rfl (λw=>yF fo_49_2 rfl) (tO (tY rfl (yL hm 0 isAgg3 rfl) (tAn rfl (tO (gb λcE bF=>tf rfl rfl (λa hf=>e_call hf rfl call93 rfl (impl_usesOn_ok _ aC.jump _ bF)) ?_)))))
     rintro cF w ⟨rfl,hB⟩
     replace hm:=hm.below' hB;clear hB
     refine tAn rfl (tP rfl (λw=>yN rfl) (tP rfl (λw=>yM rfl) (gsn 70 rfl (λbG=>?_) λbG=>?_)))
     ·exact tP rfl (λw=>yF fo_49_3 rfl) (tO (tY rfl (yL hm 0 isAgg3 rfl) (tAn rfl (tP rfl (λw=>yB rfl) (tP rfl (λw=>yKt rfl) (tP rfl (λw=>yKf rfl) (tE (gz hm [1,2,3,4,0] rfl))))))))
     exact tPo rfl rfl (tO (tEo rfl rfl (tAn rfl (tPo rfl rfl (tP rfl (λw=>yKf rfl) (tP rfl (λw=>yKf rfl) (tE (gz hm [1,2,3,4,0] rfl))))))))
    refine tPo rfl rfl (tQo rfl hS rfl (tO (tEo rfl rfl (tAs hS (tO (tEo rfl rfl (tAn rfl (tPo rfl rfl (tP rfl (λw=>yKf rfl) (tP rfl (λw=>yKf rfl) (tP rfl (λw=>yM rfl) (tP rfl (λw=>yF fo_49_2 rfl) (tO (tY rfl (yL hm 0 isAgg3 rfl) (tAn rfl (tO (gb λcG bH=>tf rfl rfl (λa hf=>e_call hf rfl call93 rfl (impl_usesOn_ok _ aC.jump _ bH)) ?_)))))))))))))))))
    rintro cH w ⟨rfl,hB⟩
    replace hm:=hm.below' hB;clear hB
    refine tAn rfl (tP rfl (λw=>yN rfl) (tP rfl (λw=>yM rfl) (gsn 70 rfl (λbJ=>?_) λbJ=>?_)))
    ·exact tP rfl (λw=>yF fo_49_3 rfl) (tO (tY rfl (yL hm 0 isAgg3 rfl) (tAn rfl (tP rfl (λw=>yB rfl) (tP rfl (λw=>yKt rfl) (tP rfl (λw=>yKf rfl) (tE (gz hm [1,2,3,4,0] rfl))))))))
    exact tPo rfl rfl (tO (tEo rfl rfl (tAn rfl (tPo rfl rfl (tP rfl (λw=>yKf rfl) (tP rfl (λw=>yKf rfl) (tE (gz hm [1,2,3,4,0] rfl))))))))
   repeat clear hm
   intro aT w hm
   refine gs 75 rfl (λbK=>?_) λbK=>?_
   ·exact gct rfl (gS (gR (gA rfl (gE (gRt (gLr aa aZ (gr1 results66 rfl ⟨rfl,hm.below⟩)))))))
   refine gcf rfl (gSk (gS (gS (gJ hm (λaV=>[(2,(pV aD)),(3,(pV aE)),(5,(pV aB)),(6,(pV aG)),(7,(nV aJ)),(8,(pV aO)),(39,(sV aH aI aA.blocks.length aF)),(40,(nV ((aA.blocks.length:Int)))),(41,(nV aJ)),(85,(.bool (aV)))]) (λaV=>[blk aD [sV aL aM u.codes.length aN] 28,blk aE [nV k_] 3,blk aB [nV aA.params,nV aA.regs,sV aH aI aA.blocks.length aF] 44,blk aG [(.func (.func 104) #[] #[(pV aB)])] 124,blk aO [ac,aQ,nV aC.jump,nV aC.on,aR] 49]) (λaV=>?_) ?_))))
   ·refine gR (gF fo_49_4 rfl (gL hm 4 isAgg47 rfl (gY (yU rfl) (gC hm rfl call106 (slices_ContainsFunc_S_int_int_ok _ aC.next_ aR (hm.now ae) (fun y0 => impl_codeOk_2 y0 aA) (.func (.func 107) #[] #[(pV aB)]) (fun w y0 r hB hq => ⟨107, [(pV aB)], rfl, call107, impl_codeOk_2_ok w y0 aA (sV aH aI aA.blocks.length aF) (rep_later (hm.now aK) hB) aB (hm.blk_later 2 rfl hB) r hq⟩)) fun cI cJ w hm => gM rfl (gs 80 rfl (fun bL => ?_) fun bL => ?_)))))
    ·exact gO rfl (gO rfl (gO rfl (gO rfl (gKt rfl (gE (gz hm [0,1,2,3,4] rfl))))))
    exact gF fo_49_1 rfl (gL hm 4 isAgg46 rfl (gY (yU rfl) (gC hm rfl call108 (slices_ContainsFunc_S_impl_Ins_impl_Ins_ok _ aC.ins aQ (hm.now al) (λy0=>impl_codeOk_3 y0 u k_) (.func (.func 109) #[] #[(pV aD),(pV aE)]) (λw y0 bM bN r hB hq=>⟨109,[(pV aD),(pV aE)],rfl,call109,impl_codeOk_3_ok w y0 bM bN u (sV aL aM u.codes.length aN) (rep_later (hm.now h1) hB) aD (hm.blk_later 0 rfl hB) k_ aE (hm.blk_later 1 rfl hB) r hq⟩)) λcK cL w hm=>gKf rfl (gE (gz hm [0,1,2,3,4] rfl)))))
   repeat clear hm
   intro aV w hm
   refine gs 85 rfl (λbO=>?_) λbO=>?_
   ·exact gct rfl (gS (gR (gA rfl (gE (gRt (gLr aa aZ (gr1 results66 rfl ⟨rfl,hm.below⟩)))))))
   refine gcf rfl (gSk (gS (gR (gY (yn (hm.blk_at 2 rfl) isAgg44 sizeOf44 rfl) (gM rfl (gCg rfl call60 (impl_PredsOf_ok _ aA (sV aH aI aA.blocks.length aF) (hm.now aK) aJ) ?_))))))
   rintro am cM cN w ⟨_,rfl,hB⟩
   replace hm:=hm.give hB;clear hB
   obtain ⟨cO,cP,rfl,cQ⟩:=ro_slice (hm.ow_rep 0 rfl)
   refine gY (yV st_47 rfl) (gA rfl (gE (gS (gR (gF fo_49_0 rfl (gL hm 5 isAgg45 rfl ?_))))))
   obtain ⟨bP,an,rfl,cR⟩:=ro_slice aS
   refine gY (yV st_45 rfl) (gM rfl (gE (gBk (gNf hm (λaW ao=>[(2,(pV aD)),(3,(pV aE)),(5,(pV aB)),(6,(pV aG)),(7,(nV aJ)),(9,(nV ((am.length:Int)))),(39,(sV aH aI aA.blocks.length aF)),(40,(nV ((aA.blocks.length:Int)))),(41,(nV aJ)),(91,(.slice bP aC.phis.length an)),(92,(nV ((aC.phis.length:Int)))),(93,(nV aW))]) (λaW ao=>[blk aD [sV aL aM u.codes.length aN] 28,blk aE [nV k_] 3,blk aB [nV aA.params,nV aA.regs,sV aH aI aA.blocks.length aF] 44,blk aG [(.func (.func 104) #[] #[(pV aB)])] 124]) [1,2,3,4] rfl ?_ ?_))))
   ·repeat clear hm
    intro cS bQ aW ao w hm cT cU cV bR
    refine gS (gR (gB rfl (gE (gS (go _ 94 rfl (decide_eq_true (by omega)) (gct rfl (gSk (gS (gBk (gS (gR (gg λaf bS ah=>?_))))))))))))
    obtain ⟨bT,bU,cW,he⟩:=idx_form' aS ah
    obtain ⟨rfl,_,rfl⟩:=sl3 he
    obtain ⟨cX,bV,ai⟩:=rk_Phi_ aS ah
    refine gI st_45 bS (idx_lt ah) rfl (gY (yn (bV.mono hm.lez) isAgg105 sizeOf105 rfl) (gAl hm zeroValue105 rfl λcY w hm=>gSN hm 0 sizeOf105 (one_cons rfl (one_cons (rep_one ai) one_nil)) rfl λw hm=>gE (gS (gJ hm (λaX=>[(2,(pV aD)),(3,(pV aE)),(5,(pV aB)),(6,(pV aG)),(7,(nV aJ)),(9,(nV ((am.length:Int)))),(39,(sV aH aI aA.blocks.length aF)),(40,(nV ((aA.blocks.length:Int)))),(41,(nV aJ)),(91,(sV bT bU aC.phis.length an)),(92,(nV ((aC.phis.length:Int)))),(93,(nV aW)),(118,(.bool (aX)))]) (λaX=>[blk aD [sV aL aM u.codes.length aN] 28,blk aE [nV k_] 3,blk aB [nV aA.params,nV aA.regs,sV aH aI aA.blocks.length aF] 44,blk aG [(.func (.func 104) #[] #[(pV aB)])] 124]) (λaX=>?_) ?_))))
    ·refine gR (gM rfl (gB rfl (gM rfl (gsd 99 rfl (fun bW => ?_) fun bW => ?_))))
     ·exact gO rfl (gO rfl (gO rfl (gO rfl (gO rfl (gKt rfl (gM rfl (gO rfl (gO rfl (gO rfl (gO rfl (gO rfl (gKt rfl (gM rfl (gO rfl (gO rfl (gO rfl (gO rfl (gKt rfl (gE (gz hm [1,2,3,4] rfl))))))))))))))))))))
     refine gL hm 4 isAgg124 rfl (gF fo_105_0 rfl (gL hm 0 isAgg3 rfl (gb λcZ bX=>gf rfl (λa hf=>e_callv hf rfl rfl rfl ⟨104,[(pV aB)],rfl,call104,impl_codeOk_1_ok _ af.to aA (sV aH aI aA.blocks.length aF) (rep_later (hm.now aK) (Below.refl _ _)) aB (hm.blk_later 3 rfl (Below.refl _ _)) _ bX⟩) ?_)))
     rintro c4 w ⟨rfl,hB⟩
     replace hm:=hm.below' hB;clear hB
     refine gN rfl (gKf rfl (gM rfl (gsn 106 rfl (λbY=>?_) λbY=>?_)))
     ·exact gO rfl (gO rfl (gO rfl (gO rfl (gO rfl (gKt rfl (gM rfl (gO rfl (gO rfl (gO rfl (gO rfl (gKt rfl (gE (gz hm [1,2,3,4] rfl)))))))))))))
     refine gF fo_105_1 rfl (gL hm 0 isAgg47 rfl ?_)
     obtain ⟨bZ,b6,rfl,c5⟩:=ro_slice ai
     refine gY (yV st_47 rfl) (gM rfl (gB rfl (gKf rfl (gM rfl (gsd 113 rfl (λb7=>?_) λb7=>?_)))))
     ·exact gO rfl (gO rfl (gO rfl (gO rfl (gKt rfl (gE (gz hm [1,2,3,4] rfl))))))
     exact gF fo_105_1 rfl (gL hm 0 isAgg47 rfl (gY (yU rfl) (gC hm rfl call106 (slices_ContainsFunc_S_int_int_ok _ af.args (.slice bZ af.args.length b6) (hm.now ai) (λy0=>impl_codeOk_4 y0 aA) (.func (.func 111) #[] #[(pV aG)]) (λw y0 r hB hq=>⟨111,[(pV aG)],rfl,call111,impl_codeOk_4_ok w y0 aA (sV aH aI aA.blocks.length aF) (rep_later (hm.now aK) hB) aB (hm.blk_later 3 rfl hB) aG (hm.blk_later 4 rfl hB) r hq⟩)) λc6 c7 w hm=>gKf rfl (gE (gz hm [1,2,3,4] rfl)))))
    repeat clear hm
    intro aX w hm
    refine gs 118 rfl (λb8=>?_) λb8=>?_
    ·exact gct rfl (gS (gR (gA rfl (gE (gRt (gLr bR bQ (gLr aa aZ (gr1 results66 rfl ⟨rfl,hm.below⟩))))))))
    exact gcf rfl (gSk (gR (gP (by omega) (by omega) rfl (gM rfl (gE (gze hm [0,1,2,3] rfl))))))
   repeat clear hm
   intro c8 c9 w hm ca cb
   exact gS (gR (gB rfl (gE (gS (go _ 94 rfl (decide_eq_false (by omega)) (gcf rfl (gXt (gHh (gR (gP (by omega) (by omega) rfl (gM rfl (gE (gze hm [0,1,2,3] rfl)))))))))))))
  repeat clear hm
  intro cd ce w hm cf cg
  exact gS (gR (gB rfl (gE (gS (go _ 42 rfl (decide_eq_false (by omega)) (gcf rfl (gXt (gHh (gS (gR (gA rfl (gE (gRt (gr1 results66 rfl ⟨rfl,hm.below⟩))))))))))))))
theorem impl_codeCount_ok (w0 : World) (c_ : Code_) (v1 : Value) (h1 : GT.rep (hp w0) [v1] c_.blocks) :
    ConM Tryz.prog 38 [(.agg #[nV c_.params,nV c_.regs,v1])] w0 (impl_codeCount c_) λr v w'=>v=(nV r)∧Below w0.heap.size w0 w':=by
  unfold impl_codeCount
  refine gcon func38 rfl λr=>?_
  have hm:=Mem.start w0
  refine gS (gR (gBx hm rfl λaK w hm=>gA rfl (gE (gS (gR (gA rfl (gE (gS (gS (gR (gF fo_44_2 rfl (gL hm 0 isAgg42 rfl ?_))))))))))))
  obtain ⟨aF,aG,rfl,aL⟩:=ro_slice h1
  refine gY (yV st_42 rfl) (gM rfl (gE (gBk (gNf hm (λaA aB=>[(3,(nV aB)),(7,(.slice aF c_.blocks.length aG)),(8,(nV ((c_.blocks.length:Int)))),(9,(nV aA))]) (λaA aB=>[]) [] rfl ?_ ?_))))
  ·repeat clear hm
   intro _ _ aA aB w hm aM aN aO _
   refine gS (gR (gB rfl (gE (gS (go _ 10 rfl (decide_eq_true (by omega)) (gct rfl (gSk (gS (gBk (gS (gR (gg λaP aH aC=>?_))))))))))))
   obtain ⟨aQ,aR,aS,he⟩:=idx_form' h1 aC
   obtain ⟨rfl,_,rfl⟩:=sl3 he
   obtain ⟨aT,aV,aW,aI,aD,aE,aJ⟩:=rk_Block_ h1 aC
   refine gI st_42 aH (idx_lt aC) rfl (gY (yn (aI.mono hm.lez) isAgg49 sizeOf49 rfl) (gAl hm zeroValue49 rfl λaX w hm=>gSN hm 0 sizeOf49 (one_cons (rep_one aD) (one_cons (rep_one aE) (one_cons rfl (one_cons rfl (one_cons (rep_one aJ) one_nil))))) rfl λw hm=>gE (gR (gM rfl (gF fo_49_0 rfl (gL hm 0 isAgg45 rfl ?_))))))
   obtain ⟨aY,aZ,rfl,aa⟩:=ro_slice aD
   refine gY (yV st_45 rfl) (gF fo_49_1 rfl (gL hm 0 isAgg46 rfl ?_))
   obtain ⟨ab,ac,rfl,ae⟩:=ro_slice aE
   exact gY (yV st_46 rfl) (gP (by omega) (by omega) rfl (gB rfl (gA rfl (gE (gR (gP (by omega) (by omega) rfl (gM rfl (gE (gze hm [] rfl)))))))))
  repeat clear hm
  intro af ah w hm ai aj
  exact gS (gR (gB rfl (gE (gS (go _ 10 rfl (decide_eq_false (by omega)) (gcf rfl (gXt (gHh (gS (gR (gM rfl (gA rfl (gE (gRt (gr1 results38 rfl ⟨rfl,hm.below⟩)))))))))))))))
theorem impl_UnitValid_ok (w0 : World) (u : Unit_) (v1 : Value) (h1 : GT.rep (hp w0) [v1] u.codes) :
    ConM Tryz.prog 34 [(.agg #[v1])] w0 (impl_UnitValid u) λr v w'=>v=(.bool (r))∧Below w0.heap.size w0 w':=by
  unfold impl_UnitValid
  refine gcon func34 rfl λr=>?_
  have hm:=Mem.start w0
  refine gS (gR (gBx hm rfl λaE w hm=>gA rfl (gE (gS (gS (gR (gF fo_28_0 rfl (gL hm 0 isAgg26 rfl ?_))))))))
  obtain ⟨aF,aB,rfl,aR⟩:=ro_slice h1
  refine gY (yV st_26 rfl) (gC hm rfl call25 (impl_within_ok _ (u.codes.length:Int) 1 4) λaS aT w hm=>gN rfl (gE (gsn 10 rfl (λaH=>?_) λaH=>?_)))
  ·exact gct rfl (gS (gR (gA rfl (gE (gRt (gr1 results34 rfl ⟨rfl,hm.below⟩))))))
  refine gcf rfl (gSk (gS (gR (gA rfl (gE (gS (gS (gR (gF fo_28_0 rfl (gL hm 0 isAgg26 rfl (gY (yV st_26 rfl) (gM rfl (gE (gBk (gNf hm (λaA aC=>[(1,(pV aE)),(3,(nV aC)),(12,(.slice aF u.codes.length aB)),(13,(nV ((u.codes.length:Int)))),(14,(nV aA))]) (λaA aC=>[blk aE [.slice aF u.codes.length aB] 28]) [0] rfl ?_ ?_)))))))))))))))
  ·repeat clear hm
   intro aV aI aA aC w hm aW aX aY aJ
   refine gS (gR (gB rfl (gE (gS (go _ 15 rfl (decide_eq_true (by omega)) (gct rfl (gSk (gS (gBk (gS (gR (gM rfl (gg λaK aL aD=>?_)))))))))))))
   obtain ⟨aM,aN,aZ,he⟩:=idx_form' h1 aD
   obtain ⟨rfl,_,rfl⟩:=sl3 he
   obtain ⟨aO,aP,aG⟩:=rk_Code_ h1 aD
   refine gI st_26 aL (idx_lt aD) rfl (gY (yn (aP.mono hm.lez) isAgg44 sizeOf44 rfl) (gAl hm zeroValue44 rfl λaa w hm=>gA rfl (gSN hm 0 sizeOf44 (one_cons rfl (one_cons rfl (one_cons (rep_one aG) one_nil))) rfl λw hm=>gE (gS (gS (gR (gY (yn (hm.blk_at 1 rfl) isAgg28 sizeOf28 rfl) (gM rfl (gC hm rfl call66 (impl_codeOk_ok _ u (sV aM aN u.codes.length aB) (hm.now h1) aA) λab ac w hm=>gN rfl (gE (gsn 22 rfl (λaQ=>?_) λaQ=>?_)))))))))))
   ·exact gct rfl (gS (gR (gA rfl (gE (gRt (gLr aJ aI (gr1 results34 rfl ⟨rfl,hm.below⟩)))))))
   exact gcf rfl (gSk (gR (gM rfl (gY (yn (hm.blk_at 0 rfl) isAgg44 sizeOf44 rfl) (gC hm rfl call38 (impl_codeCount_ok _ aK aO (hm.now aG)) λae af w hm=>gB rfl (gA rfl (gE (gR (gP (by omega) (by omega) rfl (gM rfl (gE (gze hm [1] rfl))))))))))))
  repeat clear hm
  intro ah ai w hm aj ak
  exact gS (gR (gB rfl (gE (gS (go _ 15 rfl (decide_eq_false (by omega)) (gcf rfl (gXt (gHh (gS (gR (gM rfl (gB rfl (gA rfl (gE (gRt (gr1 results34 rfl ⟨rfl,hm.below⟩))))))))))))))))
end Go.Proofs.YthikiocjbepfnaaGreat
