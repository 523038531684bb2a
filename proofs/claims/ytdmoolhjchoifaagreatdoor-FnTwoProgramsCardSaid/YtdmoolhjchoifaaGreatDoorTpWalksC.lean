/- A part of the proof of FnTwoProgramsCardSaid. -/
import Derived.Test.YtdmoolhjchoifaaGreatDoorTpWalksB
namespace Go.Proofs.YtdmoolhjchoifaaGreatDoor
open Go Go.Wk Go.RowKit
set_option maxRecDepth 4000
set_option maxHeartbeats 4000000
open Tryz
theorem oU  : (∀ (r_:ez) (r:(List fB) × ez),fc r_=some r→∀ (w0:World) (hz:fU) (bp0:Nat) (v1p:Value) (hm0:Mem w0 hz w0 [blk bp0 [v1p,(.bool (r_.bad))] 51,ow [v1p] r_.list]) (hG1:GT.rep hz [.slice (some ⟨1,0,none⟩) 1 1] [fj]) (hG2:GT.rep hz [.slice (some ⟨2,0,none⟩) 1 1] [fA]),Con Tryz.prog 53 [(pV bp0)] w0 (λv w'=>∃ (x1:Value) (x2:Value),v=x1∧Mem w0 hz w' [blk bp0 [x2,(.bool (r.2.bad))] 51,ow [x1] r.1,ow [x2] r.2.list])) ∧
    (∀ (r_:ez) (r:fB × ez),hU r_=some r→∀ (w0:World) (hz:fU) (bp0:Nat) (v1p:Value) (hm0:Mem w0 hz w0 [blk bp0 [v1p,(.bool (r_.bad))] 51,ow [v1p] r_.list]) (hG1:GT.rep hz [.slice (some ⟨1,0,none⟩) 1 1] [fj]) (hG2:GT.rep hz [.slice (some ⟨2,0,none⟩) 1 1] [fA]),Con Tryz.prog 88 [(pV bp0)] w0 (λv w'=>∃ (x1:Value) (x2:Value) (x3:Value) (x4:Value),v=(.agg #[nV r.1.op,(tV r.1.name),x1,x2,x3])∧Mem w0 hz w' [blk bp0 [x4,(.bool (r.2.bad))] 51,ow [x1] r.1.args,ow [x2] r.1.body,ow [x3] r.1.else_,ow [x4] r.2.list])):=by
  refine fc.mutual_partial_correctness  (motive_1:=λr_ r=>∀ (w0:World) (hz:fU) (bp0:Nat) (v1p:Value) (hm0:Mem w0 hz w0 [blk bp0 [v1p,(.bool (r_.bad))] 51,ow [v1p] r_.list]) (hG1:GT.rep hz [.slice (some ⟨1,0,none⟩) 1 1] [fj]) (hG2:GT.rep hz [.slice (some ⟨2,0,none⟩) 1 1] [fA]),Con Tryz.prog 53 [(pV bp0)] w0 (λv w'=>∃ (x1:Value) (x2:Value),v=x1∧Mem w0 hz w' [blk bp0 [x2,(.bool (r.2.bad))] 51,ow [x1] r.1,ow [x2] r.2.list])) (motive_2:=λr_ r=>∀ (w0:World) (hz:fU) (bp0:Nat) (v1p:Value) (hm0:Mem w0 hz w0 [blk bp0 [v1p,(.bool (r_.bad))] 51,ow [v1p] r_.list]) (hG1:GT.rep hz [.slice (some ⟨1,0,none⟩) 1 1] [fj]) (hG2:GT.rep hz [.slice (some ⟨2,0,none⟩) 1 1] [fA]),Con Tryz.prog 88 [(pV bp0)] w0 (λv w'=>∃ (x1:Value) (x2:Value) (x3:Value) (x4:Value),v=(.agg #[nV r.1.op,(tV r.1.name),x1,x2,x3])∧Mem w0 hz w' [blk bp0 [x4,(.bool (r.2.bad))] 51,ow [x1] r.1.args,ow [x2] r.1.body,ow [x3] r.1.else_,ow [x4] r.2.list])) ?_ ?_
  · intro rec_ ih_ r_ r hq w0 hz bp0 v1p hm0 hG1 hG2
    have pimpl_wordReader__stmt_rec:∀ (w0:World) (hz:fU) (r_:ez) (bp0:Nat) (v1p:Value) (hm0:Mem w0 hz w0 [blk bp0 [v1p,(.bool (r_.bad))] 51,ow [v1p] r_.list]) (hG1:GT.rep hz [.slice (some ⟨1,0,none⟩) 1 1] [fj]) (hG2:GT.rep hz [.slice (some ⟨2,0,none⟩) 1 1] [fA]) (r:fB × ez) (hq:rec_ r_=some r),Con Tryz.prog 88 [(pV bp0)] w0 (λv w'=>∃ (x1:Value) (x2:Value) (x3:Value) (x4:Value),v=(.agg #[nV r.1.op,(tV r.1.name),x1,x2,x3])∧Mem w0 hz w' [blk bp0 [x4,(.bool (r.2.bad))] 51,ow [x1] r.1.args,ow [x2] r.1.body,ow [x3] r.1.else_,ow [x4] r.2.list]):=λw0 hz r_ bp0 v1p hm0 hG1 hG2 r hq=>ih_ r_ r hq w0 hz bp0 v1p hm0 hG1 hG2
    refine kI (ρ:=(List fB) × ez) (R:=λr v w'=>∃ (x1:Value) (x2:Value),v=x1∧Mem w0 hz w' [blk bp0 [x2,(.bool (r.2.bad))] 51,ow [x1] r.1,ow [x2] r.2.list]) func53 rfl hq ?_
    have hm:=hm0
    refine gS (gR (gA rfl (gE (gS (gR (gA rfl (gE (gS (gR (gM rfl ?_))))))))))
    obtain ⟨ar,hle,hm1,hsub,au⟩:=hm.take2 (L1:=[_,_]) (L2:=[]) [0,1] [] (by decide) rfl rfl
    refine gCg rfl call50 (gm _ ar r_ bp0 v1p 3 (mkS [123]) hm1 ) ?_
    rintro aF bN bO w ⟨aN,rfl,hB⟩
    replace hm:=au _ _ hB;clear hB
    refine gE (gS ?_)
    obtain ⟨bP,bG,rfl,cQ⟩:=fE (hm.ow_rep 1 rfl)
    refine gJg (λaA a w=>∃ (aZ aK:Value),St 22 [(3,aZ)] w0 hz [ow [aZ] aA.1,blk bp0 [aK,(.bool (aA.2.2))] 51,ow [aK] aA.2.1] a w) (λaA=>?_) ?_
    ·refine gBk ?_
     replace hm:=hm.nilow (α:=fB)
     refine gMg (λaL a w=>∃ (aJ aO:Value),St 22 [(0,(pV bp0)),(3,aO)] w0 hz [blk bp0 [aJ,(.bool (aL.2.1))] 51,ow [aJ] aL.1,ow [aO] aL.2.2] a w) (λa hf=>⟨.slice bP aF.list.length bG,.slice none 0 0,hf.sb rfl,hm.pk [1,2,0] rfl rfl⟩) ?_
     repeat clear hm
     rintro bH bQ aL a w ⟨aJ,aO,hf,hm⟩ cR bR
     refine gv hf (gS (gS (gJg (λaI a w=>∃ (aP:Value),St 22 [(0,(pV bp0)),(3,aO),(15,(.bool (aI.2.2)))] w0 hz [blk bp0 [aP,(.bool (aI.2.1))] 51,ow [aP] aI.1,ow [aO] aL.2.2] a w) (λaI=>?_) ?_)))
     ·refine gR (gM rfl (gY (yG rfl (fI rfl rfl)) (gF mu rfl (gL hm 0 isAgg4 rfl (gN rfl (gM rfl (gsn 11 rfl (λav=>?_) λav=>?_)))))))
      ·refine gM rfl ?_
       obtain ⟨aw,hle,hm1,hsub,ax⟩:=hm.take2 (L1:=[_,_]) (L2:=[_]) [0,1] [2] (by decide) rfl rfl
       refine gCg rfl call52 (jA _ aw (⟨aL.1,aL.2.1⟩:ez) bp0 aJ 3 (mkS [125]) hm1 ) ?_
       rintro bJ bS bT w ⟨ay,rfl,hB⟩
       replace hm:=ax _ _ hB;clear hB
       exact gN rfl (gKt rfl (gE (gZ λa hf=>⟨ay,hf.sb rfl,hm.pk [0,1,2] rfl rfl⟩)))
      exact gO rfl (gO rfl (gO rfl (gKf rfl (gE (gZ λa hf=>⟨aJ,hf.sb rfl,hm.pk [0,1,2] rfl rfl⟩)))))
     repeat clear hm
     rintro aI a w ⟨aP,hf,hm⟩
     refine gv hf (gs 15 rfl (λaz=>?_) λaz=>?_)
     ·refine gct rfl (gSk (gBk (gR (gM rfl (gM rfl ?_)))))
      obtain ⟨bA,hle,hm1,hsub,bB⟩:=hm.take2 (L1:=[_,_]) (L2:=[_]) [0,1] [2] (by decide) rfl rfl
      refine gCg rfl call88 (pimpl_wordReader__stmt_rec _ bA (⟨aI.1,aI.2.1⟩:ez) bp0 aP hm1 (GT.mono hle hG1) (GT.mono hle hG2)) ?_
      rintro aQ bU aT w ⟨bK,a8,aM,aU,rfl,hB⟩
      replace hm:=bB _ _ hB;clear hB
      refine gf rfl (λa hf=>fL (vs:=#[(0,(.agg #[nV aQ.1.op,(tV aQ.1.name),bK,a8,aM]))]) (cs:=[nV aQ.1.op,(tV aQ.1.name),bK,a8,aM]) lg hf hm rfl rfl (by kernel_rfl) rfl rfl) ?_
      rintro _ w ⟨cS,rfl,hm⟩
      replace hm:=hm.els_nil (α:=fB)
      replace hm:=(o0 aQ.1 hm 3 4 5 rfl).pk (L':=[_,_,_,_,_,_]) [0,1,2,3,6,7] rfl rfl
      replace hm:=(hm.els_cons 0 3 (by decide) rfl rfl).pk (L':=[_,_,_,_,_]) [0,1,2,4,5] rfl rfl
      replace hm:=(hm.lit_els 1 0 (by decide) rfl rfl rfl rfl).pk (L':=[_,_,_,_]) [1,2,3,4] rfl rfl
      refine gb λcT bL=>?_
      obtain ⟨bC,bV⟩:=fV.1 bL
      replace hm:=(hm.both 3 0 (by decide) rfl rfl).pk (L':=[_,_,_]) [1,2,3] rfl rfl
      refine gf rfl (λa hf=>hZ (xs:=aL.2.2) (ys:=([aQ.1]:List fB)) 2 lg hf hm rfl rfl rfl rfl bC) ?_
      rintro aV w hm
      rw [bV] at hm
      exact gA rfl (gE (gZe λa hf=>⟨aU,aV,hf.sb rfl,hm.pk [0,1,2] rfl rfl⟩))
     exact gcf rfl (gXt (gHh (gLp bR bQ (gZ λa hf=>⟨aO,aP,hf.sb rfl,hm.pk [2,0,1] rfl rfl⟩))))
    repeat clear hm
    rintro aA a w ⟨aZ,aK,hf,hm⟩
    exact gv hf (gS (gR (gM rfl (gA rfl (gE (gRt (gr1 results53 rfl ⟨aZ,aK,rfl,hm.pk [1,0,2] rfl rfl⟩)))))))
  · intro rec_ ih_ r_ r hq w0 hz bp0 v1p hm0 hG1 hG2
    have pimpl_wordReader__block_rec:∀ (w0:World) (hz:fU) (r_:ez) (bp0:Nat) (v1p:Value) (hm0:Mem w0 hz w0 [blk bp0 [v1p,(.bool (r_.bad))] 51,ow [v1p] r_.list]) (hG1:GT.rep hz [.slice (some ⟨1,0,none⟩) 1 1] [fj]) (hG2:GT.rep hz [.slice (some ⟨2,0,none⟩) 1 1] [fA]) (r:(List fB) × ez) (hq:rec_ r_=some r),Con Tryz.prog 53 [(pV bp0)] w0 (λv w'=>∃ (x1:Value) (x2:Value),v=x1∧Mem w0 hz w' [blk bp0 [x2,(.bool (r.2.bad))] 51,ow [x1] r.1,ow [x2] r.2.list]):=λw0 hz r_ bp0 v1p hm0 hG1 hG2 r hq=>ih_ r_ r hq w0 hz bp0 v1p hm0 hG1 hG2
    refine kI (ρ:=fB × ez) (R:=λr v w'=>∃ (x1:Value) (x2:Value) (x3:Value) (x4:Value),v=(.agg #[nV r.1.op,(tV r.1.name),x1,x2,x3])∧Mem w0 hz w' [blk bp0 [x4,(.bool (r.2.bad))] 51,ow [x1] r.1.args,ow [x2] r.1.body,ow [x3] r.1.else_,ow [x4] r.2.list]) func88 rfl hq ?_
    have hm:=hm0
    refine gS (gR (gAl hm zeroValue71 rfl λaB w hm=>gE (gS (gR (gM rfl ?_)))))
    obtain ⟨ar,hle,hm1,hsub,au⟩:=hm.take2 (L1:=[_,_]) (L2:=[_]) [1,2] [0] (by decide) rfl rfl
    refine gCg rfl call86 (kF _ ar r_ bp0 v1p hm1 ) ?_
    rintro aF bN bO w ⟨aN,rfl,hB⟩
    replace hm:=au _ _ hB;clear hB
    refine gAl hm zeroValue36 rfl λbM w hm=>gSN hm 0 sizeOf36 (et rfl (et rfl fK)) rfl λw hm=>gE (gS (gR (gF jk rfl (gL hm 0 isAgg9 rfl (gY (yG rfl (fY (vs:=[(0,(nV 2)),(1,(tV aF.1.text))]) (cs:=#[nV 2,(tV aF.1.text),.slice none 0 0,.slice none 0 0,.slice none 0 0]) rfl rfl (by kernel_rfl))) (gAl hm zeroValue71 rfl λaC w hm=>gSN hm 0 sizeOf71 (et rfl (et rfl (et rfl (et rfl (et rfl fK))))) rfl λw hm=>gE (gS (gS (gR ?_)))))))))
    obtain ⟨aZ,bW,bX⟩:=pY hG1 rfl
    refine gY (yl isAgg139 ((iK.mono hm.lez (bW)).cell (j:=0) rfl) rfl) (gF jk rfl (gL hm 1 isAgg9 rfl (gY (yG rfl (az3 (key:=aF.1.text) (m:=(fj:p7 Int)) (z:=0) underlying9 underlying139 zeroValue3 (hm.now bX) rfl rfl rfl rfl)) (gA rfl (gE (sn (λaA a w=>∃ (aK:Value),St 82 [(0,(pV bp0)),(2,(pV aB)),(4,(pV aC))] w0 hz [blk bp0 [aK,(.bool (aA.2.1))] 51,ow [aK] aA.1,blk aB [nV 0,(tV (mkS [])),.slice none 0 0,.slice none 0 0,.slice none 0 0] 71,blk aC [nV aA.2.2.1,(tV aA.2.2.2),.slice none 0 0,.slice none 0 0,.slice none 0 0] 71] a w) (λbG bY=>?_) ?_))))))
    ·refine gBk (gS (gJ hm (λae=>[(0,(pV bp0)),(2,(pV aB)),(3,(pV bM)),(4,(pV aC)),(5,(nV (((p7.get fj aF.1.text).getD 0)))),(19,(.bool (ae)))]) (λae=>[blk bp0 [aN,(.bool (aF.2.bad))] 51,ow [aN] aF.2.list,blk aB [nV 0,(tV (mkS [])),.slice none 0 0,.slice none 0 0,.slice none 0 0] 71,blk bM [nV aF.1.kind,(tV aF.1.text)] 36,blk aC [nV 2,(tV aF.1.text),.slice none 0 0,.slice none 0 0,.slice none 0 0] 71]) (λae=>?_) ?_))
     ·refine gR (gF mP rfl (gL hm 1 isAgg3 rfl (gB rfl (gM rfl (gsd 23 rfl (λaz=>?_) λaz=>?_)))))
      ·exact gM rfl (gB rfl (gKt rfl (gA rfl (gE (gz hm [2,3,4,1,0] rfl)))))
      exact gO rfl (gO rfl (gKf rfl (gA rfl (gE (gz hm [2,3,4,1,0] rfl)))))
     repeat clear hm
     intro ae w hm
     refine sn (λaa a w=>∃ (af:Value),St 82 [(0,(pV bp0)),(2,(pV aB)),(4,(pV aC))] w0 hz [blk bp0 [af,(.bool (aa.2.1))] 51,ow [af] aa.1,blk aB [nV 0,(tV (mkS [])),.slice none 0 0,.slice none 0 0,.slice none 0 0] 71,blk aC [nV aa.2.2.1,(tV aa.2.2.2),.slice none 0 0,.slice none 0 0,.slice none 0 0] 71] a w) (λcU bZ=>?_) ?_
     ·refine gs 19 rfl (λbC=>?_) λbC=>?_
      ·refine gct rfl (gS (gR (gM rfl (gY (yG rfl (fY (vs := [(0, (nV (((p7.get fj aF.1.text).getD 0))))]) (cs := #[nV (((p7.get fj aF.1.text).getD 0)), (tV (mkS [])), .slice none 0 0, .slice none 0 0, .slice none 0 0]) rfl rfl (by kernel_rfl))) (gSN hm 4 sizeOf71 (et rfl (et rfl (et rfl (et rfl (et rfl fK))))) rfl fun w hm => gE (gS (gR (gM rfl (gB rfl (gE (gJg (fun aI a w => ∃ (aJ : Value), St 82 [(0, (pV bp0)), (2, (pV aB)), (4, (pV aC))] w0 hz [blk bp0 [aJ, (.bool (aI.2.1))] 51, ow [aJ] aI.1, blk aB [nV 0, (tV (mkS [])), .slice none 0 0, .slice none 0 0, .slice none 0 0] 71, blk aC [nV (((p7.get fj aF.1.text).getD 0)), (tV aI.2.2), .slice none 0 0, .slice none 0 0, .slice none 0 0] 71] a w) (fun aI => ?_) ?_)))))))))))
       ·refine gsd 30 rfl (λav=>?_) λav=>?_
        ·refine gct rfl (gS (gR (gM rfl ?_)))
         obtain ⟨aw,hle,hm1,hsub,ax⟩:=hm.take2 (L1:=[_,_]) (L2:=[_,_,_]) [0,1] [2,3,4] (by decide) rfl rfl
         refine gCg rfl call51 (ku _ aw aF.2 bp0 aN hm1 ) ?_
         rintro bJ bS bT w ⟨ay,rfl,hB⟩
         replace hm:=ax _ _ hB;clear hB
         refine gF lL rfl (gS1 hm 4 sizeOf9 rfl rfl λw hm=>gE (gR (gM rfl ?_)))
         obtain ⟨b8,hle,hm1,hsub,b9⟩:=hm.take2 (L1:=[_,_]) (L2:=[_,_,_]) [0,1] [2,3,4] (by decide) rfl rfl
         refine gCg rfl call50 (gm _ b8 bJ.2 bp0 ay 3 (mkS [61]) hm1 ) ?_
         rintro cV cW cX w ⟨ba,rfl,hB⟩
         replace hm:=b9 _ _ hB;clear hB
         exact gE (gZ λa hf=>⟨ba,hf.sb rfl,hm.pk [0,1,2,4] rfl rfl⟩)
        exact gcf rfl (gSk (gZ λa hf=>⟨aN,hf.sb rfl,hm.pk [0,1,2,4] rfl rfl⟩))
       repeat clear hm
       rintro aI a w ⟨aJ,hf,hm⟩
       exact gv hf (gZe λa hf=>⟨aJ,hf.sb rfl,hm.pk [0,1,2,3] rfl rfl⟩)
      refine gcf rfl (gS (gR (gF mP rfl (gL hm 3 isAgg3 rfl (gB rfl (gA rfl (gE (gsd 36 rfl (λbb=>?_) λbb=>?_))))))))
      ·refine gct rfl (gR (gM rfl ?_))
       obtain ⟨bA,hle,hm1,hsub,bB⟩:=hm.take2 (L1:=[_,_]) (L2:=[_,_,_]) [0,1] [2,3,4] (by decide) rfl rfl
       refine gCg rfl call50 (gm _ bA aF.2 bp0 aN 3 (mkS [61]) hm1 ) ?_
       rintro aQ bU aO w ⟨aP,rfl,hB⟩
       replace hm:=bB _ _ hB;clear hB
       exact gE (gZe λa hf=>⟨aP,hf.sb rfl,hm.pk [0,1,2,4] rfl rfl⟩)
      refine gcf rfl (gS (gR (gM rfl (gY (yG rfl (fI rfl rfl)) (gF mu rfl (gS1 hm 0 sizeOf4 rfl rfl λw hm=>gE (gS (gR (gY (yn (hm.blk_at 4 rfl) isAgg71 sizeOf71 rfl) (gSN hm 2 sizeOf71 (et rfl (et rfl (et rfl (et rfl (et rfl fK))))) rfl λw hm=>gE (gRt (gEr bZ (gEr bY ?_)))))))))))))
      replace hm:=hm.nilow (α:=ey)
      replace hm:=hm.nilow (α:=fB)
      replace hm:=hm.nilow (α:=fB)
      exact grc 5 results88 hm rfl isAgg71 sizeOf71 ⟨.slice none 0 0,.slice none 0 0,.slice none 0 0,aN,rfl,hm.pk [3,2,1,0,4] rfl rfl⟩
     repeat clear hm
     rintro aa a w ⟨af,hf,hm⟩
     exact gv hf (gZe λa hf=>⟨af,hf.sb rfl,hm.pk [0,1,2,3] rfl rfl⟩)
    repeat clear hm
    rintro aA a w ⟨aK,hf,hm⟩
    refine gv hf (gS (gW (.p 0 (.p 2 (.q 1 (.e 3 (.e 4 (.e 5 (.p 6 (.e 7 .fin .nil)) .nil) .nil) .nil)))) [3,4] [0,2,6] hm [2,3] [blk aB [nV 0,(tV (mkS [])),.slice none 0 0,.slice none 0 0,.slice none 0 0] 71,blk aC [nV aA.2.2.1,(tV aA.2.2.2),.slice none 0 0,.slice none 0 0,.slice none 0 0] 71] rfl mxo (by kernel_rfl) (λ_ _ _ h=>h.2) λw hm hS=>tP rfl (λw=>yF je rfl) (tP rfl (λw=>yM rfl) (tQ rfl hS (λw hm=>yL hm 1 isAgg69 rfl) (tO (gb λaD bc=>?_))))))
    obtain ⟨bd,hle,hm1,hsub,be⟩:=hm.take2 (L1:=[_,_]) (L2:=[_,_]) [0,1] [2,3] (by decide) rfl rfl
    refine tf rfl rfl (λa hf=>fo hf rfl call112 rfl (mX _ bd (⟨aA.1,aA.2.1⟩:ez) bp0 aK 1 hm1 (GT.mono hle hG2) _ bc)) ?_
    rintro cY w ⟨ag,ah,rfl,hB⟩
    replace hm:=be _ _ hB;clear hB
    refine tAk hm [3,4] rfl λhS=>tO (tf rfl rfl (λa hf=>fL (vs:=#[(0,(.agg #[nV aD.1.op,nV aD.1.n_,(tV aD.1.name),ag]))]) (cs:=[nV aD.1.op,nV aD.1.n_,(tV aD.1.name),ag]) jl hf hm rfl rfl (by kernel_rfl) rfl rfl) ?_)
    rintro _ w ⟨bf,rfl,hm⟩
    replace hm:=hm.els_nil (α:=ey)
    replace hm:Mem w0 hz _ [els [] ([]:List ey),blk bf [nV aD.1.op,nV aD.1.n_,(tV aD.1.name),ag] 86,blk bp0 [ah,(.bool (aD.2.bad))] 51,ow [nV aD.1.op,nV aD.1.n_,(tV aD.1.name),ag] (aD.1:ey),ow [ah] aD.2.list,blk aB [nV 0,(tV (mkS [])),.slice none 0 0,.slice none 0 0,.slice none 0 0] 71,blk aC [nV aA.2.2.1,(tV aA.2.2.2),.slice none 0 0,.slice none 0 0,.slice none 0 0] 71]:=iM aD.1 hm 3 rfl
    replace hm:=(hm.els_cons 0 3 (by decide) rfl rfl).pk (L':=[_,_,_,_,_,_]) [0,1,2,4,5,6] rfl rfl
    replace hm:=(hm.lit_els 1 0 (by decide) rfl rfl rfl rfl).pk (L':=[_,_,_,_,_]) [1,2,3,4,5] rfl rfl
    refine tAk hm [3,4] rfl λhS=>tO ?_
    replace hm:=hm.nilow (α:=ey)
    refine gb λbD bg=>?_
    obtain ⟨bh,bi⟩:=fV.1 bg
    replace hm:=(hm.both 0 1 (by decide) rfl rfl).pk (L':=[_,_,_,_,_]) [0,2,3,4,5] rfl rfl
    refine tf rfl rfl (λa hf=>hZ (xs:=([]:List ey)) (ys:=([aD.1]:List ey)) 0 jl hf hm rfl rfl rfl rfl bh) ?_
    rintro ab w hm
    rw [bi] at hm
    refine tAn rfl (tP rfl (λw=>yF je rfl) (tO (tf0 rfl rfl (λa hf=>jw 4 hf hm rfl sizeOf69 rfl rfl rfl (fS (hm.ow_rep 0 rfl)) rfl) ?_)))
    rintro _ w hm
    refine tAn rfl (tE (gS (gS (gR (gF jY rfl (gL hm 4 isAgg3 rfl (gB rfl (gE (gJg (λaG a w=>∃ (aR aH:Value),St 82 [(0,(pV bp0)),(2,(pV aB)),(4,(pV aC))] w0 hz [blk bp0 [aR,(.bool (aG.2.1))] 51,ow [aR] aG.1,blk aB [nV 0,(tV (mkS [])),.slice none 0 0,.slice none 0 0,.slice none 0 0] 71,blk aC [nV aA.2.2.1,(tV aA.2.2.2),aH,.slice none 0 0,.slice none 0 0] 71,ow [aH] aG.2.2] a w) (λaG=>?_) ?_)))))))))
    ·refine gsd 51 rfl (λbj=>?_) λbj=>?_
     ·refine gct rfl (gS (gR (gM rfl ?_)))
      obtain ⟨bk,hle,hm1,hsub,bl⟩:=hm.take2 (L1:=[_,_]) (L2:=[_,_,_]) [1,2] [0,3,4] (by decide) rfl rfl
      refine gCg rfl call50 (gm _ bk aD.2 bp0 ah 3 (mkS [44]) hm1 ) ?_
      rintro bH cZ c8 w ⟨bm,rfl,hB⟩
      replace hm:=bl _ _ hB;clear hB
      refine gE (gW (.p 0 (.p 2 (.q 1 (.e 3 (.e 4 (.e 5 (.p 6 (.e 7 .fin .nil)) .nil) .nil) .nil)))) [3,4] [0,2,6] hm [2,3,4] [ow [ab] bD,blk aB [nV 0,(tV (mkS [])),.slice none 0 0,.slice none 0 0,.slice none 0 0] 71,blk aC [nV aA.2.2.1,(tV aA.2.2.2),ab,.slice none 0 0,.slice none 0 0] 71] rfl mxo (by kernel_rfl) (λ_ _ _ h=>h.2) λw hm hS=>tP rfl (λw=>yF je rfl) (tP rfl (λw=>yM rfl) (tQ rfl hS (λw hm=>yL hm 2 isAgg69 rfl) (tO (gb λaE bo=>?_)))))
      obtain ⟨bp,hle,hm1,hsub,bq⟩:=hm.take2 (L1:=[_,_]) (L2:=[_,_,_]) [0,1] [2,3,4] (by decide) rfl rfl
      refine tf rfl rfl (λa hf=>fo hf rfl call112 rfl (mX _ bp bH bp0 bm 1 hm1 (GT.mono hle hG2) _ bo)) ?_
      rintro c9 w ⟨ai,bE,rfl,hB⟩
      replace hm:=bq _ _ hB;clear hB
      refine tAk hm [3,4,5] rfl λhS=>tO (tf rfl rfl (λa hf=>fL (vs:=#[(0,(.agg #[nV aE.1.op,nV aE.1.n_,(tV aE.1.name),ai]))]) (cs:=[nV aE.1.op,nV aE.1.n_,(tV aE.1.name),ai]) jl hf hm rfl rfl (by kernel_rfl) rfl rfl) ?_)
      rintro _ w ⟨br,rfl,hm⟩
      replace hm:=hm.els_nil (α:=ey)
      replace hm:Mem w0 hz _ [els [] ([]:List ey),blk br [nV aE.1.op,nV aE.1.n_,(tV aE.1.name),ai] 86,blk bp0 [bE,(.bool (aE.2.bad))] 51,ow [nV aE.1.op,nV aE.1.n_,(tV aE.1.name),ai] (aE.1:ey),ow [bE] aE.2.list,ow [ab] bD,blk aB [nV 0,(tV (mkS [])),.slice none 0 0,.slice none 0 0,.slice none 0 0] 71,blk aC [nV aA.2.2.1,(tV aA.2.2.2),ab,.slice none 0 0,.slice none 0 0] 71]:=iM aE.1 hm 3 rfl
      replace hm:=(hm.els_cons 0 3 (by decide) rfl rfl).pk (L':=[_,_,_,_,_,_,_]) [0,1,2,4,5,6,7] rfl rfl
      replace hm:=(hm.lit_els 1 0 (by decide) rfl rfl rfl rfl).pk (L':=[_,_,_,_,_,_]) [1,2,3,4,5,6] rfl rfl
      refine tAk hm [3,4,5] rfl λhS=>tO (gb λca bs=>?_)
      obtain ⟨bt,bu⟩:=fV.1 bs
      replace hm:=(hm.both 3 0 (by decide) rfl rfl).pk (L':=[_,_,_,_,_]) [1,2,3,4,5] rfl rfl
      refine tf rfl rfl (λa hf=>hZ (xs:=bD) (ys:=([aE.1]:List ey)) 2 jl hf hm rfl rfl rfl rfl bt) ?_
      rintro bv w hm
      rw [bu] at hm
      refine tAn rfl (tP rfl (λw=>yF je rfl) (tO (tf0 rfl rfl (λa hf=>jw 4 hf hm rfl sizeOf69 rfl rfl rfl (fS (hm.ow_rep 2 rfl)) rfl) ?_)))
      rintro _ w hm
      exact tAn rfl (tE (gZ λa hf=>⟨bE,bv,hf.sb rfl,hm.pk [0,1,3,4,2] rfl rfl⟩))
     exact gcf rfl (gSk (gZ λa hf=>⟨ah,ab,hf.sb rfl,hm.pk [1,2,3,4,0] rfl rfl⟩))
    repeat clear hm
    rintro aG a w ⟨aR,aH,hf,hm⟩
    refine gv hf (gS (gS (gR (gF jY rfl (gL hm 3 isAgg3 rfl (gE (gJg (λaX a w=>∃ (aj ak al:Value),St 82 [(2,(pV aB)),(4,(pV aC))] w0 hz [blk aB [nV 0,(tV (mkS [])),.slice none 0 0,.slice none 0 0,.slice none 0 0] 71,blk aC [nV aA.2.2.1,(tV aA.2.2.2),aH,aj,ak] 71,ow [aH] aG.2.2,ow [aj] aX.1,ow [ak] aX.2.1,blk bp0 [al,(.bool (aX.2.2.2))] 51,ow [al] aX.2.2.1] a w) (λaX=>?_) ?_)))))))
    ·refine gBk (gS (gS (gR (gB rfl (gA rfl (gE (gJ hm (λam=>[(0,(pV bp0)),(2,(pV aB)),(4,(pV aC)),(65,(.bool (am)))]) (λam=>[blk bp0 [aR,(.bool (aG.2.1))] 51,ow [aR] aG.1,blk aB [nV 0,(tV (mkS [])),.slice none 0 0,.slice none 0 0,.slice none 0 0] 71,blk aC [nV aA.2.2.1,(tV aA.2.2.2),aH,.slice none 0 0,.slice none 0 0] 71,ow [aH] aG.2.2]) (λam=>?_) ?_)))))))
     ·refine gsd 65 rfl (λbw=>?_) λbw=>?_
      ·exact gct rfl (gSk (gz hm [0,1,2,3,4] rfl))
      exact gcf rfl (gR (gB rfl (gA rfl (gE (gz hm [0,1,2,3,4] rfl)))))
     repeat clear hm
     intro am w hm
     refine gJg (λaY a w=>∃ (an ao aq:Value),St 82 [(2,(pV aB)),(4,(pV aC))] w0 hz [blk aB [nV 0,(tV (mkS [])),.slice none 0 0,.slice none 0 0,.slice none 0 0] 71,blk aC [nV aA.2.2.1,(tV aA.2.2.2),aH,an,ao] 71,ow [aH] aG.2.2,ow [an] aY.1,ow [ao] aY.2.1,blk bp0 [aq,(.bool (aY.2.2.2))] 51,ow [aq] aY.2.2.1] a w) (λaY=>?_) ?_
     ·refine gs 65 rfl (λbz=>?_) λbz=>?_
      ·refine gct rfl (gS (gR (gM rfl ?_)))
       obtain ⟨cA,hle,hm1,hsub,cC⟩:=hm.take2 (L1:=[_,_]) (L2:=[_,_,_]) [0,1] [2,3,4] (by decide) rfl rfl
       refine gCg rfl call53 (pimpl_wordReader__block_rec _ cA (⟨aG.1,aG.2.1⟩:ez) bp0 aR hm1 (GT.mono hle hG1) (GT.mono hle hG2)) ?_
       rintro bF bL aT w ⟨_,a8,rfl,hB⟩
       replace hm:=cC _ _ hB;clear hB
       refine gF lB rfl (gS1 hm 4 sizeOf52 (fS (hm.ow_rep 1 rfl)) rfl λw hm=>gE (gS (gJg (λaS a w=>∃ (aM:Value),St 82 [(0,(pV bp0)),(2,(pV aB)),(4,(pV aC)),(77,(.bool (aS.2.2)))] w0 hz [blk bp0 [aM,(.bool (aS.2.1))] 51,ow [aM] aS.1,blk aB [nV 0,(tV (mkS [])),.slice none 0 0,.slice none 0 0,.slice none 0 0] 71,blk aC [nV aA.2.2.1,(tV aA.2.2.2),aH,aT,.slice none 0 0] 71,ow [aH] aG.2.2,ow [aT] bF.1] a w) (λaS=>?_) ?_)))
       ·refine gR (gF jY rfl (gL hm 4 isAgg3 rfl (gB rfl (gM rfl (gsd 74 rfl (λcD=>?_) λcD=>?_)))))
        ·refine gM rfl ?_
         obtain ⟨cE,hle,hm1,hsub,cF⟩:=hm.take2 (L1:=[_,_]) (L2:=[_,_,_,_]) [0,2] [1,3,4,5] (by decide) rfl rfl
         refine gCg rfl call52 (jA _ cE bF.2 bp0 a8 4 (mkS [101,108,115,101]) hm1 ) ?_
         rintro cb cc cd w ⟨cG,rfl,hB⟩
         replace hm:=cF _ _ hB;clear hB
         exact gKt rfl (gE (gZ λa hf=>⟨cG,hf.sb rfl,hm.pk [0,1,3,4,5,2] rfl rfl⟩))
        exact gO rfl (gO rfl (gKf rfl (gE (gZ λa hf=>⟨a8,hf.sb rfl,hm.pk [0,2,3,4,5,1] rfl rfl⟩))))
       repeat clear hm
       rintro aS a w ⟨aM,hf,hm⟩
       refine gv hf (gJg (λac a w=>∃ (aU aV:Value),St 82 [(2,(pV aB)),(4,(pV aC))] w0 hz [blk aB [nV 0,(tV (mkS [])),.slice none 0 0,.slice none 0 0,.slice none 0 0] 71,blk aC [nV aA.2.2.1,(tV aA.2.2.2),aH,aT,aU] 71,ow [aH] aG.2.2,ow [aT] bF.1,ow [aU] ac.1,blk bp0 [aV,(.bool (ac.2.2))] 51,ow [aV] ac.2.1] a w) (λac=>?_) ?_)
       ·refine gs 77 rfl (λcH=>?_) λcH=>?_
        ·refine gct rfl (gR (gM rfl ?_))
         obtain ⟨cI,hle,hm1,hsub,cJ⟩:=hm.take2 (L1:=[_,_]) (L2:=[_,_,_,_]) [0,1] [2,3,4,5] (by decide) rfl rfl
         refine gCg rfl call53 (pimpl_wordReader__block_rec _ cI (⟨aS.1,aS.2.1⟩:ez) bp0 aM hm1 (GT.mono hle hG1) (GT.mono hle hG2)) ?_
         rintro ce cf cK w ⟨_,cL,rfl,hB⟩
         replace hm:=cJ _ _ hB;clear hB
         exact gF lH rfl (gS1 hm 4 sizeOf52 (fS (hm.ow_rep 1 rfl)) rfl λw hm=>gE (gZ λa hf=>⟨cK,cL,hf.sb rfl,hm.pk [3,4,5,6,1,0,2] rfl rfl⟩))
        refine gcf rfl (gSk ?_)
        replace hm:=hm.nilow (α:=fB)
        exact gZ λa hf=>⟨.slice none 0 0,aM,hf.sb rfl,hm.pk [3,4,5,6,0,1,2] rfl rfl⟩
       repeat clear hm
       rintro ac a w ⟨aU,aV,hf,hm⟩
       exact gv hf (gZ λa hf=>⟨aT,aU,aV,hf.sb rfl,hm.pk [0,1,2,3,4,5,6] rfl rfl⟩)
      refine gcf rfl (gR (gM rfl ?_))
      obtain ⟨cN,hle,hm1,hsub,cO⟩:=hm.take2 (L1:=[_,_]) (L2:=[_,_,_]) [0,1] [2,3,4] (by decide) rfl rfl
      refine gCg rfl call50 (gm _ cN (⟨aG.1,aG.2.1⟩:ez) bp0 aR 3 (mkS [59]) hm1 ) ?_
      rintro cg cj ck w ⟨cP,rfl,hB⟩
      replace hm:=cO _ _ hB;clear hB
      refine gE ?_
      replace hm:=hm.nilow (α:=fB)
      replace hm:=hm.nilow (α:=fB)
      exact gZ λa hf=>⟨.slice none 0 0,.slice none 0 0,cP,hf.sb rfl,hm.pk [4,5,6,1,0,2,3] rfl rfl⟩
     repeat clear hm
     rintro aY a w ⟨an,ao,aq,hf,hm⟩
     exact gv hf (gZ λa hf=>⟨an,ao,aq,hf.sb rfl,hm.pk [0,1,2,3,4,5,6] rfl rfl⟩)
    repeat clear hm
    rintro aX a w ⟨aj,ak,al,hf,hm⟩
    exact gv hf (gS (gR (gY (yn (hm.blk_at 1 rfl) isAgg71 sizeOf71 rfl) (gSN hm 0 sizeOf71 (et rfl (et rfl (et (fS (hm.ow_rep 2 rfl)) (et (fS (hm.ow_rep 3 rfl)) (et (fS (hm.ow_rep 4 rfl)) fK))))) rfl λw hm=>gE (gRt (grc 0 results88 hm rfl isAgg71 sizeOf71 ⟨aH,aj,ak,al,rfl,hm.pk [5,2,3,4,6] rfl rfl⟩))))))
theorem oe (w0:World) (hz:fU) (r_:ez) (bp0:Nat) (v1p:Value) (hm0:Mem w0 hz w0 [blk bp0 [v1p,(.bool (r_.bad))] 51,ow [v1p] r_.list]) (hG1:GT.rep hz [.slice (some ⟨1,0,none⟩) 1 1] [fj]) (hG2:GT.rep hz [.slice (some ⟨2,0,none⟩) 1 1] [fA]) (r:(List fB) × ez) (hq:fc r_=some r):Con Tryz.prog 53 [(pV bp0)] w0 (λv w'=>∃ (x1:Value) (x2:Value),v=x1∧Mem w0 hz w' [blk bp0 [x2,(.bool (r.2.bad))] 51,ow [x1] r.1,ow [x2] r.2.list]):=(oU ).1 r_ r hq w0 hz bp0 v1p hm0 hG1 hG2
theorem p8 (w0:World) (hz:fU) (r_:ez) (bp0:Nat) (v1p:Value) (hm0:Mem w0 hz w0 [blk bp0 [v1p,(.bool (r_.bad))] 51,ow [v1p] r_.list]) (hG1:GT.rep hz [.slice (some ⟨1,0,none⟩) 1 1] [fj]) (hG2:GT.rep hz [.slice (some ⟨2,0,none⟩) 1 1] [fA]) :
    iF Tryz.prog 21 [(pV bp0)] w0 (iN r_) λr v w'=>∃ (x1:Value) (x2:Value) (x3:Value),v=(.agg #[(tV r.1.name),x1,x2])∧Mem w0 hz w' [blk bp0 [x3,(.bool (r.2.bad))] 51,ow [x1] r.1.params,ow [x2] r.1.body,ow [x3] r.2.list]:=by
  unfold iN
  refine iR func21 rfl λr=>?_
  have hm:=hm0
  refine gS (gR (gAl hm zeroValue54 rfl λaB w hm=>gE (gS (gR (gM rfl ?_)))))
  obtain ⟨aQ,hle,hm1,hsub,aR⟩:=hm.take2 (L1:=[_,_]) (L2:=[_]) [1,2] [0] (by decide) rfl rfl
  refine gCg rfl call50 (gm _ aQ r_ bp0 v1p 4 (mkS [102,110]) hm1 ) ?_
  rintro aS bD bE w ⟨aT,rfl,hB⟩
  replace hm:=aR _ _ hB;clear hB
  refine gE (gS (gR (gM rfl ?_)))
  obtain ⟨aU,hle,hm1,hsub,aV⟩:=hm.take2 (L1:=[_,_]) (L2:=[_]) [0,1] [2] (by decide) rfl rfl
  refine gCg rfl call51 (ku _ aU aS bp0 aT hm1 ) ?_
  rintro aD bF bG w ⟨aX,rfl,hB⟩
  replace hm:=aV _ _ hB;clear hB
  refine gY (yG rfl (fY (vs:=[(0,(tV aD.1))]) (cs:=#[(tV aD.1),.slice none 0 0,.slice none 0 0]) rfl rfl (by kernel_rfl))) (gAl hm zeroValue54 rfl λaC w hm=>gSN hm 0 sizeOf54 (et rfl (et rfl (et rfl fK))) rfl λw hm=>gE (gS (gR (gM rfl ?_))))
  obtain ⟨aY,hle,hm1,hsub,aZ⟩:=hm.take2 (L1:=[_,_]) (L2:=[_,_]) [1,2] [0,3] (by decide) rfl rfl
  refine gCg rfl call50 (gm _ aY aD.2 bp0 aX 3 (mkS [40]) hm1 ) ?_
  rintro a8 bH bJ w ⟨bK,rfl,hB⟩
  replace hm:=aZ _ _ hB;clear hB
  refine gE (gS ?_)
  obtain ⟨aa,ab,rfl,bL⟩:=fE (hm.ow_rep 1 rfl)
  refine gJg (λaE a w=>∃ (aK aL:Value),St 38 [(0,(pV bp0)),(2,(pV aB)),(3,(pV aC))] w0 hz [blk bp0 [aK,(.bool (aE.2.1))] 51,ow [aK] aE.1,blk aB [(tV (mkS [])),.slice none 0 0,.slice none 0 0] 54,blk aC [(tV aD.1),aL,.slice none 0 0] 54,ow [aL] aE.2.2] a w) (λaE=>?_) ?_
  ·refine gBk ?_
   replace hm:=hm.nilow (α:=Str)
   refine gMg (λaA a w=>∃ (aJ aG:Value),St 38 [(0,(pV bp0)),(2,(pV aB)),(3,(pV aC))] w0 hz [blk bp0 [aJ,(.bool (aA.2.1))] 51,ow [aJ] aA.1,blk aB [(tV (mkS [])),.slice none 0 0,.slice none 0 0] 54,blk aC [(tV aD.1),aG,.slice none 0 0] 54,ow [aG] aA.2.2] a w) (λa hf=>⟨.slice aa a8.list.length ab,.slice none 0 0,hf.sb rfl,hm.pk [1,2,4,3,0] rfl rfl⟩) ?_
   repeat clear hm
   rintro bM ac aA a w ⟨aJ,aG,hf,hm⟩ bN ae
   refine gv hf (gS (gS (gJg (λaF a w=>∃ (aH:Value),St 38 [(0,(pV bp0)),(2,(pV aB)),(3,(pV aC)),(20,(.bool (aF.2.2)))] w0 hz [blk bp0 [aH,(.bool (aF.2.1))] 51,ow [aH] aF.1,blk aB [(tV (mkS [])),.slice none 0 0,.slice none 0 0] 54,blk aC [(tV aD.1),aG,.slice none 0 0] 54,ow [aG] aA.2.2] a w) (λaF=>?_) ?_)))
   ·refine gR (gM rfl (gY (yG rfl (fI rfl rfl)) (gF mu rfl (gL hm 0 isAgg4 rfl (gN rfl (gM rfl (gsn 16 rfl (λaf=>?_) λaf=>?_)))))))
    ·refine gM rfl ?_
     obtain ⟨ag,hle,hm1,hsub,ah⟩:=hm.take2 (L1:=[_,_]) (L2:=[_,_,_]) [0,1] [2,3,4] (by decide) rfl rfl
     refine gCg rfl call52 (jA _ ag (⟨aA.1,aA.2.1⟩:ez) bp0 aJ 3 (mkS [41]) hm1 ) ?_
     rintro bO bP bQ w ⟨ai,rfl,hB⟩
     replace hm:=ah _ _ hB;clear hB
     exact gN rfl (gKt rfl (gE (gZ λa hf=>⟨ai,hf.sb rfl,hm.pk [0,1,2,3,4] rfl rfl⟩)))
    exact gO rfl (gO rfl (gO rfl (gKf rfl (gE (gZ λa hf=>⟨aJ,hf.sb rfl,hm.pk [0,1,2,3,4] rfl rfl⟩)))))
   repeat clear hm
   rintro aF a w ⟨aH,hf,hm⟩
   refine gv hf (gs 20 rfl (λaj=>?_) λaj=>?_)
   ·refine gct rfl (gSk (gBk (gS (gS (gR (gF kE rfl (gL hm 3 isAgg47 rfl ?_)))))))
    obtain ⟨aM,aN,rfl,bR⟩:=fE (hm.ow_rep 4 rfl)
    refine gY (yV jO rfl) (gB rfl (gE (gJg (λaI a w=>∃ (aO:Value),St 38 [(0,(pV bp0)),(2,(pV aB)),(3,(pV aC))] w0 hz [blk bp0 [aO,(.bool (aI.2))] 51,ow [aO] aI.1,blk aB [(tV (mkS [])),.slice none 0 0,.slice none 0 0] 54,blk aC [(tV aD.1),.slice aM aA.2.2.length aN,.slice none 0 0] 54,ow [.slice aM aA.2.2.length aN] aA.2.2] a w) (λaI=>?_) ?_)))
    ·refine gsd 24 rfl (λak=>?_) λak=>?_
     ·refine gct rfl (gR (gM rfl ?_))
      obtain ⟨al,hle,hm1,hsub,am⟩:=hm.take2 (L1:=[_,_]) (L2:=[_,_,_]) [0,1] [2,3,4] (by decide) rfl rfl
      refine gCg rfl call50 (gm _ al (⟨aF.1,aF.2.1⟩:ez) bp0 aH 3 (mkS [44]) hm1 ) ?_
      rintro bS bT bU w ⟨an,rfl,hB⟩
      replace hm:=am _ _ hB;clear hB
      exact gE (gZ λa hf=>⟨an,hf.sb rfl,hm.pk [0,1,2,3,4] rfl rfl⟩)
     exact gcf rfl (gSk (gZ λa hf=>⟨aH,hf.sb rfl,hm.pk [0,1,2,3,4] rfl rfl⟩))
    repeat clear hm
    rintro aI a w ⟨aO,hf,hm⟩
    refine gv hf (gW (.p 0 (.p 2 (.q 1 (.e 3 (.e 4 (.e 5 (.p 6 (.e 7 .fin .nil)) .nil) .nil) .nil)))) [3,4] [0,2,6] hm [2,3,4] [blk aB [(tV (mkS [])),.slice none 0 0,.slice none 0 0] 54,blk aC [(tV aD.1),.slice aM aA.2.2.length aN,.slice none 0 0] 54,ow [.slice aM aA.2.2.length aN] aA.2.2] rfl mxo (by kernel_rfl) (λ_ _ _ h=>h.2) λw hm hS=>tP rfl (λw=>yF kE rfl) (tP rfl (λw=>yM rfl) (tQ rfl hS (λw hm=>yL hm 1 isAgg47 rfl) (tO (gb λaP ao=>?_)))))
    obtain ⟨aq,hle,hm1,hsub,ar⟩:=hm.take2 (L1:=[_,_]) (L2:=[_,_,_]) [0,1] [2,3,4] (by decide) rfl rfl
    refine tf rfl rfl (λa hf=>fo hf rfl call51 rfl (ku _ aq (⟨aI.1,aI.2⟩:ez) bp0 aO hm1  _ ao)) ?_
    rintro bV w ⟨au,rfl,hB⟩
    replace hm:=ar _ _ hB;clear hB
    refine tAk hm [2,3,4] rfl λhS=>tO (tf rfl rfl (λa hf=>fL (vs:=#[(0,(tV aP.1))]) (cs:=[(tV aP.1)]) lK hf hm rfl rfl (by kernel_rfl) rfl rfl) ?_)
    rintro _ w ⟨bW,rfl,hm⟩
    replace hm:=hm.lit (xs:=([aP.1]:List Str)) 0 rfl rfl rfl rfl
    refine tAk hm [3,4,5] rfl λhS=>tO (gb λbX av=>?_)
    obtain ⟨aw,ax⟩:=fV.1 av
    refine tf rfl rfl (λa hf=>iL 5 lK hf hm rfl (hm.ow_rep 0 rfl) rfl rfl rfl aw) ?_
    rintro ay w hm
    rw [ax] at hm
    refine tAn rfl (tP rfl (λw=>yF kE rfl) (tO (tf0 rfl rfl (λa hf=>jw 4 hf hm rfl sizeOf47 rfl rfl rfl (fS (hm.ow_rep 5 rfl)) rfl) ?_)))
    rintro _ w hm
    exact tAn rfl (tE (gZe λa hf=>⟨au,ay,hf.sb rfl,hm.pk [1,2,3,4,5] rfl rfl⟩))
   exact gcf rfl (gXt (gHh (gLp ae ac (gZ λa hf=>⟨aH,aG,hf.sb rfl,hm.pk [0,1,2,3,4] rfl rfl⟩))))
  repeat clear hm
  rintro aE a w ⟨aK,aL,hf,hm⟩
  refine gv hf (gS (gR (gM rfl ?_)))
  obtain ⟨az,hle,hm1,hsub,bA⟩:=hm.take2 (L1:=[_,_]) (L2:=[_,_,_]) [0,1] [2,3,4] (by decide) rfl rfl
  refine gCg rfl call53 (oe _ az (⟨aE.1,aE.2.1⟩:ez) bp0 aK hm1 (GT.mono hle hG1) (GT.mono hle hG2)) ?_
  rintro bY bZ bB w ⟨_,bC,rfl,hB⟩
  replace hm:=bA _ _ hB;clear hB
  exact gF l0 rfl (gS1 hm 4 sizeOf52 (fS (hm.ow_rep 1 rfl)) rfl λw hm=>gE (gS (gR (gY (yn (hm.blk_at 4 rfl) isAgg54 sizeOf54 rfl) (gSN hm 3 sizeOf54 (et rfl (et (fS (hm.ow_rep 5 rfl)) (et (fS (hm.ow_rep 1 rfl)) fK))) rfl λw hm=>gE (gRt (grc 3 results21 hm rfl isAgg54 sizeOf54 ⟨aL,bB,bC,rfl,hm.pk [0,5,1,2] rfl rfl⟩)))))))
theorem mj (w0:World) (s_:List Str) (v1:Value) (h1:GT.rep (hp w0) [v1] s_) (f:Str→Option Bool) (fv1:Value) (hfn1:∀ (w:World) (y0:Str) (r:Bool),Below w0.heap.size w0 w→f y0=some r→th Tryz.prog fv1 [(tV y0)] w (λv w'=>v=(.bool (r))∧Below w.heap.size w w')) :
    iF Tryz.prog 91 [v1,fv1] w0 (jG s_ f) λr v w'=>v=(nV r)∧Below w0.heap.size w0 w':=by
  unfold jG
  refine iR func91 rfl λr=>?_
  have hm:=Mem.start w0
  refine gS (gR (gA rfl (gE (gS (gS (gR (gM rfl ?_)))))))
  obtain ⟨aE,aF,rfl,aL⟩:=fE h1
  refine gY (yV jO rfl) (gM rfl (gE (gBk (gNf hm (λaA aC=>[(0,(.slice aE s_.length aF)),(1,fv1),(7,(nV ((s_.length:Int)))),(8,(nV aA))]) (λaA aC=>[]) [] rfl ?_ ?_))))
  ·repeat clear hm
   intro aM aG aA aC w hm aN aO aP aH
   refine gS (gR (gB rfl (gE (gS (go _ 9 rfl (decide_eq_true (by omega)) (gct rfl (gSk (gS (gBk (gS (gR (gM rfl (gA rfl (gE (gS (gR (gM rfl (gM rfl (gM rfl (gg λaD aI aB=>?_))))))))))))))))))))
   obtain ⟨aQ,aR,aS,he⟩:=iS h1 aB
   obtain ⟨rfl,_,rfl⟩:=sl3 he
   refine gI jO aI (ff aB) rfl (gY (yl isAgg9 ((gK (cs:=[(tV aD)]) (hm.now h1) aB rfl).cell (j:=0) rfl) rfl) (gb λaT aJ=>gf rfl (λa hf=>py hf rfl rfl rfl (hfn1 _ aD _ hm.below aJ)) ?_))
   rintro aU w ⟨rfl,hB⟩
   replace hm:=hm.below' hB;clear hB
   refine gE (gs 16 rfl (λaK=>?_) λaK=>?_)
   ·exact gct rfl (gS (gR (gM rfl (gA rfl (gE (gRt (gLr aH aG (gr1 results91 rfl ⟨rfl,hm.below⟩))))))))
   exact gcf rfl (gSk (gR (gP (by omega) (by omega) rfl (gM rfl (gE (gze hm [] rfl))))))
  repeat clear hm
  intro aV aX w hm aY aZ
  exact gS (gR (gB rfl (gE (gS (go _ 9 rfl (decide_eq_false (by omega)) (gcf rfl (gXt (gHh (gS (gR (gA rfl (gE (gRt (gr1 results91 rfl ⟨rfl,hm.below⟩))))))))))))))
theorem mO (w0:World) (s_:List Str) (v1:Value) (h1:GT.rep (hp w0) [v1] s_) (f:Str→Option Bool) (fv1:Value) (hfn1:∀ (w:World) (y0:Str) (r:Bool),Below w0.heap.size w0 w→f y0=some r→th Tryz.prog fv1 [(tV y0)] w (λv w'=>v=(.bool (r))∧Below w.heap.size w w')) :
    iF Tryz.prog 56 [v1,fv1] w0 (gh s_ f) λr v w'=>v=(.bool (r))∧Below w0.heap.size w0 w':=by
  unfold gh
  refine iR func56 rfl λr=>?_
  have hm:=Mem.start w0
  exact gS (gR (gA rfl (gE (gS (gR (gM rfl (gM rfl (gC hm rfl call91 (mj _ s_ v1 (hm.now h1) f fv1 (λw y0 r hB hq=>hfn1 w y0 r (hm.below.trans (hB.mono hm.below.size)) hq)) λaA aB w hm=>gB rfl (gA rfl (gE (gRt (gr1 results56 rfl ⟨rfl,hm.below⟩))))))))))))
theorem po (w0:World) (s_:Str) (hG0:GT.rep (hp w0) [.slice (some ⟨0,0,none⟩) 9 9] fP) :
    iF Tryz.prog 57 [(tV s_)] w0 (iq s_) λr v w'=>v=(.bool (r))∧Below w0.heap.size w0 w':=by
  unfold iq
  refine iR func57 rfl λr=>?_
  have hm:=Mem.start w0
  exact gS (gR (gA rfl (gE (gS (gR (gM rfl (gC hm rfl call55 (lS _ s_ (hm.now hG0)) λaA aB w hm=>gN rfl (gA rfl (gE (gRt (gr1 results57 rfl ⟨rfl,hm.below⟩)))))))))))
theorem ll (w0:World) (s_:List fB) (v1:Value) (h1:GT.rep (hp w0) [v1] s_) (f:fB→Option Bool) (fv1:Value) (hfn1:∀ (w:World) (y0:fB) (z1:Value) (_:GT.rep (hp w) [z1] y0.args) (z2:Value) (_:GT.rep (hp w) [z2] y0.body) (z3:Value) (_:GT.rep (hp w) [z3] y0.else_) (r:Bool),Below w0.heap.size w0 w→f y0=some r→th Tryz.prog fv1 [(.agg #[nV y0.op,(tV y0.name),z1,z2,z3])] w (λv w'=>v=(.bool (r))∧Below w.heap.size w w')) :
    iF Tryz.prog 114 [v1,fv1] w0 (gq s_ f) λr v w'=>v=(nV r)∧Below w0.heap.size w0 w':=by
  unfold gq
  refine iR func114 rfl λr=>?_
  have hm:=Mem.start w0
  refine gS (gR (gA rfl (gE (gS (gS (gR (gM rfl ?_)))))))
  obtain ⟨aD,aE,rfl,aS⟩:=fE h1
  refine gY (yV jN rfl) (gM rfl (gE (gBk (gNf hm (λaA aC=>[(0,(.slice aD s_.length aE)),(1,fv1),(7,(nV ((s_.length:Int)))),(8,(nV aA))]) (λaA aC=>[]) [] rfl ?_ ?_))))
  ·repeat clear hm
   intro aT aF aA aC w hm aU aV aX aG
   refine gS (gR (gB rfl (gE (gS (go _ 9 rfl (decide_eq_true (by omega)) (gct rfl (gSk (gS (gBk (gS (gR (gM rfl (gA rfl (gE (gS (gR (gM rfl (gM rfl (gM rfl (gg λaH aI aB=>?_))))))))))))))))))))
   obtain ⟨aY,aZ,a8,he⟩:=fp h1 aB
   obtain ⟨rfl,_,rfl⟩:=sl3 he
   obtain ⟨aJ,aK,aL,aM,aN,aO,aP⟩:=lJ h1 aB
   refine gI jN aI (ff aB) rfl (gY (yn (aM.mono hm.lez) isAgg71 sizeOf71 rfl) (gb λaa aQ=>gf rfl (λa hf=>py hf rfl rfl rfl (hfn1 _ aH aJ (hm.now aN) aK (hm.now aO) aL (hm.now aP) _ hm.below aQ)) ?_))
   rintro ab w ⟨rfl,hB⟩
   replace hm:=hm.below' hB;clear hB
   refine gE (gs 16 rfl (λaR=>?_) λaR=>?_)
   ·exact gct rfl (gS (gR (gM rfl (gA rfl (gE (gRt (gLr aG aF (gr1 results114 rfl ⟨rfl,hm.below⟩))))))))
   exact gcf rfl (gSk (gR (gP (by omega) (by omega) rfl (gM rfl (gE (gze hm [] rfl))))))
  repeat clear hm
  intro ac ae w hm af ag
  exact gS (gR (gB rfl (gE (gS (go _ 9 rfl (decide_eq_false (by omega)) (gcf rfl (gXt (gHh (gS (gR (gA rfl (gE (gRt (gr1 results114 rfl ⟨rfl,hm.below⟩))))))))))))))
theorem lQ (w0:World) (s_:List fB) (v1:Value) (h1:GT.rep (hp w0) [v1] s_) (f:fB→Option Bool) (fv1:Value) (hfn1:∀ (w:World) (y0:fB) (z1:Value) (_:GT.rep (hp w) [z1] y0.args) (z2:Value) (_:GT.rep (hp w) [z2] y0.body) (z3:Value) (_:GT.rep (hp w) [z3] y0.else_) (r:Bool),Below w0.heap.size w0 w→f y0=some r→th Tryz.prog fv1 [(.agg #[nV y0.op,(tV y0.name),z1,z2,z3])] w (λv w'=>v=(.bool (r))∧Below w.heap.size w w')) :
    iF Tryz.prog 92 [v1,fv1] w0 (gU s_ f) λr v w'=>v=(.bool (r))∧Below w0.heap.size w0 w':=by
  unfold gU
  refine iR func92 rfl λr=>?_
  have hm:=Mem.start w0
  exact gS (gR (gA rfl (gE (gS (gR (gM rfl (gM rfl (gC hm rfl call114 (ll _ s_ v1 (hm.now h1) f fv1 (λw y0 aA aB aC aD aE aF r hB hq=>hfn1 w y0 aA aB aC aD aE aF r (hm.below.trans (hB.mono hm.below.size)) hq)) λaG aH w hm=>gB rfl (gA rfl (gE (gRt (gr1 results92 rfl ⟨rfl,hm.below⟩))))))))))))
theorem tR (w0:World) (op:Int) :
    iF Tryz.prog 115 [nV op] w0 (lx op) λr v w'=>v=(.tuple #[nV r.1,(.bool (r.2.1)),(.bool (r.2.2.1)),(.bool (r.2.2.2))])∧Below w0.heap.size w0 w':=by
  unfold lx
  refine iR func115 rfl λr=>?_
  have hm:=Mem.start w0
  refine gS (gR (gA rfl (gA rfl (gA rfl (gA rfl (gE (gS (gS (gR (gM rfl (gE (gBk (gS (gS (gR (gB rfl (gA rfl (gE (gJ hm (λaA=>[(6,(nV op)),(7,(.bool (aA)))]) (λaA=>[]) (λaA=>?_) ?_)))))))))))))))))))
  ·refine gsd 7 rfl (λaD=>?_) λaD=>?_
   ·exact gct rfl (gSk (gz hm [] rfl))
   exact gcf rfl (gR (gB rfl (gA rfl (gE (gz hm [] rfl)))))
  repeat clear hm
  intro aA w hm
  refine gs 7 rfl (λaE=>?_) λaE=>?_
  ·exact gct rfl (gS (gR (gA rfl (gA rfl (gA rfl (gA rfl (gE (gRt (gr4 results115 rfl ⟨rfl,hm.below⟩)))))))))
  refine gcf rfl (gS (gS (gR (gB rfl (gA rfl (gE (gJ hm (λaB=>[(6,(nV op)),(10,(.bool (aB)))]) (λaB=>[]) (λaB=>?_) ?_)))))))
  ·refine gsd 10 rfl (λaF=>?_) λaF=>?_
   ·exact gct rfl (gSk (gz hm [] rfl))
   refine gcf rfl (gS (gR (gB rfl (gA rfl (gE (gJ hm (λaC=>[(6,(nV op)),(10,(.bool (aC)))]) (λaC=>[]) (λaC=>?_) ?_))))))
   ·refine gsd 10 rfl (λaG=>?_) λaG=>?_
    ·exact gct rfl (gSk (gz hm [] rfl))
    exact gcf rfl (gR (gB rfl (gA rfl (gE (gz hm [] rfl)))))
   repeat clear hm
   intro aC w hm
   exact gz hm [] rfl
  repeat clear hm
  intro aB w hm
  refine gs 10 rfl (λaH=>?_) λaH=>?_
  ·exact gct rfl (gS (gR (gA rfl (gA rfl (gA rfl (gA rfl (gE (gRt (gr4 results115 rfl ⟨rfl,hm.below⟩)))))))))
  refine gcf rfl (gS (gR (gB rfl (gA rfl (gE (gsd 14 rfl (λaI=>?_) λaI=>?_))))))
  ·exact gct rfl (gS (gR (gA rfl (gA rfl (gA rfl (gA rfl (gE (gRt (gr4 results115 rfl ⟨rfl,hm.below⟩)))))))))
  refine gcf rfl (gS (gR (gB rfl (gA rfl (gE (gsd 16 rfl (λaJ=>?_) λaJ=>?_))))))
  ·exact gct rfl (gS (gR (gA rfl (gA rfl (gA rfl (gA rfl (gE (gRt (gr4 results115 rfl ⟨rfl,hm.below⟩)))))))))
  refine gcf rfl (gS (gR (gB rfl (gA rfl (gE (gsd 18 rfl (λaK=>?_) λaK=>?_))))))
  ·exact gct rfl (gS (gR (gA rfl (gA rfl (gA rfl (gA rfl (gE (gRt (gr4 results115 rfl ⟨rfl,hm.below⟩)))))))))
  exact gcf rfl (gSk (gS (gR (gA rfl (gA rfl (gA rfl (gA rfl (gE (gRt (gr4 results115 rfl ⟨rfl,hm.below⟩))))))))))
theorem wo (w0:World) (n_:Int) :
    iF Tryz.prog 151 [nV n_] w0 (nr n_) λr v w'=>v=(.bool (r))∧Below w0.heap.size w0 w':=by
  unfold nr
  refine iR func151 rfl λr=>?_
  have hm:=Mem.start w0
  exact gS (gR (gA rfl (gE (gS (gR (gM rfl (gC hm rfl call54 (mK _ n_ 0 255) λaA aB w hm=>gA rfl (gE (gRt (gr1 results151 rfl ⟨rfl,hm.below⟩))))))))))
theorem ld (w0:World) (op:Int) (hG2:GT.rep (hp w0) [.slice (some ⟨2,0,none⟩) 1 1] [fA]) :
    iF Tryz.prog 126 [nV op] w0 (ka op) λr v w'=>v=(nV r)∧Below w0.heap.size w0 w':=by
  unfold ka
  refine iR func126 rfl λr=>?_
  have hm:=Mem.start w0
  refine gS (gR (gA rfl (gE (gS (gBk (gS (gR ?_)))))))
  obtain ⟨aI,aB,aC⟩:=pY hG2 rfl
  refine gY (yl isAgg153 ((iK.mono hm.lez (aB)).cell (j:=0) rfl) rfl) (gM rfl (gY (yG rfl (vg (key:=op) (m:=(fA:jm fO)) (z:=(⟨(mkS []),0⟩:fO)) (v2:=(.agg #[(tV (((jm.get fA op).getD (⟨(mkS []),0⟩:fO)).sign)),nV (((jm.get fA op).getD (⟨(mkS []),0⟩:fO)).level)])) underlying3 underlying153 zeroValue152 (hm.now aC) rfl rfl rfl rfl rfl)) (gY (yG rfl (sD underlying152 rfl rfl isAgg3 rfl rfl rfl)) (gB rfl (gA rfl (gE (gsd 3 rfl (λaD=>?_) λaD=>?_)))))))
  ·refine gct rfl (gS (gR ?_))
   obtain ⟨aJ,aE,aF⟩:=pY hG2 rfl
   exact gY (yl isAgg153 ((iK.mono hm.lez (aE)).cell (j:=0) rfl) rfl) (gM rfl (gY (yG rfl (vg (key:=op) (m:=(fA:jm fO)) (z:=(⟨(mkS []),0⟩:fO)) (v2:=(.agg #[(tV (((jm.get fA op).getD (⟨(mkS []),0⟩:fO)).sign)),nV (((jm.get fA op).getD (⟨(mkS []),0⟩:fO)).level)])) underlying3 underlying153 zeroValue152 (hm.now aF) rfl rfl rfl rfl rfl)) (gY (yG rfl (sD underlying152 rfl rfl isAgg3 rfl rfl rfl)) (gA rfl (gE (gRt (gr1 results126 rfl ⟨rfl,hm.below⟩)))))))
  refine gcf rfl (gS (gJ hm (λaA=>[(13,(.bool (aA)))]) (λaA=>[]) (λaA=>?_) ?_))
  ·refine gR (gM rfl (gB rfl (gM rfl (gsd 16 rfl (λaG=>?_) λaG=>?_))))
   ·exact gO rfl (gO rfl (gKt rfl (gA rfl (gE (gz hm [] rfl)))))
   exact gM rfl (gB rfl (gKf rfl (gA rfl (gE (gz hm [] rfl)))))
  repeat clear hm
  intro aA w hm
  refine gs 13 rfl (λaH=>?_) λaH=>?_
  ·exact gct rfl (gS (gR (gA rfl (gE (gRt (gr1 results126 rfl ⟨rfl,hm.below⟩))))))
  exact gcf rfl (gSk (gS (gR (gA rfl (gE (gRt (gr1 results126 rfl ⟨rfl,hm.below⟩)))))))
theorem sa  : ∀ (e:ey) (most:Int) (r:Int × Int × Bool),j9 e most=some r→∀ (w0:World) (v1:Value) (h1:GT.rep (hp w0) [v1] e.kids) (hG0:GT.rep (hp w0) [.slice (some ⟨0,0,none⟩) 9 9] fP) (hG2:GT.rep (hp w0) [.slice (some ⟨2,0,none⟩) 1 1] [fA]),Con Tryz.prog 135 [(.agg #[nV e.op,nV e.n_,(tV e.name),v1]),nV most] w0 (λv w'=>v=(.tuple #[nV r.1,nV r.2.1,(.bool (r.2.2))])∧Below w0.heap.size w0 w'):=by
  refine j9.partial_correctness  (motive:=λe most r=>∀ (w0:World) (v1:Value) (h1:GT.rep (hp w0) [v1] e.kids) (hG0:GT.rep (hp w0) [.slice (some ⟨0,0,none⟩) 9 9] fP) (hG2:GT.rep (hp w0) [.slice (some ⟨2,0,none⟩) 1 1] [fA]),Con Tryz.prog 135 [(.agg #[nV e.op,nV e.n_,(tV e.name),v1]),nV most] w0 (λv w'=>v=(.tuple #[nV r.1,nV r.2.1,(.bool (r.2.2))])∧Below w0.heap.size w0 w')) ?_
  intro rec_ ih_ e most r hq w0 v1 h1 hG0 hG2
  have impl_exprSize_rec:∀ (w0:World) (e:ey) (v1:Value) (h1:GT.rep (hp w0) [v1] e.kids) (most:Int) (hG0:GT.rep (hp w0) [.slice (some ⟨0,0,none⟩) 9 9] fP) (hG2:GT.rep (hp w0) [.slice (some ⟨2,0,none⟩) 1 1] [fA]) (r:Int × Int × Bool) (hq:rec_ e most=some r),Con Tryz.prog 135 [(.agg #[nV e.op,nV e.n_,(tV e.name),v1]),nV most] w0 (λv w'=>v=(.tuple #[nV r.1,nV r.2.1,(.bool (r.2.2))])∧Below w0.heap.size w0 w'):=λw0 e v1 h1 most hG0 hG2 r hq=>ih_ e most r hq w0 v1 h1 hG0 hG2
  refine kI (ρ:=Int × Int × Bool) (R:=λr v w'=>v=(.tuple #[nV r.1,nV r.2.1,(.bool (r.2.2))])∧Below w0.heap.size w0 w') func135 rfl hq ?_
  have hm:=Mem.start w0
  refine gS (gR (gBx hm rfl λaA w hm=>gA rfl (gA rfl (gA rfl (gE (gS (gR (gA rfl (gA rfl (gE (gS (sn (λaB a w=>0≤aB.1∧aB.1≤2∧0≤aB.2∧aB.2≤3∧St 127 [(1,(nV most)),(2,(pV aA)),(7,(nV aB.1)),(8,(nV aB.2))] w0 (hp w0) [blk aA [nV e.op,nV e.n_,(tV e.name),v1] 86] a w) (λbC aH=>?_) ?_))))))))))))
  ·refine gBk (gS (gR (gF ik rfl (gL hm 0 isAgg3 rfl (gB rfl (gA rfl (gE (sn (λaC a w=>0≤aC.1∧aC.1≤2∧0≤aC.2∧aC.2≤3∧St 127 [(1,(nV most)),(2,(pV aA)),(7,(nV aC.1)),(8,(nV aC.2))] w0 (hp w0) [blk aA [nV e.op,nV e.n_,(tV e.name),v1] 86] a w) (λbD aI=>?_) ?_))))))))
   ·refine gsd 16 rfl (λaU=>?_) λaU=>?_
    ·refine gct rfl (gS (gJ hm (λaJ=>[(1,(nV most)),(2,(pV aA)),(7,(nV 0)),(8,(nV 0)),(28,(.bool (aJ)))]) (λaJ=>[blk aA [nV e.op,nV e.n_,(tV e.name),v1] 86]) (λaJ=>?_) ?_))
     ·refine gR (gF mC rfl (gL hm 0 isAgg3 rfl (gC hm rfl call151 (wo _ e.n_) λbE bF w hm=>gN rfl (gM rfl (gsn 24 rfl (λaV=>?_) λaV=>?_)))))
      ·exact gO rfl (gO rfl (gO rfl (gKt rfl (gE (gz hm [0] rfl)))))
      exact gF mB rfl (gL hm 0 isAgg9 rfl (gY (yG rfl (oM (p:=e.name) (q:=(mkS [])) rfl rfl rfl)) (gKf rfl (gE (gz hm [0] rfl)))))
     repeat clear hm
     intro aJ w hm
     refine gs 28 rfl (λaX=>?_) λaX=>?_
     ·exact gct rfl (gS (gR (gA rfl (gA rfl (gA rfl (gE (gRt (gEr aI (gEr aH (gr3 results135 rfl ⟨rfl,hm.below⟩))))))))))
     exact gcf rfl (gSk (gZe λa hf=>⟨(by first | omega | (dsimp only;omega)),(by first | omega | (dsimp only;omega)),(by first | omega | (dsimp only;omega)),(by first | omega | (dsimp only;omega)),hf.sb rfl,hm.pk [0] rfl rfl⟩))
    refine gcf rfl (gS (gR (gF ik rfl (gL hm 0 isAgg3 rfl (gB rfl (gA rfl (gE (sn (λaD a w=>0≤aD.1∧aD.1≤2∧0≤aD.2∧aD.2≤3∧St 127 [(1,(nV most)),(2,(pV aA)),(7,(nV aD.1)),(8,(nV aD.2))] w0 (hp w0) [blk aA [nV e.op,nV e.n_,(tV e.name),v1] 86] a w) (λbG aO=>?_) ?_))))))))
    ·refine gsd 29 rfl (λaY=>?_) λaY=>?_
     ·refine gct rfl (gS (gJ hm (λaK=>[(1,(nV most)),(2,(pV aA)),(7,(nV 0)),(8,(nV 0)),(41,(.bool (aK)))]) (λaK=>[blk aA [nV e.op,nV e.n_,(tV e.name),v1] 86]) (λaK=>?_) ?_))
      ·refine gR (gF mB rfl (gL hm 0 isAgg9 rfl (gC hm rfl call55 (lS _ e.name (hm.now hG0)) λbH bJ w hm=>gN rfl (gM rfl (gsn 37 rfl (λaZ=>?_) λaZ=>?_)))))
       ·exact gO rfl (gO rfl (gO rfl (gKt rfl (gE (gz hm [0] rfl)))))
       exact gF mC rfl (gL hm 0 isAgg3 rfl (gB rfl (gKf rfl (gE (gz hm [0] rfl)))))
      repeat clear hm
      intro aK w hm
      refine gs 41 rfl (λa8=>?_) λa8=>?_
      ·exact gct rfl (gS (gR (gA rfl (gA rfl (gA rfl (gE (gRt (gEr aO (gEr aI (gEr aH (gr3 results135 rfl ⟨rfl,hm.below⟩)))))))))))
      exact gcf rfl (gSk (gZe λa hf=>⟨(by first | omega | (dsimp only;omega)),(by first | omega | (dsimp only;omega)),(by first | omega | (dsimp only;omega)),(by first | omega | (dsimp only;omega)),hf.sb rfl,hm.pk [0] rfl rfl⟩))
     refine gcf rfl (gS (gR (gF ik rfl (gL hm 0 isAgg3 rfl (gB rfl (gA rfl (gE (sn (λaE a w=>0≤aE.1∧aE.1≤2∧0≤aE.2∧aE.2≤3∧St 127 [(1,(nV most)),(2,(pV aA)),(7,(nV aE.1)),(8,(nV aE.2))] w0 (hp w0) [blk aA [nV e.op,nV e.n_,(tV e.name),v1] 86] a w) (λbK aQ=>?_) ?_))))))))
     ·refine gsd 42 rfl (λaa=>?_) λaa=>?_
      ·refine gct rfl (gS (gR (gA rfl (gE (gS (gJ hm (λaL=>[(1,(nV most)),(2,(pV aA)),(7,(nV 0)),(8,(nV 3)),(54,(.bool (aL)))]) (λaL=>[blk aA [nV e.op,nV e.n_,(tV e.name),v1] 86]) (λaL=>?_) ?_))))))
       ·refine gR (gF mB rfl (gL hm 0 isAgg9 rfl (gC hm rfl call55 (lS _ e.name (hm.now hG0)) λbL bM w hm=>gN rfl (gM rfl (gsn 50 rfl (λab=>?_) λab=>?_)))))
        ·exact gO rfl (gO rfl (gO rfl (gKt rfl (gE (gz hm [0] rfl)))))
        exact gF mC rfl (gL hm 0 isAgg3 rfl (gB rfl (gKf rfl (gE (gz hm [0] rfl)))))
       repeat clear hm
       intro aL w hm
       refine gs 54 rfl (λac=>?_) λac=>?_
       ·exact gct rfl (gS (gR (gA rfl (gA rfl (gA rfl (gE (gRt (gEr aQ (gEr aO (gEr aI (gEr aH (gr3 results135 rfl ⟨rfl,hm.below⟩))))))))))))
       exact gcf rfl (gSk (gZe λa hf=>⟨(by first | omega | (dsimp only;omega)),(by first | omega | (dsimp only;omega)),(by first | omega | (dsimp only;omega)),(by first | omega | (dsimp only;omega)),hf.sb rfl,hm.pk [0] rfl rfl⟩))
      refine gcf rfl (gS (gR ?_))
      obtain ⟨bN,ae,af⟩:=pY hG2 rfl
      refine gY (yl isAgg153 ((iK.mono hm.lez (ae)).cell (j:=0) rfl) rfl) (gF ik rfl (gL hm 0 isAgg3 rfl (gY (yG rfl (vg (key:=e.op) (m:=(fA:jm fO)) (z:=(⟨(mkS []),0⟩:fO)) (v2:=(.agg #[(tV (((jm.get fA e.op).getD (⟨(mkS []),0⟩:fO)).sign)),nV (((jm.get fA e.op).getD (⟨(mkS []),0⟩:fO)).level)])) underlying3 underlying153 zeroValue152 (hm.now af) rfl rfl rfl rfl rfl)) (gY (yG rfl (sD underlying152 rfl rfl isAgg3 rfl rfl rfl)) (gB rfl (gA rfl (gE (sn (λaF a w=>0≤aF.1∧aF.1≤2∧0≤aF.2∧aF.2≤2∧St 127 [(1,(nV most)),(2,(pV aA)),(7,(nV aF.1)),(8,(nV aF.2))] w0 (hp w0) [blk aA [nV e.op,nV e.n_,(tV e.name),v1] 86] a w) (λbO ag=>?_) ?_))))))))
      ·refine gsd 55 rfl (λah=>?_) λah=>?_
       ·exact gct rfl (gR (gA rfl (gA rfl (gE (gZe λa hf=>⟨(by first | omega | (dsimp only;omega)),(by first | omega | (dsimp only;omega)),(by first | omega | (dsimp only;omega)),(by first | omega | (dsimp only;omega)),hf.sb rfl,hm.pk [0] rfl rfl⟩)))))
       refine gcf rfl (gS (gJ hm (λaM=>[(1,(nV most)),(2,(pV aA)),(62,(.bool (aM)))]) (λaM=>[blk aA [nV e.op,nV e.n_,(tV e.name),v1] 86]) (λaM=>?_) ?_))
       ·refine gR (gF ik rfl (gL hm 0 isAgg3 rfl (gB rfl (gM rfl (gsd 66 rfl (λai=>?_) λai=>?_)))))
        ·exact gO rfl (gO rfl (gO rfl (gKt rfl (gA rfl (gE (gz hm [0] rfl))))))
        exact gF ik rfl (gL hm 0 isAgg3 rfl (gB rfl (gKf rfl (gA rfl (gE (gz hm [0] rfl))))))
       repeat clear hm
       intro aM w hm
       refine gs 62 rfl (λaj=>?_) λaj=>?_
       ·exact gct rfl (gR (gA rfl (gA rfl (gE (gZe λa hf=>⟨(by first | omega | (dsimp only;omega)),(by first | omega | (dsimp only;omega)),(by first | omega | (dsimp only;omega)),(by first | omega | (dsimp only;omega)),hf.sb rfl,hm.pk [0] rfl rfl⟩)))))
       exact gcf rfl (gS (gR (gA rfl (gA rfl (gA rfl (gE (gRt (gEr ag (gEr aQ (gEr aO (gEr aI (gEr aH (gr3 results135 rfl ⟨rfl,hm.below⟩)))))))))))))
      repeat clear hm
      rintro aF a w ⟨bP,bQ,bR,bS,hf,hm⟩
      exact gv hf (gZe λa hf=>⟨(by first | omega | (dsimp only;omega)),(by first | omega | (dsimp only;omega)),(by first | omega | (dsimp only;omega)),(by first | omega | (dsimp only;omega)),hf.sb rfl,hm.pk [0] rfl rfl⟩)
     repeat clear hm
     rintro aE a w ⟨bT,bU,bV,bW,hf,hm⟩
     exact gv hf (gZe λa hf=>⟨(by first | omega | (dsimp only;omega)),(by first | omega | (dsimp only;omega)),(by first | omega | (dsimp only;omega)),(by first | omega | (dsimp only;omega)),hf.sb rfl,hm.pk [0] rfl rfl⟩)
    repeat clear hm
    rintro aD a w ⟨bX,bY,bZ,b8,hf,hm⟩
    exact gv hf (gZe λa hf=>⟨(by first | omega | (dsimp only;omega)),(by first | omega | (dsimp only;omega)),(by first | omega | (dsimp only;omega)),(by first | omega | (dsimp only;omega)),hf.sb rfl,hm.pk [0] rfl rfl⟩)
   repeat clear hm
   rintro aC a w ⟨b9,ba,bb,bc,hf,hm⟩
   exact gv hf (gZe λa hf=>⟨(by first | omega | (dsimp only;omega)),(by first | omega | (dsimp only;omega)),(by first | omega | (dsimp only;omega)),(by first | omega | (dsimp only;omega)),hf.sb rfl,hm.pk [0] rfl rfl⟩)
  repeat clear hm
  rintro aB a w ⟨bd,be,bf,bg,hf,hm⟩
  refine gv hf (gS (gS (gJ hm (λaN=>[(1,(nV most)),(2,(pV aA)),(97,(.bool (aN)))]) (λaN=>[blk aA [nV e.op,nV e.n_,(tV e.name),v1] 86]) (λaN=>?_) ?_)))
  ·refine gR (gF ik rfl (gL hm 0 isAgg3 rfl (gC hm rfl call126 (ld _ e.op (hm.now hG2)) λbh bi w hm=>gB rfl (gM rfl (gsd 75 rfl (λak=>?_) λak=>?_)))))
   ·refine gF mC rfl (gL hm 0 isAgg3 rfl (gB rfl (gM rfl (gsd 79 rfl (λal=>?_) λal=>?_))))
    ·exact gO rfl (gO rfl (gO rfl (gKt rfl (gKt rfl (gM rfl (gO rfl (gO rfl (gO rfl (gO rfl (gO rfl (gO rfl (gO rfl (gKt rfl (gM rfl (gO rfl (gO rfl (gKt rfl (gE (gz hm [0] rfl)))))))))))))))))))
    refine gF mB rfl (gL hm 0 isAgg9 rfl (gY (yG rfl (oM (p:=e.name) (q:=(mkS [])) rfl rfl rfl)) (gKf rfl (gKt rfl (gM rfl (gsd 85 rfl (λam=>?_) λam=>?_))))))
    ·exact gO rfl (gO rfl (gO rfl (gO rfl (gO rfl (gO rfl (gO rfl (gKt rfl (gM rfl (gO rfl (gO rfl (gKt rfl (gE (gz hm [0] rfl)))))))))))))
    refine gF iT rfl (gL hm 0 isAgg69 rfl ?_)
    obtain ⟨bj,bk,rfl,bl⟩:=fE h1
    refine gY (yV iu rfl) (gM rfl (gM rfl (gC hm rfl call54 (mK _ (e.kids.length:Int) aB.1 aB.2) λbm bo w hm=>gN rfl (gKf rfl (gM rfl (gsn 94 rfl (λan=>?_) λan=>?_))))))
    ·exact gO rfl (gO rfl (gKt rfl (gE (gz hm [0] rfl))))
    exact gM rfl (gB rfl (gKf rfl (gE (gz hm [0] rfl))))
   refine gO rfl (gO rfl (gO rfl (gO rfl (gO rfl (gO rfl (gO rfl (gO rfl (gKf rfl (gM rfl (gF iT rfl (gL hm 0 isAgg69 rfl ?_)))))))))))
   obtain ⟨bp,bq,rfl,br⟩:=fE h1
   refine gY (yV iu rfl) (gM rfl (gM rfl (gC hm rfl call54 (mK _ (e.kids.length:Int) aB.1 aB.2) λbs bt w hm=>gN rfl (gKf rfl (gM rfl (gsn 94 rfl (λao=>?_) λao=>?_))))))
   ·exact gO rfl (gO rfl (gKt rfl (gE (gz hm [0] rfl))))
   exact gM rfl (gB rfl (gKf rfl (gE (gz hm [0] rfl))))
  repeat clear hm
  intro aN w hm
  refine gs 97 rfl (λaq=>?_) λaq=>?_
  ·exact gct rfl (gS (gR (gA rfl (gA rfl (gA rfl (gE (gRt (gr3 results135 rfl ⟨rfl,hm.below⟩))))))))
  refine gcf rfl (gSk (gS (gR (gA rfl (gA rfl (gE (gS (gS (gR (gF iT rfl (gL hm 0 isAgg69 rfl ?_)))))))))))
  obtain ⟨ar,au,rfl,bu⟩:=fE h1
  refine gY (yV iu rfl) (gM rfl (gE (gBk (gNg (λaR aG a w=>0≤aG.2∧St 127 [(1,(nV most)),(9,(nV aG.1)),(10,(nV aG.2)),(99,(.slice ar e.kids.length au)),(100,(nV ((e.kids.length:Int)))),(101,(nV aR))] w0 (hp w0) [] a w) (λa hf=>⟨(by first | omega | (dsimp only;omega)),hf.sb rfl,hm.pk [] rfl rfl⟩) ?_ ?_))))
  ·repeat clear hm
   rintro bv av aR aG a w ⟨bw,hf,hm⟩ bz cA cC aw
   refine gv hf (gS (gR (gB rfl (gE (gS (go _ 102 rfl (decide_eq_true (by omega)) (gct rfl (gSk (gS (gBk (gS (gR (gg λax ay aP=>?_)))))))))))))
   obtain ⟨cD,cE,cF,he⟩:=fp h1 aP
   obtain ⟨rfl,_,rfl⟩:=sl3 he
   obtain ⟨az,bA,aS⟩:=jE h1 aP
   refine gI iu ay (ff aP) rfl (gY (yn (bA.mono hm.lez) isAgg86 sizeOf86 rfl) (gAl hm zeroValue86 rfl λcG w hm=>gSN hm 0 sizeOf86 (et rfl (et rfl (et rfl (et (fS aS) fK)))) rfl λw hm=>gE (gS (gR (gY (yn (hm.blk_at 0 rfl) isAgg86 sizeOf86 rfl) (gM rfl (gB rfl (gC hm rfl call135 (impl_exprSize_rec _ ax az (hm.now aS) (w64 (most - 1)) (hm.now hG0) (hm.now hG2)) λaT cH w hm=>gM rfl (gX rfl (gX rfl (gX rfl (gA rfl (gA rfl (gA rfl (gE (gS (gS (gR (gM rfl (gN rfl (gE (gsn 114 rfl (λbB=>?_) λbB=>?_))))))))))))))))))))))
   ·exact gct rfl (gS (gR (gA rfl (gA rfl (gA rfl (gE (gRt (gLr aw av (gr3 results135 rfl ⟨rfl,hm.below⟩)))))))))
   refine gcf rfl (gSk (gS (gR (gM rfl (gM rfl (gB rfl (gA rfl (gE (gR (gM rfl (gM rfl (gB rfl (gY (yG rfl (bb9 rfl rfl rfl)) ?_)))))))))))))
   have cI:qV aG.2 (w64 (aT.2.1+1))=max aG.2 (w64 (aT.2.1+1)):=ay6 _ _
   exact gA rfl (gE (gR (gP (by omega) (by omega) rfl (gM rfl (gE (gZe λa hf=>⟨(by first | omega | (dsimp only;omega)),hf.sb rfl,hm.pk [] rfl rfl⟩))))))
  repeat clear hm
  rintro cJ cK a w ⟨cL,hf,hm⟩ cN cO
  exact gv hf (gS (gR (gB rfl (gE (gS (go _ 102 rfl (decide_eq_false (by omega)) (gcf rfl (gXt (gHh (gS (gR (gM rfl (gM rfl (gM rfl (gB rfl (gA rfl (gA rfl (gA rfl (gE (gRt (gr3 results135 rfl ⟨rfl,hm.below⟩)))))))))))))))))))))
theorem te (w0:World) (e:ey) (v1:Value) (h1:GT.rep (hp w0) [v1] e.kids) (most:Int) (hG0:GT.rep (hp w0) [.slice (some ⟨0,0,none⟩) 9 9] fP) (hG2:GT.rep (hp w0) [.slice (some ⟨2,0,none⟩) 1 1] [fA]) (r:Int × Int × Bool) (hq:j9 e most=some r):Con Tryz.prog 135 [(.agg #[nV e.op,nV e.n_,(tV e.name),v1]),nV most] w0 (λv w'=>v=(.tuple #[nV r.1,nV r.2.1,(.bool (r.2.2))])∧Below w0.heap.size w0 w'):=sa e most r hq w0 v1 h1 hG0 hG2
theorem ry (w0:World) (e:ey) (v1:Value) (h1:GT.rep (hp w0) [v1] e.kids) (hG0:GT.rep (hp w0) [.slice (some ⟨0,0,none⟩) 9 9] fP) (hG2:GT.rep (hp w0) [.slice (some ⟨2,0,none⟩) 1 1] [fA]) :
    iF Tryz.prog 116 [(.agg #[nV e.op,nV e.n_,(tV e.name),v1])] w0 (lM e) λr v w'=>v=(.bool (r))∧Below w0.heap.size w0 w':=by
  unfold lM
  refine iR func116 rfl λr=>?_
  have hm:=Mem.start w0
  exact gS (gR (gBx hm rfl λaA w hm=>gA rfl (gE (gS (gR (gY (yn (hm.blk_at 0 rfl) isAgg86 sizeOf86 rfl) (gC hm rfl call135 (te _ e v1 (hm.now h1) 6 (hm.now hG0) (hm.now hG2)) λaB aC w hm=>gM rfl (gX rfl (gX rfl (gX rfl (gA rfl (gA rfl (gA rfl (gE (gS (gR (gM rfl (gA rfl (gE (gRt (gr1 results116 rfl ⟨rfl,hm.below⟩)))))))))))))))))))))
theorem tM  : (∀ (list:List fB) (nest:Int) (r:Bool),jR list nest=some r→∀ (w0:World) (v1:Value) (h1:GT.rep (hp w0) [v1] list) (hG0:GT.rep (hp w0) [.slice (some ⟨0,0,none⟩) 9 9] fP) (hG2:GT.rep (hp w0) [.slice (some ⟨2,0,none⟩) 1 1] [fA]),Con Tryz.prog 58 [v1,nV nest] w0 (λv w'=>v=(.bool (r))∧Below w0.heap.size w0 w')) ∧
    (∀ (s_:fB) (c0_:Int) (r:Bool),nN s_ c0_=some r→∀ (w0:World) (v1:Value) (h1:GT.rep (hp w0) [v1] s_.args) (v2:Value) (h2:GT.rep (hp w0) [v2] s_.body) (v3:Value) (h3:GT.rep (hp w0) [v3] s_.else_) (bf0:Nat) (hbf0:w0.heap[bf0]?=some (.cells ([nV c0_]:List Value).toArray 3 (0,0))) (hG0:GT.rep (hp w0) [.slice (some ⟨0,0,none⟩) 9 9] fP) (hG2:GT.rep (hp w0) [.slice (some ⟨2,0,none⟩) 1 1] [fA]),Con Tryz.prog 93 [(.agg #[nV s_.op,(tV s_.name),v1,v2,v3]),(pV bf0)] w0 (λv w'=>v=(.bool (r))∧Below w0.heap.size w0 w')) ∧
    (∀ (s_:fB) (nest:Int) (r:Bool),nD s_ nest=some r→∀ (w0:World) (v1:Value) (h1:GT.rep (hp w0) [v1] s_.args) (v2:Value) (h2:GT.rep (hp w0) [v2] s_.body) (v3:Value) (h3:GT.rep (hp w0) [v3] s_.else_) (hG0:GT.rep (hp w0) [.slice (some ⟨0,0,none⟩) 9 9] fP) (hG2:GT.rep (hp w0) [.slice (some ⟨2,0,none⟩) 1 1] [fA]),Con Tryz.prog 94 [(.agg #[nV s_.op,(tV s_.name),v1,v2,v3]),nV nest] w0 (λv w'=>v=(.bool (r))∧Below w0.heap.size w0 w')):=by
  refine jR.mutual_partial_correctness  (motive_1:=λlist nest r=>∀ (w0:World) (v1:Value) (h1:GT.rep (hp w0) [v1] list) (hG0:GT.rep (hp w0) [.slice (some ⟨0,0,none⟩) 9 9] fP) (hG2:GT.rep (hp w0) [.slice (some ⟨2,0,none⟩) 1 1] [fA]),Con Tryz.prog 58 [v1,nV nest] w0 (λv w'=>v=(.bool (r))∧Below w0.heap.size w0 w')) (motive_2:=λs_ c0_ r=>∀ (w0:World) (v1:Value) (h1:GT.rep (hp w0) [v1] s_.args) (v2:Value) (h2:GT.rep (hp w0) [v2] s_.body) (v3:Value) (h3:GT.rep (hp w0) [v3] s_.else_) (bf0:Nat) (hbf0:w0.heap[bf0]?=some (.cells ([nV c0_]:List Value).toArray 3 (0,0))) (hG0:GT.rep (hp w0) [.slice (some ⟨0,0,none⟩) 9 9] fP) (hG2:GT.rep (hp w0) [.slice (some ⟨2,0,none⟩) 1 1] [fA]),Con Tryz.prog 93 [(.agg #[nV s_.op,(tV s_.name),v1,v2,v3]),(pV bf0)] w0 (λv w'=>v=(.bool (r))∧Below w0.heap.size w0 w')) (motive_3:=λs_ nest r=>∀ (w0:World) (v1:Value) (h1:GT.rep (hp w0) [v1] s_.args) (v2:Value) (h2:GT.rep (hp w0) [v2] s_.body) (v3:Value) (h3:GT.rep (hp w0) [v3] s_.else_) (hG0:GT.rep (hp w0) [.slice (some ⟨0,0,none⟩) 9 9] fP) (hG2:GT.rep (hp w0) [.slice (some ⟨2,0,none⟩) 1 1] [fA]),Con Tryz.prog 94 [(.agg #[nV s_.op,(tV s_.name),v1,v2,v3]),nV nest] w0 (λv w'=>v=(.bool (r))∧Below w0.heap.size w0 w')) ?_ ?_ ?_
  · intro rec_ ih_ list nest r hq w0 v1 h1 hG0 hG2
    have impl_blockOk_1_rec:∀ (w0:World) (s_:fB) (v1:Value) (h1:GT.rep (hp w0) [v1] s_.args) (v2:Value) (h2:GT.rep (hp w0) [v2] s_.body) (v3:Value) (h3:GT.rep (hp w0) [v3] s_.else_) (c0_:Int) (bf0:Nat) (hbf0:w0.heap[bf0]?=some (.cells ([nV c0_]:List Value).toArray 3 (0,0))) (hG0:GT.rep (hp w0) [.slice (some ⟨0,0,none⟩) 9 9] fP) (hG2:GT.rep (hp w0) [.slice (some ⟨2,0,none⟩) 1 1] [fA]) (r:Bool) (hq:rec_ s_ c0_=some r),Con Tryz.prog 93 [(.agg #[nV s_.op,(tV s_.name),v1,v2,v3]),(pV bf0)] w0 (λv w'=>v=(.bool (r))∧Below w0.heap.size w0 w'):=λw0 s_ v1 h1 v2 h2 v3 h3 c0_ bf0 hbf0 hG0 hG2 r hq=>ih_ s_ c0_ r hq w0 v1 h1 v2 h2 v3 h3 bf0 hbf0 hG0 hG2
    refine kI (ρ:=Bool) (R:=λr v w'=>v=(.bool (r))∧Below w0.heap.size w0 w') func58 rfl hq ?_
    have hm:=Mem.start w0
    exact gS (gR (gBx hm rfl λaA w hm=>gA rfl (gE (gS (gR (gM rfl (gY (yU rfl) (gC hm rfl call92 (lQ _ list v1 (hm.now h1) (λy0=>rec_ y0 nest) (.func (.func 93) #[] #[(pV aA)]) (λw y0 aZ a8 aa ab ac ae r hB hq=>⟨93,[(pV aA)],rfl,call93,impl_blockOk_1_rec w y0 aZ a8 aa ab ac ae nest aA (hm.blk_later 0 rfl hB) (sy (hm.now hG0) hB) (sy (hm.now hG2) hB) r hq⟩)) λaD aT w hm=>gN rfl (gA rfl (gE (gRt (gr1 results58 rfl ⟨rfl,hm.below⟩))))))))))))
  · intro rec_ ih_ s_ c0_ r hq w0 v1 h1 v2 h2 v3 h3 bf0 hbf0 hG0 hG2
    have impl_stmtOk_rec:∀ (w0:World) (s_:fB) (v1:Value) (h1:GT.rep (hp w0) [v1] s_.args) (v2:Value) (h2:GT.rep (hp w0) [v2] s_.body) (v3:Value) (h3:GT.rep (hp w0) [v3] s_.else_) (nest:Int) (hG0:GT.rep (hp w0) [.slice (some ⟨0,0,none⟩) 9 9] fP) (hG2:GT.rep (hp w0) [.slice (some ⟨2,0,none⟩) 1 1] [fA]) (r:Bool) (hq:rec_ s_ nest=some r),Con Tryz.prog 94 [(.agg #[nV s_.op,(tV s_.name),v1,v2,v3]),nV nest] w0 (λv w'=>v=(.bool (r))∧Below w0.heap.size w0 w'):=λw0 s_ v1 h1 v2 h2 v3 h3 nest hG0 hG2 r hq=>ih_ s_ nest r hq w0 v1 h1 v2 h2 v3 h3 hG0 hG2
    refine kI (ρ:=Bool) (R:=λr v w'=>v=(.bool (r))∧Below w0.heap.size w0 w') func93 rfl hq ?_
    have hm:=Mem.start w0
    exact gS (gR (gBx hm rfl λaA w hm=>gA rfl (gE (gS (gR (gY (yn (hm.blk_at 0 rfl) isAgg71 sizeOf71 rfl) (gY (yl isAgg3 (hm.old_cell hbf0 rfl) rfl) (gC hm rfl call94 (impl_stmtOk_rec _ s_ v1 (hm.now h1) v2 (hm.now h2) v3 (hm.now h3) c0_ (hm.now hG0) (hm.now hG2)) λaD aT w hm=>gN rfl (gA rfl (gE (gRt (gr1 results93 rfl ⟨rfl,hm.below⟩))))))))))))
  · intro rec_ ih_ s_ nest r hq w0 v1 h1 v2 h2 v3 h3 hG0 hG2
    have impl_blockOk_rec:∀ (w0:World) (list:List fB) (v1:Value) (h1:GT.rep (hp w0) [v1] list) (nest:Int) (hG0:GT.rep (hp w0) [.slice (some ⟨0,0,none⟩) 9 9] fP) (hG2:GT.rep (hp w0) [.slice (some ⟨2,0,none⟩) 1 1] [fA]) (r:Bool) (hq:rec_ list nest=some r),Con Tryz.prog 58 [v1,nV nest] w0 (λv w'=>v=(.bool (r))∧Below w0.heap.size w0 w'):=λw0 list v1 h1 nest hG0 hG2 r hq=>ih_ list nest r hq w0 v1 h1 hG0 hG2
    refine kI (ρ:=Bool) (R:=λr v w'=>v=(.bool (r))∧Below w0.heap.size w0 w') func94 rfl hq ?_
    have hm:=Mem.start w0
    refine gS (gR (gBx hm rfl λaA w hm=>gA rfl (gE (gS (gR (gF jY rfl (gL hm 0 isAgg3 rfl (gC hm rfl call115 (tR _ s_.op) λaD aT w hm=>gM rfl (gX rfl (gX rfl (gX rfl (gX rfl (gA rfl (gA rfl (gA rfl (gA rfl (gE (gS (gBk (gS (gS (gR (gM rfl (gB rfl (gA rfl (gE (gJ hm (λaE=>[(1,(nV nest)),(2,(pV aA)),(19,(.bool (aE)))]) (λaE=>[blk aA [nV s_.op,(tV s_.name),v1,v2,v3] 71]) (λaE=>?_) ?_)))))))))))))))))))))))))))
    ·refine gsd 19 rfl (λaf=>?_) λaf=>?_
     ·exact gct rfl (gSk (gz hm [0] rfl))
     refine gcf rfl (gS (gR (gF je rfl (gL hm 0 isAgg69 rfl ?_))))
     obtain ⟨aB,aC,rfl,bE⟩:=fE h1
     refine gY (yV iu rfl) (gM rfl (gB rfl (gA rfl (gE (gJ hm (λaF=>[(1,(nV nest)),(2,(pV aA)),(19,(.bool (aF)))]) (λaF=>[blk aA [nV s_.op,(tV s_.name),.slice aB s_.args.length aC,v2,v3] 71]) (λaF=>?_) ?_)))))
     ·refine gsd 19 rfl (λag=>?_) λag=>?_
      ·exact gct rfl (gSk (gz hm [0] rfl))
      refine gcf rfl (gS (gJ hm (λaG=>[(1,(nV nest)),(2,(pV aA)),(6,(.bool (aD.2.1))),(7,(.bool (aD.2.2.1))),(8,(.bool (aD.2.2.2))),(19,(.bool (aG)))]) (λaG=>[blk aA [nV s_.op,(tV s_.name),.slice aB s_.args.length aC,v2,v3] 71]) (λaG=>?_) ?_))
      ·refine gR (gM rfl (gM rfl (gs 28 rfl (λah=>?_) λah=>?_)))
       ·exact gF lL rfl (gL hm 0 isAgg9 rfl (gC hm rfl call55 (lS _ s_.name (hm.now hG0)) λbF bG w hm=>gN rfl (gKt rfl (gA rfl (gE (gz hm [0] rfl))))))
       exact gO rfl (gO rfl (gO rfl (gO rfl (gKf rfl (gA rfl (gE (gz hm [0] rfl)))))))
      repeat clear hm
      intro aG w hm
      refine gJ hm (λaH=>[(1,(nV nest)),(2,(pV aA)),(19,(.bool (aH)))]) (λaH=>[blk aA [nV s_.op,(tV s_.name),.slice aB s_.args.length aC,v2,v3] 71]) (λaH=>?_) ?_
      ·refine gs 19 rfl (λai=>?_) λai=>?_
       ·exact gct rfl (gSk (gz hm [0] rfl))
       refine gcf rfl (gS (gJ hm (λaI=>[(1,(nV nest)),(2,(pV aA)),(7,(.bool (aD.2.2.1))),(8,(.bool (aD.2.2.2))),(19,(.bool (aI)))]) (λaI=>[blk aA [nV s_.op,(tV s_.name),.slice aB s_.args.length aC,v2,v3] 71]) (λaI=>?_) ?_))
       ·refine gR (gM rfl (gN rfl (gM rfl (gsn 36 rfl (λaj=>?_) λaj=>?_))))
        ·exact gF lL rfl (gL hm 0 isAgg9 rfl (gY (yG rfl (oM (p:=s_.name) (q:=(mkS [])) rfl rfl rfl)) (gKt rfl (gA rfl (gE (gz hm [0] rfl))))))
        exact gO rfl (gO rfl (gO rfl (gKf rfl (gA rfl (gE (gz hm [0] rfl))))))
       repeat clear hm
       intro aI w hm
       refine gJ hm (λaJ=>[(1,(nV nest)),(2,(pV aA)),(19,(.bool (aJ)))]) (λaJ=>[blk aA [nV s_.op,(tV s_.name),.slice aB s_.args.length aC,v2,v3] 71]) (λaJ=>?_) ?_
       ·refine gs 19 rfl (λak=>?_) λak=>?_
        ·exact gct rfl (gSk (gz hm [0] rfl))
        refine gcf rfl (gS (gJ hm (λaK=>[(1,(nV nest)),(2,(pV aA)),(8,(.bool (aD.2.2.2))),(19,(.bool (aK)))]) (λaK=>[blk aA [nV s_.op,(tV s_.name),.slice aB s_.args.length aC,v2,v3] 71]) (λaK=>?_) ?_))
        ·refine gR (gM rfl (gN rfl (gM rfl (gsn 43 rfl (λal=>?_) λal=>?_))))
         ·refine gF lB rfl (gL hm 0 isAgg52 rfl ?_)
          obtain ⟨bH,bJ,rfl,bK⟩:=fE h2
          exact gY (yV jN rfl) (gB rfl (gKt rfl (gA rfl (gE (gz hm [0] rfl)))))
         exact gO rfl (gO rfl (gO rfl (gO rfl (gKf rfl (gA rfl (gE (gz hm [0] rfl)))))))
        repeat clear hm
        intro aK w hm
        refine gJ hm (λaL=>[(1,(nV nest)),(2,(pV aA)),(19,(.bool (aL)))]) (λaL=>[blk aA [nV s_.op,(tV s_.name),.slice aB s_.args.length aC,v2,v3] 71]) (λaL=>?_) ?_
        ·refine gs 19 rfl (λam=>?_) λam=>?_
         ·exact gct rfl (gSk (gz hm [0] rfl))
         refine gcf rfl (gS (gJ hm (λaM=>[(1,(nV nest)),(2,(pV aA)),(19,(.bool (aM)))]) (λaM=>[blk aA [nV s_.op,(tV s_.name),.slice aB s_.args.length aC,v2,v3] 71]) (λaM=>?_) ?_))
         ·refine gR (gM rfl (gN rfl (gM rfl (gsn 51 rfl (λan=>?_) λan=>?_))))
          ·refine gF lH rfl (gL hm 0 isAgg52 rfl ?_)
           obtain ⟨bL,bM,rfl,bN⟩:=fE h3
           exact gY (yV jN rfl) (gB rfl (gKt rfl (gA rfl (gE (gz hm [0] rfl)))))
          exact gO rfl (gO rfl (gO rfl (gO rfl (gKf rfl (gA rfl (gE (gz hm [0] rfl)))))))
         repeat clear hm
         intro aM w hm
         refine gJ hm (λaN=>[(1,(nV nest)),(2,(pV aA)),(19,(.bool (aN)))]) (λaN=>[blk aA [nV s_.op,(tV s_.name),.slice aB s_.args.length aC,v2,v3] 71]) (λaN=>?_) ?_
         ·refine gs 19 rfl (λao=>?_) λao=>?_
          ·exact gct rfl (gSk (gz hm [0] rfl))
          refine gcf rfl (gJ hm (λaO=>[(1,(nV nest)),(2,(pV aA)),(19,(.bool (aO)))]) (λaO=>[blk aA [nV s_.op,(tV s_.name),.slice aB s_.args.length aC,v2,v3] 71]) (λaO=>?_) ?_)
          ·refine gR (gF jY rfl (gL hm 0 isAgg3 rfl (gB rfl (gM rfl (gsd 60 rfl (λaq=>?_) λaq=>?_)))))
           ·refine gF je rfl (gL hm 0 isAgg69 rfl (gg λbO ar aQ=>?_))
            obtain ⟨bP,bQ,bR,he⟩:=fp h1 aQ
            obtain ⟨rfl,_,rfl⟩:=sl3 he
            obtain ⟨bS,au,bT⟩:=jE h1 aQ
            exact gI iu ar (ff aQ) rfl (gF ik rfl (gY (yl isAgg3 ((au.mono hm.lez).cell (j:=0) rfl) rfl) (gB rfl (gKt rfl (gA rfl (gE (gz hm [0] rfl)))))))
           exact gO rfl (gO rfl (gO rfl (gO rfl (gO rfl (gO rfl (gKf rfl (gA rfl (gE (gz hm [0] rfl)))))))))
          repeat clear hm
          intro aO w hm
          exact gz hm [0] rfl
         repeat clear hm
         intro aN w hm
         exact gz hm [0] rfl
        repeat clear hm
        intro aL w hm
        exact gz hm [0] rfl
       repeat clear hm
       intro aJ w hm
       exact gz hm [0] rfl
      repeat clear hm
      intro aH w hm
      exact gz hm [0] rfl
     repeat clear hm
     intro aF w hm
     exact gz hm [0] rfl
    repeat clear hm
    intro aE w hm
    refine gs 19 rfl (λav=>?_) λav=>?_
    ·exact gct rfl (gS (gR (gA rfl (gE (gRt (gr1 results94 rfl ⟨rfl,hm.below⟩))))))
    refine gcf rfl (gSk (gS (gS (gR (gF je rfl (gL hm 0 isAgg69 rfl ?_))))))
    obtain ⟨aU,aV,rfl,bU⟩:=fE h1
    refine gY (yV iu rfl) (gM rfl (gE (gBk (gNf hm (λaR aX=>[(1,(nV nest)),(2,(pV aA)),(69,(.slice aU s_.args.length aV)),(70,(nV ((s_.args.length:Int)))),(71,(nV aR))]) (λaR aX=>[blk aA [nV s_.op,(tV s_.name),.slice aU s_.args.length aV,v2,v3] 71]) [0] rfl ?_ ?_))))
    ·repeat clear hm
     intro bV aw aR aX w hm bW bX bY ax
     refine gS (gR (gB rfl (gE (gS (go _ 72 rfl (decide_eq_true (by omega)) (gct rfl (gSk (gS (gBk (gS (gR (gg λay az aS=>?_))))))))))))
     obtain ⟨bZ,b8,b9,he⟩:=fp h1 aS
     obtain ⟨rfl,_,rfl⟩:=sl3 he
     obtain ⟨bA,bB,aY⟩:=jE h1 aS
     refine gI iu az (ff aS) rfl (gY (yn (bB.mono hm.lez) isAgg86 sizeOf86 rfl) (gAl hm zeroValue86 rfl λba w hm=>gSN hm 0 sizeOf86 (et rfl (et rfl (et rfl (et (fS aY) fK)))) rfl λw hm=>gE (gS (gR (gY (yn (hm.blk_at 0 rfl) isAgg86 sizeOf86 rfl) (gC hm rfl call116 (ry _ ay bA (hm.now aY) (hm.now hG0) (hm.now hG2)) λbb bc w hm=>gN rfl (gE (gsn 77 rfl (λbC=>?_) λbC=>?_))))))))
     ·exact gct rfl (gS (gR (gA rfl (gE (gRt (gLr ax aw (gr1 results94 rfl ⟨rfl,hm.below⟩)))))))
     exact gcf rfl (gSk (gR (gP (by omega) (by omega) rfl (gM rfl (gE (gze hm [1] rfl))))))
    repeat clear hm
    intro bd be w hm bf bg
    refine gS (gR (gB rfl (gE (gS (go _ 72 rfl (decide_eq_false (by omega)) (gcf rfl (gXt (gHh (gS (gJ hm (λaP=>[(4,(.bool (aP)))]) (λaP=>[]) (λaP=>?_) ?_))))))))))
    ·refine gR (gF lB rfl (gL hm 0 isAgg52 rfl (gM rfl (gB rfl (gC hm rfl call58 (impl_blockOk_rec _ s_.body v2 (hm.now h2) (w64 (nest+1)) (hm.now hG0) (hm.now hG2)) λbh bi w hm=>gM rfl (gs 84 rfl (λbD=>?_) λbD=>?_))))))
     ·exact gF lH rfl (gL hm 0 isAgg52 rfl (gM rfl (gB rfl (gC hm rfl call58 (impl_blockOk_rec _ s_.else_ v3 (hm.now h3) (w64 (nest+1)) (hm.now hG0) (hm.now hG2)) λbj bk w hm=>gKt rfl (gA rfl (gE (gz hm [] rfl)))))))
     exact gO rfl (gO rfl (gO rfl (gO rfl (gO rfl (gKf rfl (gA rfl (gE (gz hm [] rfl))))))))
    repeat clear hm
    intro aP w hm
    exact gRt (gr1 results94 rfl ⟨rfl,hm.below⟩)
theorem ug (w0:World) (list:List fB) (v1:Value) (h1:GT.rep (hp w0) [v1] list) (nest:Int) (hG0:GT.rep (hp w0) [.slice (some ⟨0,0,none⟩) 9 9] fP) (hG2:GT.rep (hp w0) [.slice (some ⟨2,0,none⟩) 1 1] [fA]) (r:Bool) (hq:jR list nest=some r):Con Tryz.prog 58 [v1,nV nest] w0 (λv w'=>v=(.bool (r))∧Below w0.heap.size w0 w'):=(tM ).1 list nest r hq w0 v1 h1 hG0 hG2
theorem sQ (w0:World) (hz:fU) (p0:fB) (v1:Value) (h1:GT.rep hz [v1] p0.args) (v2:Value) (h2:GT.rep hz [v2] p0.body) (v3:Value) (h3:GT.rep hz [v3] p0.else_) (nest:Int) (c0_:Int) (bpc0:Nat) (c1_:Int) (bpc1:Nat) (hm0:Mem w0 hz w0 [blk bpc0 [nV c0_] 3,blk bpc1 [nV c1_] 3]) :
    iF Tryz.prog 80 [(.agg #[nV p0.op,(tV p0.name),v1,v2,v3]),nV nest,(pV bpc0),(pV bpc1)] w0 (qf p0 nest c0_ c1_) λr v w'=>v=(.tuple #[])∧Mem w0 hz w' [blk bpc0 [nV r.1] 3,blk bpc1 [nV r.2] 3]:=by
  unfold qf
  refine iR func80 rfl λr=>?_
  have hm:=hm0
  exact gS (gR (gBx hm rfl λaA w hm=>gE (gS (gR (gL hm 1 isAgg3 rfl (gB rfl (gS1 hm 1 sizeOf3 rfl rfl λw hm=>gE (gR (gL hm 2 isAgg3 rfl (gM rfl (gY (yG rfl (bb9 rfl rfl rfl)) (gS1 hm 2 sizeOf3 rfl rfl λw hm=>gE (gre results80 ⟨rfl,hm.pk [1,2] rfl rfl⟩)))))))))))))
theorem wi:∀ (list:List fB) (nest:Int) (s0 r:Int × Int),km list nest s0=some r→∀ (w0:World) (hz:fU) (v1:Value) (h1:GT.rep hz [v1] list) (bpc0 bpc1:Nat) (hm0:Mem w0 hz w0 [blk bpc0 [nV s0.1] 3,blk bpc1 [nV s0.2] 3]),Con Tryz.prog 79 [v1,nV nest,.func (.func 80) #[] #[(pV bpc0),(pV bpc1)]] w0 (λv w'=>v=(.tuple #[])∧Mem w0 hz w' [blk bpc0 [nV r.1] 3,blk bpc1 [nV r.2] 3]):=by
  refine km.partial_correctness (motive:=λlist nest s0 r=>∀ (w0:World) (hz:fU) (v1:Value) (h1:GT.rep hz [v1] list) (bpc0 bpc1:Nat) (hm0:Mem w0 hz w0 [blk bpc0 [nV s0.1] 3,blk bpc1 [nV s0.2] 3]),Con Tryz.prog 79 [v1,nV nest,.func (.func 80) #[] #[(pV bpc0),(pV bpc1)]] w0 (λv w'=>v=(.tuple #[])∧Mem w0 hz w' [blk bpc0 [nV r.1] 3,blk bpc1 [nV r.2] 3])) ?_
  intro rec_ ih_ list nest s0 r hq w0 hz v1 h1 bpc0 bpc1 hm0
  refine kI (ρ:=Int × Int) (R:=λr v w'=>v=(.tuple #[])∧Mem w0 hz w' [blk bpc0 [nV r.1] 3,blk bpc1 [nV r.2] 3]) func79 rfl hq ?_
  have hm:=hm0
  refine gS (gR (gM rfl ?_))
  obtain ⟨aL,aM,rfl,aU⟩:=fE h1
  refine gY (yV jN rfl) (gM rfl (gE (gBk (gNf hm (λaB aA=>[(1,(nV nest)),(2,.func (.func 80) #[] #[(pV bpc0),(pV bpc1)]),(8,(.slice aL list.length aM)),(9,(nV ((list.length:Int)))),(10,(nV aB))]) (λaB aA=>[blk bpc0 [nV aA.1] 3,blk bpc1 [nV aA.2] 3]) [0,1] rfl ?_ ?_))))
  ·repeat clear hm
   intro _ _ aB aA w hm aV aX aY _
   refine gS (gR (gB rfl (gE (gS (go _ 11 rfl (decide_eq_true (by omega)) (gct rfl (gSk (gS (gBk (gS (gR (gg λaN aO aC=>?_))))))))))))
   obtain ⟨aZ,a8,aa,he⟩:=fp h1 aC
   obtain ⟨rfl,_,rfl⟩:=sl3 he
   obtain ⟨aP,aF,aG,aQ,aH,aD,aE⟩:=lJ h1 aC
   refine gI jN aO (ff aC) rfl (gY (yn (aQ.mono hm.lez) isAgg71 sizeOf71 rfl) (gAl hm zeroValue71 rfl λab w hm=>gSN hm 0 sizeOf71 (et rfl (et rfl (et (fS aH) (et (fS aD) (et (fS aE) fK))))) rfl λw hm=>gE (gS (gR (gM rfl (gY (yn (hm.blk_at 0 rfl) isAgg71 sizeOf71 rfl) (gM rfl ?_)))))))
   obtain ⟨aR,hle1,hm1,hsub,aI⟩:=hm.take2 (L1:=[_,_]) (L2:=[_]) [1,2] [0] (by decide) rfl rfl
   refine gf rfl (λa hf=>py hf rfl rfl rfl ⟨80,[(pV bpc0),(pV bpc1)],rfl,call80,sQ _ aR aN aP (GT.mono hle1 aH) aF (GT.mono hle1 aD) aG (GT.mono hle1 aE) nest aA.1 bpc0 aA.2 bpc1 hm1 _ rfl⟩) ?_
   rintro ac w ⟨rfl,hB⟩
   replace hm:=aI _ _ hB;clear hB aI hsub hm1
   refine gE (gS (gR (gF lB rfl (gL hm 2 isAgg52 rfl (gM rfl (gB rfl (gM rfl ?_)))))))
   obtain ⟨aS,hle2,hm1,hsub,aJ⟩:=hm.take2 (L1:=[_,_]) (L2:=[_]) [0,1] [2] (by decide) rfl rfl
   refine gCg rfl call79 (λr hq=>ih_ _ _ _ r hq _ aS aF (GT.mono hle2 aD) bpc0 bpc1 hm1) ?_
   rintro ae af ag w ⟨rfl,hB⟩
   replace hm:=aJ _ _ hB;clear hB aJ hsub hm1
   refine gE (gR (gF lH rfl (gL hm 2 isAgg52 rfl (gM rfl (gB rfl (gM rfl ?_))))))
   obtain ⟨aT,hle3,hm1,hsub,aK⟩:=hm.take2 (L1:=[_,_]) (L2:=[_]) [0,1] [2] (by decide) rfl rfl
   refine gCg rfl call79 (λr hq=>ih_ _ _ _ r hq _ aT aG (GT.mono hle3 aE) bpc0 bpc1 hm1) ?_
   rintro ah ai aj w ⟨rfl,hB⟩
   replace hm:=aK _ _ hB;clear hB aK hsub hm1
   exact gE (gR (gP (by omega) (by omega) rfl (gM rfl (gE (gze hm [0,1] rfl)))))
  repeat clear hm
  intro ak al w hm am an
  exact gS (gR (gB rfl (gE (gS (go _ 11 rfl (decide_eq_false (by omega)) (gcf rfl (gXt (gHh (gre results79 ⟨rfl,hm⟩)))))))))
theorem wx (w0:World) (hz:fU) (list:List fB) (v1:Value) (h1:GT.rep hz [v1] list) (nest:Int) (c0:Int) (bpc0:Nat) (c1:Int) (bpc1:Nat) (hm0:Mem w0 hz w0 [blk bpc0 [nV c0] 3,blk bpc1 [nV c1] 3]) (r:Int × Int) (hq:km list nest (c0,c1)=some r) :
    Con Tryz.prog 79 [v1,nV nest,.func (.func 80) #[] #[(pV bpc0),(pV bpc1)]] w0 (λv w'=>v=(.tuple #[])∧Mem w0 hz w' [blk bpc0 [nV r.1] 3,blk bpc1 [nV r.2] 3]):=wi list nest (c0,c1) r hq w0 hz v1 h1 bpc0 bpc1 hm0
theorem qR (w0:World) (p_:fZ) (v1:Value) (h1:GT.rep (hp w0) [v1] p_.fns) :
    iF Tryz.prog 43 [(.agg #[v1])] w0 (mU p_) λr v w'=>v=(.tuple #[nV r.1,nV r.2])∧Below w0.heap.size w0 w':=by
  unfold mU
  refine iR func43 rfl λr=>?_
  have hm:=Mem.start w0
  refine gS (gR (gBx hm rfl λaR w hm=>gAl hm zeroValue3 rfl λaB w hm=>gAl hm zeroValue3 rfl λaC w hm=>gE (gS (gS (gR (gF im rfl (gL hm 2 isAgg24 rfl ?_)))))))
  obtain ⟨aI,aJ,rfl,aS⟩:=fE h1
  refine gY (yV jW rfl) (gM rfl (gE (gBk (gNf hm (λaD aA=>[(2,(pV aB)),(3,(pV aC)),(7,(.slice aI p_.fns.length aJ)),(8,(nV ((p_.fns.length:Int)))),(9,(nV aD))]) (λaD aA=>[blk aB [nV aA.1] 3,blk aC [nV aA.2] 3]) [1,0] rfl ?_ ?_))))
  ·repeat clear hm
   intro _ _ aD aA w hm aT aU aV _
   refine gS (gR (gB rfl (gE (gS (go _ 10 rfl (decide_eq_true (by omega)) (gct rfl (gSk (gS (gBk (gS (gR (gg λaK aL aE=>?_))))))))))))
   obtain ⟨aX,aY,aZ,he⟩:=fp h1 aE
   obtain ⟨rfl,_,rfl⟩:=sl3 he
   obtain ⟨a8,aM,aN,aO,aG⟩:=oK h1 aE
   refine gI jW aL (ff aE) rfl (gY (yn (aN.mono hm.lez) isAgg54 sizeOf54 rfl) (gAl hm zeroValue54 rfl λaa w hm=>gSN hm 0 sizeOf54 (et rfl (et (fS aO) (et (fS aG) fK))) rfl λw hm=>gE (gR (gF l0 rfl (gL hm 0 isAgg52 rfl (gY (yU rfl) ?_))))))
   obtain ⟨aP,hle,hm1,hsub,aQ⟩:=hm.take2 (L1:=[_,_]) (L2:=[_]) [1,2] [0] (by decide) rfl rfl
   refine gCg rfl call79 (wx _ aP aK.body aM (GT.mono hle aG) 1 aA.1 aB aA.2 aC hm1) ?_
   rintro ab ac ae w ⟨rfl,hB⟩
   replace hm:=aQ _ _ hB;clear hB
   exact gE (gR (gP (by omega) (by omega) rfl (gM rfl (gE (gze hm [0,1] rfl)))))
  repeat clear hm
  intro af aH w hm ag ah
  refine gS (gR (gB rfl (gE (gS (go _ 10 rfl (decide_eq_false (by omega)) (gcf rfl (gXt (gHh (gS (gJ hm (λaF=>[(2,(pV aB)),(3,(pV aC))]) (λaF=>[blk aB [nV aH.1] 3,blk aC [nV aH.2] 3]) (λaF=>?_) ?_))))))))))
  ·refine gW (.e 0 (.e 1 (.e 2 (.e 3 .fin .nil) .nil) (.e 2 (.e 1 (.e 3 .fin .nil) .nil) .nil)) (.e 1 (.e 0 (.e 2 (.e 3 .fin .nil) .nil) .nil) .nil)) [] [] hm [0, 1] [_, _] rfl mxo (by kernel_rfl) (fun _ _ _ h => h.2) fun w hm hS => tMo ?_ ?_
   ·refine tY rfl (yL hm 0 isAgg3 rfl) (tAn rfl (tMo ?_ ?_))
    ·refine tY rfl (yL hm 1 isAgg3 rfl) (tAn rfl (tO (tf0 rfl rfl (λa hf=>jw 0 hf hm rfl sizeOf3 rfl rfl rfl rfl rfl) ?_)))
     rintro _ w hm
     refine tAn rfl (tO (tf0 rfl rfl (λa hf=>jw 1 hf hm rfl sizeOf3 rfl rfl rfl rfl rfl) ?_))
     rintro _ w hm
     exact tAn rfl (tE (gz hm [0,1] rfl))
    refine tO (tf0 rfl rfl (λa hf=>jw 0 hf hm rfl sizeOf3 rfl rfl rfl rfl rfl) ?_)
    rintro _ w hm
    refine tAn rfl (tO (tY rfl (yL hm 1 isAgg3 rfl) (tAn rfl (tO (tf0 rfl rfl (λa hf=>jw 1 hf hm rfl sizeOf3 rfl rfl rfl rfl rfl) ?_)))))
    rintro _ w hm
    exact tAn rfl (tE (gz hm [0,1] rfl))
   refine tO (tY rfl (yL hm 1 isAgg3 rfl) (tAn rfl (tO (tY rfl (yL hm 0 isAgg3 rfl) (tAn rfl (tO (tf0 rfl rfl (λa hf=>jw 0 hf hm rfl sizeOf3 rfl rfl rfl rfl rfl) ?_)))))))
   rintro _ w hm
   refine tAn rfl (tO (tf0 rfl rfl (λa hf=>jw 1 hf hm rfl sizeOf3 rfl rfl rfl rfl rfl) ?_))
   rintro _ w hm
   exact tAn rfl (tE (gz hm [0,1] rfl))
  repeat clear hm
  intro aF w hm
  exact gRt (bi5 0 1 results43 hm rfl isAgg3 isAgg3 ⟨rfl,hm.below⟩)
theorem mG (w0:World) (p_:fZ) (v1:Value) (h1:GT.rep (hp w0) [v1] p_.fns) (hG0:GT.rep (hp w0) [.slice (some ⟨0,0,none⟩) 9 9] fP) (hG2:GT.rep (hp w0) [.slice (some ⟨2,0,none⟩) 1 1] [fA]) :
    iF Tryz.prog 22 [(.agg #[v1])] w0 (jx p_) λr v w'=>v=(.bool (r))∧Below w0.heap.size w0 w':=by
  unfold jx
  refine iR func22 rfl λr=>?_
  have hm:=Mem.start w0
  refine gS (gR (gBx hm rfl λaB w hm=>gA rfl (gE (gS (gS (gR (gF im rfl (gL hm 0 isAgg24 rfl ?_))))))))
  obtain ⟨aF,aA,rfl,aZ⟩:=fE h1
  refine gY (yV jW rfl) (gC hm rfl call54 (mK _ (p_.fns.length:Int) 1 4) λa8 aa w hm=>gN rfl (gE (gsn 11 rfl (λaM=>?_) λaM=>?_)))
  ·exact gct rfl (gS (gR (gA rfl (gE (gRt (gr1 results22 rfl ⟨rfl,hm.below⟩))))))
  refine gcf rfl (gSk (gS (gS (gR (gF im rfl (gL hm 0 isAgg24 rfl (gY (yV jW rfl) (gM rfl (gE (gBk (gNf hm (λaC aI=>[(1,(pV aB)),(13,(.slice aF p_.fns.length aA)),(14,(nV ((p_.fns.length:Int)))),(15,(nV aC))]) (λaC aI=>[blk aB [.slice aF p_.fns.length aA] 26]) [0] rfl ?_ ?_)))))))))))
  ·repeat clear hm
   intro ab aN aC aI w hm ac ae af aO
   refine gS (gR (gB rfl (gE (gS (go _ 16 rfl (decide_eq_true (by omega)) (gct rfl (gSk (gS (gBk (gS (gR (gg λaD aP aG=>?_))))))))))))
   obtain ⟨aJ,aK,ag,he⟩:=fp h1 aG
   obtain ⟨rfl,_,rfl⟩:=sl3 he
   obtain ⟨ah,aQ,aR,aH,aL⟩:=oK h1 aG
   refine gI jW aP (ff aG) rfl (gY (yn (aR.mono hm.lez) isAgg54 sizeOf54 rfl) (gAl hm zeroValue54 rfl λai w hm=>gSN hm 0 sizeOf54 (et rfl (et (fS aH) (et (fS aL) fK))) rfl λw hm=>gE (gS (gJ hm (λaE=>[(1,(pV aB)),(13,(sV aJ aK p_.fns.length aA)),(14,(nV ((p_.fns.length:Int)))),(15,(nV aC)),(39,(.bool (aE)))]) (λaE=>[blk aB [sV aJ aK p_.fns.length aA] 26]) (λaE=>?_) ?_))))
   ·refine gR (gF oT rfl (gL hm 0 isAgg9 rfl (gC hm rfl call55 (lS _ aD.name (hm.now hG0)) λaj ak w hm=>gN rfl (gM rfl (gsn 23 rfl (λaS=>?_) λaS=>?_)))))
    ·exact gO rfl (gO rfl (gO rfl (gO rfl (gKt rfl (gM rfl (gO rfl (gO rfl (gO rfl (gKt rfl (gM rfl (gO rfl (gO rfl (gO rfl (gO rfl (gKt rfl (gE (gz hm [1] rfl)))))))))))))))))
    refine gF kE rfl (gL hm 0 isAgg47 rfl ?_)
    obtain ⟨aT,aU,rfl,al⟩:=fE aH
    refine gY (yV jO rfl) (gB rfl (gKf rfl (gM rfl (gsd 29 rfl (λaV=>?_) λaV=>?_))))
    ·exact gO rfl (gO rfl (gO rfl (gKt rfl (gM rfl (gO rfl (gO rfl (gO rfl (gO rfl (gKt rfl (gE (gz hm [1] rfl)))))))))))
    refine gF kE rfl (gL hm 0 isAgg47 rfl (gC hm rfl call56 (mO _ aD.params (.slice aT aD.params.length aU) (hm.now aH) (λy0=>iq y0) (.func (.func 57) #[] #[]) (λw y0 r hB hq=>⟨57,[],rfl,call57,po w y0 (sy (hm.now hG0) hB) r hq⟩)) λam an w hm=>gKf rfl (gM rfl (gs 34 rfl (λaX=>?_) λaX=>?_))))
    ·exact gO rfl (gO rfl (gO rfl (gO rfl (gKt rfl (gE (gz hm [1] rfl))))))
    exact gF l0 rfl (gL hm 0 isAgg52 rfl (gC hm rfl call58 (ug _ aD.body aQ (hm.now aL) 1 (hm.now hG0) (hm.now hG2)) λao aq w hm=>gN rfl (gKf rfl (gE (gz hm [1] rfl)))))
   repeat clear hm
   intro aE w hm
   refine gs 39 rfl (λaY=>?_) λaY=>?_
   ·exact gct rfl (gS (gR (gA rfl (gE (gRt (gLr aO aN (gr1 results22 rfl ⟨rfl,hm.below⟩)))))))
   exact gcf rfl (gSk (gR (gP (by omega) (by omega) rfl (gM rfl (gE (gze hm [0] rfl))))))
  repeat clear hm
  intro ar au w hm av aw
  exact gS (gR (gB rfl (gE (gS (go _ 16 rfl (decide_eq_false (by omega)) (gcf rfl (gXt (gHh (gS (gR (gY (yn (hm.blk_at 0 rfl) isAgg26 sizeOf26 rfl) (gC hm rfl call43 (qR _ p_ (.slice aF p_.fns.length aA) (hm.now h1)) λax ay w hm=>gM rfl (gX rfl (gX rfl (gA rfl (gA rfl (gE (gS (gR (gM rfl (gB rfl (gA rfl (gE (gRt (gr1 results22 rfl ⟨rfl,hm.below⟩)))))))))))))))))))))))))
theorem mb (w0:World) (s_:Str) (hG0:GT.rep (hp w0) [.slice (some ⟨0,0,none⟩) 9 9] fP) (hG1:GT.rep (hp w0) [.slice (some ⟨1,0,none⟩) 1 1] [fj]) (hG2:GT.rep (hp w0) [.slice (some ⟨2,0,none⟩) 1 1] [fA]) :
    iF Tryz.prog 7 [(tV s_)] w0 (gu s_) λr v w'=>∃ (x1:Value),v=(.tuple #[(.agg #[x1]),(.bool (r.2))])∧Mem w0 (hp w0) w' [ow [x1] r.1.fns]:=by
  unfold gu
  refine iR func7 rfl λr=>?_
  have hm:=Mem.start w0
  refine gS (gR (gAl hm zeroValue26 rfl λaB w hm=>gA rfl (gE (gS (gR (gM rfl (gCg rfl call10 (ni _ s_ (hm.now hG0)) ?_)))))))
  rintro aI ag ah w ⟨ai,rfl,hB⟩
  replace hm:=hm.give hB;clear hB
  refine gM rfl (gX rfl (gX rfl (gA rfl (gA rfl (gE (gS (gR (gM rfl (gM rfl (gN rfl ?_))))))))))
  obtain ⟨aM,aN,rfl,aj⟩:=fE (hm.ow_rep 0 rfl)
  refine gY (yG rfl (fY (vs:=[(0,(.slice aM aI.1.length aN)),(1,(.bool (!(aI.2))))]) (cs:=#[.slice aM aI.1.length aN,(.bool (!(aI.2)))]) rfl rfl (by kernel_rfl))) (gBx hm rfl λaE w hm=>gA rfl (gE (gS (gR (gAl hm zeroValue26 rfl λaC w hm=>gE (gS (gJg (λaF a w=>∃ (aO aG:Value),St 49 [(2,(pV aB)),(6,(pV aE)),(7,(pV aC))] w0 (hp w0) [blk aB [.slice none 0 0] 26,blk aE [aO,(.bool (aF.2.1))] 51,ow [aO] aF.1,blk aC [aG] 26,ow [aG] aF.2.2] a w) (λaF=>?_) ?_)))))))
  ·refine gBk ?_
   replace hm:=hm.nilow (α:=Fn_)
   refine gMg (λaA a w=>∃ (aH aD:Value),St 49 [(2,(pV aB)),(6,(pV aE)),(7,(pV aC))] w0 (hp w0) [blk aB [.slice none 0 0] 26,blk aE [aH,(.bool (aA.2.1))] 51,ow [aH] aA.1,blk aC [aD] 26,ow [aD] aA.2.2] a w) (λa hf=>⟨.slice aM aI.1.length aN,.slice none 0 0,hf.sb rfl,hm.pk [4,2,3,1,0] rfl rfl⟩) ?_
   repeat clear hm
   rintro ak aR aA a w ⟨aH,aD,hf,hm⟩ al aS
   refine gv hf (gS (gS (gJ hm (λaJ=>[(2,(pV aB)),(6,(pV aE)),(7,(pV aC)),(30,(.bool (aJ)))]) (λaJ=>[blk aB [.slice none 0 0] 26,blk aE [aH,(.bool (aA.2.1))] 51,ow [aH] aA.1,blk aC [aD] 26,ow [aD] aA.2.2]) (λaJ=>?_) ?_)))
   ·refine gR (gM rfl (gY (yG rfl (fI rfl rfl)) (gF mu rfl (gL hm 1 isAgg4 rfl (gN rfl (gM rfl (gsn 23 rfl (λaT=>?_) λaT=>?_)))))))
    ·refine gM rfl (gY (yG rfl (fI rfl rfl)) (gF oR rfl (gL hm 1 isAgg30 rfl ?_)))
     obtain ⟨am,an,rfl,ao⟩:=fE (hm.ow_rep 2 rfl)
     exact gY (yV kq rfl) (gB rfl (gKt rfl (gE (gz hm [0,1,2,3,4] rfl))))
    exact gO rfl (gO rfl (gO rfl (gO rfl (gO rfl (gO rfl (gKf rfl (gE (gz hm [0,1,2,3,4] rfl))))))))
   repeat clear hm
   intro aJ w hm
   refine gs 30 rfl (λaU=>?_) λaU=>?_
   ·refine gct rfl (gSk (gBk (gW (.p 0 (.p 2 (.q 1 (.e 3 (.e 4 (.e 5 (.p 6 (.e 7 .fin .nil)) .nil) .nil) .nil)))) [3, 4] [0, 2, 6] hm [0, 3, 4] [blk aB [.slice none 0 0] 26, blk aC [aD] 26, ow [aD] aA.2.2] rfl mxo (by kernel_rfl) (fun _ _ _ h => h.2) fun w hm hS => tP rfl (fun w => yF im rfl) (tP rfl (fun w => yM rfl) (tQ rfl hS (fun w hm => yL hm 1 isAgg24 rfl) (tO (gb fun aK aV => ?_)))))))
    obtain ⟨aX,hle,hm1,hsub,aY⟩:=hm.take2 (L1:=[_,_]) (L2:=[_,_,_]) [1,2] [0,3,4] (by decide) rfl rfl
    refine tf rfl rfl (λa hf=>fo hf rfl call21 rfl (p8 _ aX (⟨aA.1,aA.2.1⟩:ez) aE aH hm1 (GT.mono hle hG1) (GT.mono hle hG2) _ aV)) ?_
    rintro aq w ⟨aP,aQ,aZ,rfl,hB⟩
    replace hm:=aY _ _ hB;clear hB
    refine tAk hm [4,5,6] rfl λhS=>tO (tf rfl rfl (λa hf=>fL (vs:=#[(0,(.agg #[(tV aK.1.name),aP,aQ]))]) (cs:=[(tV aK.1.name),aP,aQ]) jL hf hm rfl rfl (by kernel_rfl) rfl rfl) ?_)
    rintro _ w ⟨ar,rfl,hm⟩
    replace hm:=hm.els_nil (α:=Fn_)
    replace hm:=(nQ aK.1.name hm 3 4 rfl).pk (L':=[_,_,_,_,_,_,_,_]) [0,1,2,3,5,6,7,8] rfl rfl
    replace hm:=(hm.els_cons 0 3 (by decide) rfl rfl).pk (L':=[_,_,_,_,_,_,_]) [0,1,2,4,5,6,7] rfl rfl
    replace hm:=(hm.lit_els 1 0 (by decide) rfl rfl rfl rfl).pk (L':=[_,_,_,_,_,_]) [1,2,3,4,5,6] rfl rfl
    refine tAk hm [3,4,5] rfl λhS=>tO (gb λau a8=>?_)
    obtain ⟨aa,ab⟩:=fV.1 a8
    replace hm:=(hm.both 5 0 (by decide) rfl rfl).pk (L':=[_,_,_,_,_]) [1,2,3,4,5] rfl rfl
    refine tf rfl rfl (λa hf=>hZ (xs:=aA.2.2) (ys:=([aK.1]:List Fn_)) 4 jL hf hm rfl rfl rfl rfl aa) ?_
    rintro ac w hm
    rw [ab] at hm
    refine tAn rfl (tP rfl (λw=>yF im rfl) (tO (tf0 rfl rfl (λa hf=>jw 3 hf hm rfl sizeOf24 rfl rfl rfl (fS (hm.ow_rep 4 rfl)) rfl) ?_)))
    rintro _ w hm
    exact tAn rfl (tE (gZe λa hf=>⟨aZ,ac,hf.sb rfl,hm.pk [2,0,1,3,4] rfl rfl⟩))
   exact gcf rfl (gXt (gHh (gLp aS aR (gZ λa hf=>⟨aH,aD,hf.sb rfl,hm.pk [0,1,2,3,4] rfl rfl⟩))))
  repeat clear hm
  rintro aF a w ⟨aO,aG,hf,hm⟩
  refine gv hf (gS (gS (gJ hm (λaL=>[(2,(pV aB)),(7,(pV aC)),(46,(.bool (aL)))]) (λaL=>[blk aB [.slice none 0 0] 26,blk aC [aG] 26,ow [aG] aF.2.2]) (λaL=>?_) ?_)))
  ·refine gR (gM rfl (gY (yG rfl (fI rfl rfl)) (gF mu rfl (gL hm 1 isAgg4 rfl (gM rfl (gs 42 rfl (λae=>?_) λae=>?_))))))
   ·exact gO rfl (gO rfl (gO rfl (gKt rfl (gE (gz hm [0,3,4] rfl)))))
   exact gY (yn (hm.blk_at 3 rfl) isAgg26 sizeOf26 rfl) (gC hm rfl call22 (mG _ (⟨aF.2.2⟩:fZ) aG (hm.ow_rep 4 rfl) (hm.now hG0) (hm.now hG2)) λav aw w hm=>gN rfl (gKf rfl (gE (gz hm [0,3,4] rfl))))
  repeat clear hm
  intro aL w hm
  refine gs 46 rfl (λaf=>?_) λaf=>?_
  ·refine gct rfl (gS (gR (gY (yG rfl (fY (vs := []) (cs := #[.slice none 0 0]) rfl rfl (by kernel_rfl))) (gSN hm 0 sizeOf26 (et rfl fK) rfl fun w hm => gA rfl (gE (gRt ?_))))))
   replace hm:=hm.nilow (α:=Fn_)
   exact s8 1 results7 hm rfl isAgg26 sizeOf26 ⟨.slice none 0 0,rfl,hm.pk [0] rfl rfl⟩
  exact gcf rfl (gSk (gS (gR (gY (yn (hm.blk_at 1 rfl) isAgg26 sizeOf26 rfl) (gSN hm 0 sizeOf26 (et (fS (hm.ow_rep 2 rfl)) fK) rfl λw hm=>gA rfl (gE (gRt (s8 0 results7 hm rfl isAgg26 sizeOf26 ⟨aG,rfl,hm.pk [2] rfl rfl⟩))))))))
theorem qt (w0:World) (s_:Str) :
    iF Tryz.prog 61 [(tV s_)] w0 (kd s_) λr v w'=>v=(.agg #[nV r.kind,(tV r.text)])∧Below w0.heap.size w0 w':=by
  unfold kd
  refine iR func61 rfl λr=>?_
  have hm:=Mem.start w0
  refine gS (gR (gAl hm zeroValue36 rfl λaB w hm=>gE (gS (gR (gM rfl (gg λaC aD aE=>gY (yG rfl (jJ (p:=s_) underlying9 rfl rfl rfl aD aE)) (gC hm rfl call59 (lp _ aC) λaG aH w hm=>gA rfl (gE (gS (gS (gR (gM rfl (gC hm rfl call98 (pQ _ s_) λaI aJ w hm=>gE (gJ hm (λaA=>[(0,(tV s_)),(2,(pV aB)),(3,(nV aA))]) (λaA=>[blk aB [nV 0,(tV (mkS []))] 36]) (λaA=>?_) ?_))))))))))))))
  ·refine gs 8 rfl (λaF=>?_) λaF=>?_
   ·exact gct rfl (gR (gA rfl (gE (gz hm [0] rfl))))
   exact gcf rfl (gSk (gz hm [0] rfl))
  repeat clear hm
  intro aA w hm
  exact gS (gR (gM rfl (gM rfl (gY (yG rfl (fY (vs:=[(0,(nV aA)),(1,(tV s_))]) (cs:=#[nV aA,(tV s_)]) rfl rfl (by kernel_rfl))) (gSN hm 0 sizeOf36 (et rfl (et rfl fK)) rfl λw hm=>gE (gRt (grc 0 results61 hm rfl isAgg36 sizeOf36 ⟨rfl,hm.below⟩)))))))
theorem qZ (w0:World) (s_:Str) :
    iF Tryz.prog 97 [(tV s_)] w0 (nF s_) λr v w'=>v=(.tuple #[nV r.1,(.bool (r.2))])∧Below w0.heap.size w0 w':=by
  unfold nF
  refine iR func97 rfl λr=>?_
  have hm:=Mem.start w0
  refine gS (gR (gA rfl (gA rfl (gE (gS (gJ hm (λaB=>[(0,(tV s_)),(4,(.bool (aB)))]) (λaB=>[]) (λaB=>?_) ?_))))))
  ·refine gR (gM rfl (gY (yG rfl (iH (p:=s_) underlying9 rfl rfl)) ?_))
   have am:=(s_).h
   refine gB rfl (gM rfl (gsd 10 rfl (λaI=>?_) λaI=>?_))
   ·exact gM rfl (gg λaJ aK aL=>gY (yG rfl (jJ (p:=s_) underlying9 rfl rfl rfl aK aL)) (gY (yG rfl (qe (b:=aJ) (c:=(45:UInt8)) rfl rfl rfl)) (gKt rfl (gA rfl (gE (gz hm [] rfl))))))
   exact gO rfl (gO rfl (gO rfl (gKf rfl (gA rfl (gE (gz hm [] rfl))))))
  repeat clear hm
  intro aB w hm
  refine gS (gS (gR (gM rfl (gE (gJ hm (λaA=>[(0,(tV aA)),(4,(.bool (aB)))]) (λaA=>[]) (λaA=>?_) ?_)))))
  ·refine gs 15 rfl (λaM=>?_) λaM=>?_
   ·refine gct rfl (gR (gM rfl (gb λan aN=>?_)))
    obtain ⟨aO,aP⟩:=ky.1 aN
    refine gY (yG rfl (ae0 (s:=s_) underlying9 rfl rfl rfl aO _)) ?_
    rw [aP]
    exact gA rfl (gE (gz hm [] rfl))
   exact gcf rfl (gSk (gz hm [] rfl))
  repeat clear hm
  intro aA w hm
  refine gS (gS (gJ hm (λaC=>[(0,(tV aA)),(4,(.bool (aB))),(38,(.bool (aC)))]) (λaC=>[]) (λaC=>?_) ?_))
  ·refine gR (gM rfl (gY (yG rfl (iH (p:=aA) underlying9 rfl rfl)) ?_))
   have ao:=(aA).h
   refine gB rfl (gM rfl (gsd 21 rfl (λaQ=>?_) λaQ=>?_))
   ·exact gO rfl (gO rfl (gO rfl (gKt rfl (gM rfl (gO rfl (gO rfl (gO rfl (gO rfl (gO rfl (gO rfl (gO rfl (gO rfl (gO rfl (gO rfl (gO rfl (gKt rfl (gE (gz hm [] rfl))))))))))))))))))
   refine gM rfl (gY (yG rfl (iH (p:=aA) underlying9 rfl rfl)) (gB rfl (gKf rfl (gM rfl (gsd 26 rfl (λaR=>?_) λaR=>?_)))))
   ·exact gO rfl (gO rfl (gO rfl (gO rfl (gO rfl (gO rfl (gO rfl (gO rfl (gO rfl (gO rfl (gO rfl (gKt rfl (gE (gz hm [] rfl)))))))))))))
   refine gM rfl (gg λaS aT aU=>gY (yG rfl (jJ (p:=aA) underlying9 rfl rfl rfl aT aU)) (gY (yG rfl (qe (b:=aS) (c:=(48:UInt8)) rfl rfl rfl)) (gM rfl (gsd 30 rfl (λaV=>?_) λaV=>?_))))
   ·refine gM rfl (gY (yG rfl (iH (p:=aA) underlying9 rfl rfl)) (gB rfl (gM rfl (gsd 34 rfl (λaX=>?_) λaX=>?_))))
    ·exact gO rfl (gKt rfl (gKt rfl (gKf rfl (gE (gz hm [] rfl)))))
    exact gM rfl (gKf rfl (gKt rfl (gKf rfl (gE (gz hm [] rfl)))))
   exact gO rfl (gO rfl (gO rfl (gO rfl (gO rfl (gO rfl (gKf rfl (gKf rfl (gE (gz hm [] rfl)))))))))
  repeat clear hm
  intro aC w hm
  refine gs 38 rfl (λaY=>?_) λaY=>?_
  ·exact gct rfl (gS (gR (gA rfl (gA rfl (gE (gRt (gr2 results97 rfl ⟨rfl,hm.below⟩)))))))
  refine gcf rfl (gSk (gS (gR (gA rfl (gE (gS (gS (gR (gA rfl (gE (gBk (gNf hm (λaD aE=>[(0,(tV aA)),(4,(.bool (aB))),(5,(nV aE)),(6,(nV aD))]) (λaD aE=>[]) [] rfl ?_ ?_))))))))))))
  ·repeat clear hm
   intro aq aZ aD aE w hm ar au av a8
   refine gS (gS (gR (gM rfl (gM rfl (gY (yG rfl (iH (p:=aA) underlying9 rfl rfl)) ?_)))))
   have aw:=(aA).h
   refine gB rfl (gE (go _ 42 rfl (decide_eq_true (by omega)) (gct rfl (gSk (gS (gBk (gS (gS (gJ hm (λaF=>[(0,(tV aA)),(4,(.bool (aB))),(5,(nV aE)),(6,(nV aD)),(54,(.bool (aF)))]) (λaF=>[]) (λaF=>?_) ?_)))))))))
   ·refine gR (gM rfl (gM rfl (gg λaa ab ac=>gY (yG rfl (jJ (p:=aA) underlying9 rfl rfl rfl ab ac)) (gY (yG rfl (bh1 (b:=aa) (c:=(48:UInt8)) rfl rfl rfl)) (gM rfl (gsd 49 rfl (λae=>?_) λae=>?_))))))
    ·exact gO rfl (gO rfl (gO rfl (gO rfl (gKt rfl (gE (gz hm [] rfl))))))
    exact gM rfl (gM rfl (gg λaf ag ah=>gY (yG rfl (jJ (p:=aA) underlying9 rfl rfl rfl ag ah)) (gY (yG rfl (bc7 (b:=af) (c:=(57:UInt8)) rfl rfl rfl)) (gKf rfl (gE (gz hm [] rfl))))))
   repeat clear hm
   intro aF w hm
   refine gs 54 rfl (λai=>?_) λai=>?_
   ·exact gct rfl (gS (gR (gA rfl (gA rfl (gE (gRt (gLr a8 aZ (gr2 results97 rfl ⟨rfl,hm.below⟩))))))))
   refine gcf rfl (gSk (gR (gM rfl (gB rfl (gM rfl (gM rfl (gg λaH aj ak=>gY (yG rfl (jJ (p:=aA) underlying9 rfl rfl rfl aj ak)) (gY (yG rfl (bf2 (b:=aH) (c:=(48:UInt8)) rfl rfl rfl)) (gY (yG rfl (sO (b:=(aH - (48:UInt8))) underlying5 underlying3 rfl rfl)) ?_)))))))))
   have ax:=UInt8.toNat_lt ((aH - (48:UInt8)))
   exact gB rfl (gA rfl (gE (gR (gM rfl (gP (by omega) (by omega) rfl (gA rfl (gE (gze hm [] rfl))))))))
  repeat clear hm
  intro ay az w hm bA bB
  refine gS (gS (gR (gM rfl (gM rfl (gY (yG rfl (iH (p:=aA) underlying9 rfl rfl)) ?_)))))
  have bC:=(aA).h
  refine gB rfl (gE (go _ 42 rfl (decide_eq_false (by omega)) (gcf rfl (gXt (gHh (gS (gS (gR (gM rfl (gE (gJ hm (λaG=>[(5,(nV aG))]) (λaG=>[]) (λaG=>?_) ?_)))))))))))
  ·refine gs 63 rfl (λal=>?_) λal=>?_
   ·exact gct rfl (gR (gM rfl (gY (yG rfl (bb0 rfl rfl)) (gA rfl (gE (gz hm [] rfl))))))
   exact gcf rfl (gSk (gz hm [] rfl))
  repeat clear hm
  intro aG w hm
  exact gS (gR (gM rfl (gA rfl (gA rfl (gE (gRt (gr2 results97 rfl ⟨rfl,hm.below⟩)))))))
theorem pI (w0:World) (w_:eu) :
    iF Tryz.prog 60 [(.agg #[nV w_.kind,(tV w_.text)])] w0 (kJ w_) λr v w'=>v=(.bool (r))∧Below w0.heap.size w0 w':=by
  unfold kJ
  refine iR func60 rfl λr=>?_
  have hm:=Mem.start w0
  refine gS (gR (gBx hm rfl λaM w hm=>gA rfl (gE (gS (gS (gR (gF mP rfl (gL hm 0 isAgg3 rfl (gE (gBk (gS (gR (gB rfl (gA rfl (gE (gsd 7 rfl (λaC=>?_) λaC=>?_))))))))))))))))
  ·exact gct rfl (gS (gR (gF jk rfl (gL hm 0 isAgg9 rfl (gC hm rfl call96 (mN _ w_.text) λaN aO w hm=>gA rfl (gE (gRt (gr1 results60 rfl ⟨rfl,hm.below⟩))))))))
  refine gcf rfl (gS (gR (gB rfl (gA rfl (gE (gsd 12 rfl (λaD=>?_) λaD=>?_))))))
  ·refine gct rfl (gS (gR (gF jk rfl (gL hm 0 isAgg9 rfl (gC hm rfl call97 (qZ _ w_.text) λaE aP w hm=>gM rfl (gX rfl (gX rfl (gA rfl (gA rfl (gE (gS (gJ hm (λaA=>[(2,(.bool (aA)))]) (λaA=>[]) (λaA=>?_) ?_))))))))))))
   ·refine gR (gM rfl (gM rfl (gs 21 rfl (λaF=>?_) λaF=>?_)))
    ·exact gM rfl (gC hm rfl call66 (lD _ aE.1 0 255) λaQ aR w hm=>gKt rfl (gA rfl (gE (gz hm [] rfl))))
    exact gO rfl (gO rfl (gKf rfl (gA rfl (gE (gz hm [] rfl)))))
   repeat clear hm
   intro aA w hm
   exact gRt (gr1 results60 rfl ⟨rfl,hm.below⟩)
  refine gcf rfl (gS (gR (gB rfl (gA rfl (gE (gsd 25 rfl (λaG=>?_) λaG=>?_))))))
  ·refine gct rfl (gS (gJ hm (λaB=>[(2,(.bool (aB)))]) (λaB=>[]) (λaB=>?_) ?_))
   ·refine gR (gF jk rfl (gL hm 0 isAgg9 rfl (gY (yG rfl (iH (p:=w_.text) underlying9 rfl rfl)) ?_)))
    have aS:=(w_.text).h
    refine gB rfl (gM rfl (gsd 31 rfl (λaH=>?_) λaH=>?_))
    ·exact gF jk rfl (gL hm 0 isAgg9 rfl (gg λaI aJ aK=>gY (yG rfl (jJ (p:=w_.text) underlying9 rfl rfl rfl aJ aK)) (gC hm rfl call59 (lp _ aI) λaT aU w hm=>gB rfl (gKt rfl (gA rfl (gE (gz hm [] rfl)))))))
    exact gO rfl (gO rfl (gO rfl (gO rfl (gO rfl (gKf rfl (gA rfl (gE (gz hm [] rfl))))))))
   repeat clear hm
   intro aB w hm
   exact gRt (gr1 results60 rfl ⟨rfl,hm.below⟩)
  refine gcf rfl (gS (gR (gB rfl (gA rfl (gE (gsd 38 rfl (λaL=>?_) λaL=>?_))))))
  ·exact gct rfl (gS (gR (gF jk rfl (gL hm 0 isAgg9 rfl (gC hm rfl call98 (pQ _ w_.text) λaV aX w hm=>gA rfl (gE (gRt (gr1 results60 rfl ⟨rfl,hm.below⟩))))))))
  exact gcf rfl (gSk (gS (gR (gA rfl (gE (gRt (gr1 results60 rfl ⟨rfl,hm.below⟩)))))))
theorem td (w0:World) (s_:Str) :
    iF Tryz.prog 23 [(tV s_)] w0 (mo s_) λr v w'=>∃ (x1:Value),v=(.tuple #[x1,(.bool (r.2))])∧Mem w0 (hp w0) w' [ow [x1] r.1]:=by
  unfold mo
  refine iR func23 rfl λr=>?_
  have hm:=Mem.start w0
  refine gS (gR (gA rfl (gA rfl (gE (gS (gR (gf rfl (λa hf=>ko (α:=eu) iY hm rfl) ?_)))))))
  rintro bH w hm
  refine gA rfl (gE (gS (gS (gR (gA rfl (gE ?_))))))
  obtain ⟨aS,aT,rfl,bJ⟩:=fE (hm.ow_rep 0 rfl)
  refine sn (λaN a w=>∃ (aD:Value),St 75 [(0,(tV s_)),(4,aD)] w0 (hp w0) [ow [aD] aN] a w) (λbK aU=>?_) ?_
  ·refine gBk (gMg (λaA a w=>∃ (aE:Value),St 75 [(0,(tV s_)),(4,aE),(5,(nV aA.2))] w0 (hp w0) [ow [aE] aA.1] a w) (λa hf=>⟨.slice aS ([]:List eu).length aT,hf.sb rfl,hm.pk [0] rfl rfl⟩) ?_)
   repeat clear hm
   rintro bL aP aA a w ⟨aE,hf,hm⟩ bM aQ
   refine gv hf (gS (gS (gJ hm (λaH=>[(0,(tV s_)),(4,aE),(5,(nV aA.2)),(17,(.bool (aH)))]) (λaH=>[ow [aE] aA.1]) (λaH=>?_) ?_)))
   ·refine gR (gM rfl (gM rfl (gY (yG rfl (iH (p:=s_) underlying9 rfl rfl)) ?_)))
    have bN:=(s_).h
    refine gB rfl (gM rfl (gsd 13 rfl (λaV=>?_) λaV=>?_))
    ·exact gM rfl (gY (yG rfl (iH (p:=s_) underlying9 rfl rfl)) (gB rfl (gKt rfl (gE (gz hm [0] rfl)))))
    exact gO rfl (gO rfl (gO rfl (gKf rfl (gE (gz hm [0] rfl)))))
   repeat clear hm
   intro aH w hm
   refine gs 17 rfl (λaX=>?_) λaX=>?_
   ·refine gct rfl (gSk (gBk (gS (gR (gM rfl (gM rfl (gg λaY aZ a8=>gY (yG rfl (jJ (p:=s_) underlying9 rfl rfl rfl aZ a8)) (gC hm rfl call59 (lp _ aY) λaO bO w hm=>gA rfl (gE (gS (gR (gM rfl (gB rfl (gA rfl (gE (gS ?_))))))))))))))))
    obtain ⟨aB,aC,rfl,bP⟩:=fE (hm.ow_rep 0 rfl)
    refine gJ hm (λaF=>[(0,(tV s_)),(4,(.slice aB aA.1.length aC)),(5,(nV aA.2)),(6,(nV aO)),(7,(nV aF))]) (λaF=>[ow [.slice aB aA.1.length aC] aA.1]) (λaF=>?_) ?_
    ·refine gBk (gMf hm (λaI=>[(0,(tV s_)),(4,(.slice aB aA.1.length aC)),(5,(nV aA.2)),(6,(nV aO)),(7,(nV aI))]) (λaI=>[ow [.slice aB aA.1.length aC] aA.1]) [0] rfl ?_)
     repeat clear hm
     intro bQ aa aI w hm bR ab
     refine gS (gS (gJ hm (λaJ=>[(0,(tV s_)),(4,(.slice aB aA.1.length aC)),(5,(nV aA.2)),(6,(nV aO)),(7,(nV aI)),(39,(.bool (aJ)))]) (λaJ=>[ow [.slice aB aA.1.length aC] aA.1]) (λaJ=>?_) ?_))
     ·refine gR (gM rfl (gM rfl (gY (yG rfl (iH (p:=s_) underlying9 rfl rfl)) ?_)))
      have bS:=(s_).h
      refine gB rfl (gM rfl (gsd 28 rfl (λac=>?_) λac=>?_))
      ·refine gM rfl (gM rfl (gg λae af ag=>gY (yG rfl (jJ (p:=s_) underlying9 rfl rfl rfl af ag)) (gC hm rfl call59 (lp _ ae) λbT bU w hm=>gM rfl (gB rfl (gKt rfl (gM rfl (gsd 36 rfl (λah=>?_) λah=>?_)))))))
       ·exact gM rfl (gB rfl (gKt rfl (gE (gz hm [0] rfl))))
       exact gO rfl (gO rfl (gKf rfl (gE (gz hm [0] rfl))))
      exact gO rfl (gO rfl (gO rfl (gO rfl (gO rfl (gO rfl (gKf rfl (gM rfl (gO rfl (gO rfl (gKf rfl (gE (gz hm [0] rfl))))))))))))
     repeat clear hm
     intro aJ w hm
     refine gs 39 rfl (λai=>?_) λai=>?_
     ·exact gct rfl (gSk (gBk (gR (gM rfl (gB rfl (gA rfl (gE (gze hm [0] rfl))))))))
     exact gcf rfl (gXt (gHh (gLp ab aa (gz hm [0] rfl))))
    repeat clear hm
    intro aF w hm
    refine gS (gS (gR (gM rfl (gB rfl (gE (sn (λaR a w=>∃ (aK:Value),St 75 [(0,(tV s_)),(4,aK),(7,(nV aF))] w0 (hp w0) [ow [aK] aR] a w) (λbV aj=>?_) ?_))))))
    ·refine gsd 43 rfl (λak=>?_) λak=>?_
     ·refine gct rfl (gS (gS (gJ hm (λaL=>[(0,(tV s_)),(4,(.slice aB aA.1.length aC)),(5,(nV aA.2)),(7,(nV aF)),(54,(.bool (aL)))]) (λaL=>[ow [.slice aB aA.1.length aC] aA.1]) (λaL=>?_) ?_)))
      ·refine gR (gM rfl (gB rfl (gM rfl (gsd 46 rfl (λal=>?_) λal=>?_))))
       ·exact gO rfl (gO rfl (gO rfl (gO rfl (gO rfl (gO rfl (gO rfl (gKt rfl (gE (gz hm [0] rfl)))))))))
       refine gM rfl (gM rfl (gM rfl (gb λam an=>?_)))
       obtain ⟨ao,aq⟩:=ky.1 an
       refine gY (yG rfl (vu (s:=s_) underlying9 rfl rfl rfl rfl ao _)) ?_
       rw [aq]
       exact gC hm rfl call61 (qt _ am) λar bW w hm=>gC hm rfl call60 (pI _ ar) λbX bY w hm=>gN rfl (gKf rfl (gE (gz hm [0] rfl)))
      repeat clear hm
      intro aL w hm
      refine gs 54 rfl (λau=>?_) λau=>?_
      ·refine gct rfl (gS (gR (gf rfl (λa hf=>ko (α:=eu) iY hm rfl) ?_)))
       rintro av w hm
       exact gA rfl (gA rfl (gE (gRt (gEr aj (gLp aQ aP (gl (gEr aU (gr2 results23 rfl ⟨av,rfl,hm.pk [0] rfl rfl⟩))))))))
      refine gcf rfl (gSk (gR (gM rfl (gM rfl (gM rfl (gM rfl (gb λaw ax=>?_)))))))
      obtain ⟨ay,az⟩:=ky.1 ax
      refine gY (yG rfl (vu (s:=s_) underlying9 rfl rfl rfl rfl ay _)) ?_
      rw [az]
      refine gC hm rfl call61 (qt _ aw) λaG bZ w hm=>gf rfl (λa hf=>fL (vs:=#[(0,(.agg #[nV aG.kind,(tV aG.text)]))]) (cs:=[nV aG.kind,(tV aG.text)]) iY hf hm rfl rfl (by kernel_rfl) rfl rfl) ?_
      rintro _ w ⟨b8,rfl,hm⟩
      replace hm:=hm.lit (xs:=([aG]:List eu)) 0 rfl rfl rfl rfl
      refine gb λb9 bA=>?_
      obtain ⟨bB,bC⟩:=fV.1 bA
      refine gf rfl (λa hf=>iL 1 iY hf hm rfl (hm.ow_rep 0 rfl) rfl rfl rfl bB) ?_
      rintro bD w hm
      rw [bC] at hm
      exact gA rfl (gE (gZe λa hf=>⟨bD,hf.sb rfl,hm.pk [1] rfl rfl⟩))
     exact gcf rfl (gSk (gZe λa hf=>⟨.slice aB aA.1.length aC,hf.sb rfl,hm.pk [0] rfl rfl⟩))
    repeat clear hm
    rintro aR a w ⟨aK,hf,hm⟩
    exact gv hf (gR (gM rfl (gA rfl (gE (gZe λa hf=>⟨aK,hf.sb rfl,hm.pk [0] rfl rfl⟩)))))
   exact gcf rfl (gXt (gHh (gLp aQ aP (gr (gZe λa hf=>⟨aE,hf.sb rfl,hm.pk [0] rfl rfl⟩)))))
  repeat clear hm
  rintro aN a w ⟨aD,hf,hm⟩
  refine gv hf (gS (gS (gJ hm (λaM=>[(4,aD),(72,(.bool (aM)))]) (λaM=>[ow [aD] aN]) (λaM=>?_) ?_)))
  ·refine gR (gM rfl (gY (yG rfl (iH (p:=s_) underlying9 rfl rfl)) ?_))
   have ba:=(s_).h
   refine gB rfl (gM rfl (gsd 68 rfl (λbE=>?_) λbE=>?_))
   ·exact gO rfl (gO rfl (gO rfl (gKt rfl (gE (gz hm [0] rfl)))))
   refine gM rfl ?_
   obtain ⟨bb,bc,rfl,bd⟩:=fE (hm.ow_rep 0 rfl)
   exact gY (yV kq rfl) (gB rfl (gKf rfl (gE (gz hm [0] rfl))))
  repeat clear hm
  intro aM w hm
  refine gs 72 rfl (λbF=>?_) λbF=>?_
  ·refine gct rfl (gS (gR (gf rfl (λa hf=>ko (α:=eu) iY hm rfl) ?_)))
   rintro bG w hm
   exact gA rfl (gA rfl (gE (gRt (gr2 results23 rfl ⟨bG,rfl,hm.pk [0] rfl rfl⟩))))
  exact gcf rfl (gSk (gS (gR (gM rfl (gA rfl (gA rfl (gE (gRt (gr2 results23 rfl ⟨aD,rfl,hm.pk [0] rfl rfl⟩)))))))))
theorem k9 (w0:World) (list:List eu) (v1:Value) (h1:GT.rep (hp w0) [v1] list) (at_:Int) (text:Str) :
    iF Tryz.prog 99 [v1,nV at_,(tV text)] w0 (iG list at_ text) λr v w'=>v=(.bool (r))∧Below w0.heap.size w0 w':=by
  unfold iG
  refine iR func99 rfl λr=>?_
  have hm:=Mem.start w0
  refine gS (gR (gA rfl (gE (gS (gJ hm (λaA=>[(6,(.bool (aA)))]) (λaA=>[]) (λaA=>?_) ?_)))))
  ·refine gR (gM rfl (gM rfl ?_))
   obtain ⟨aF,aG,rfl,aH⟩:=fE h1
   refine gY (yV kq rfl) (gB rfl (gM rfl (gsd 11 rfl (λaD=>?_) λaD=>?_)))
   ·refine gM rfl (gM rfl (gg λaB aE aC=>?_))
    obtain ⟨aI,aJ,aK,he⟩:=iS h1 aC
    obtain ⟨rfl,_,rfl⟩:=sl3 he
    exact gI kq aE (ff aC) rfl (gF jk rfl (gY (yl isAgg9 ((gK (cs:=[nV aB.kind,(tV aB.text)]) (hm.now h1) aC rfl).cell (j:=1) rfl) rfl) (gM rfl (gY (yG rfl (qm (p:=aB.text) (q:=text) rfl rfl rfl)) (gKt rfl (gA rfl (gE (gz hm [] rfl))))))))
   exact gO rfl (gO rfl (gO rfl (gO rfl (gO rfl (gO rfl (gO rfl (gKf rfl (gA rfl (gE (gz hm [] rfl))))))))))
  repeat clear hm
  intro aA w hm
  exact gRt (gr1 results99 rfl ⟨rfl,hm.below⟩)
theorem kp (w0:World) (r_:fF) (bp0:Nat) (v1p:Value) (h1p:GT.rep (hp w0) [v1p] r_.list) (hbbp0:(hp w0) bp0=some (.cells ([v1p,nV r_.at_]:List Value).toArray 59 (0,0))) (text:Str) :
    iF Tryz.prog 64 [(pV bp0),(tV text)] w0 (fy r_ text) λr v w'=>v=(.bool (r))∧Below w0.heap.size w0 w':=by
  unfold fy
  refine iR func64 rfl λr=>?_
  have hm:=Mem.start w0
  refine gS (gR (gA rfl (gE (gS (gJ hm (λaA=>[(4,(.bool (aA)))]) (λaA=>[]) (λaA=>?_) ?_)))))
  ·refine gW (.p 0 (.p 1 (.p 2 (.e 3 (.p 4 (.p 5 (.p 6 (.p 7 (.p 8 (.p 10 (.p 11 (.p 12 (.p 14 (.q 9 (.e 13 (.e 15 (.p 16 (.p 17 .fin)) .nil) .nil))))))))))) .nil)))) [13] [0, 1, 2, 4, 5, 6, 7, 8, 10, 11, 12, 14, 16, 17] hm [] [] rfl mxo (by kernel_rfl) (fun _ _ _ h => h.2) fun w hm hS => tP rfl (fun w => yM rfl) (tP rfl (fun w => yG rfl (fI rfl rfl)) (tP rfl (fun w => yF jg rfl) (tO (tY rfl (yl isAgg3 (hm.hz_cell hbbp0 rfl) rfl) (tAn rfl (tP rfl (fun w => yB rfl) (tP rfl (fun w => yM rfl) (gsd 10 rfl (fun aB => ?_) fun aB => ?_))))))))
   ·refine tP rfl (λw=>yM rfl) (tP rfl (λw=>yG rfl (fI rfl rfl)) (tP rfl (λw=>yF qF rfl) (tP rfl (λw=>yM rfl) (tP rfl (λw=>yG rfl (fI rfl rfl)) (tP rfl (λw=>yF jg rfl) (tP rfl (λw=>yM rfl) (tQ rfl hS (λw hm=>yl isAgg30 (hm.hz_cell hbbp0 rfl) rfl) (tO (tY rfl (yl isAgg3 (hm.hz_cell hbbp0 rfl) rfl) (tAs hS (tO (gb λaD aC=>tf rfl rfl (λa hf=>fo hf rfl call99 rfl (k9 _ r_.list v1p (hm.now h1p) r_.at_ text _ aC)) ?_))))))))))))
    rintro aE w ⟨rfl,hB⟩
    replace hm:=hm.below' hB;clear hB
    exact tAn rfl (tP rfl (λw=>yKt rfl) (tP rfl (λw=>yA rfl) (tE (gz hm [] rfl))))
   exact tPo rfl rfl (tPo rfl rfl (tPo rfl rfl (tPo rfl rfl (tPo rfl rfl (tPo rfl rfl (tPo rfl rfl (tQo rfl hS rfl (tO (tEo rfl rfl (tAs hS (tO (tEo rfl rfl (tAn rfl (tP rfl (λw=>yKf rfl) (tP rfl (λw=>yA rfl) (tE (gz hm [] rfl)))))))))))))))))
  repeat clear hm
  intro aA w hm
  exact gRt (gr1 results64 rfl ⟨rfl,hm.below⟩)
theorem iA (w0:World) (hz:fU) (r_:fF) (bp0:Nat) (v1p:Value) (h1p:GT.rep hz [v1p] r_.list) (text:Str) (hm0:Mem w0 hz w0 [blk bp0 [v1p,nV r_.at_] 59]) :
    iF Tryz.prog 62 [(pV bp0),(tV text)] w0 (fH r_ text) λr v w'=>v=(.tuple #[])∧Mem w0 hz w' [blk bp0 [v1p,nV r.at_] 59]:=by
  unfold fH
  refine iR func62 rfl λr=>?_
  have hm:=hm0
  refine gS (gS (gR (gM rfl (gM rfl (gC hm rfl call64 (kp _ r_ bp0 v1p (hm.now h1p) (hm.blk_cells 0 rfl).1 text) λaB aC w hm=>gN rfl (gE (gsn 7 rfl (λaA=>?_) λaA=>?_)))))))
  ·exact gct rfl (gS (gR (gM rfl (gY (yG rfl (fI rfl rfl)) (gF jg rfl (gS1 hm 0 sizeOf3 rfl rfl λw hm=>gE (gRt (gr0 results62 ⟨rfl,hm.pk [0] rfl rfl⟩))))))))
  exact gcf rfl (gSk (gR (gM rfl (gM rfl (gY (yG rfl (fI rfl rfl)) (gF jg rfl (gL hm 0 isAgg3 rfl (gB rfl (gY (yG rfl (fI rfl rfl)) (gF jg rfl (gS1 hm 0 sizeOf3 rfl rfl λw hm=>gE (gre results62 ⟨rfl,hm.pk [0] rfl rfl⟩))))))))))))
theorem lV (w0:World) (hz:fU) (r_:fF) (bp0:Nat) (v1p:Value) (h1p:GT.rep hz [v1p] r_.list) (hm0:Mem w0 hz w0 [blk bp0 [v1p,nV r_.at_] 59]) :
    iF Tryz.prog 63 [(pV bp0)] w0 (ga r_) λr v w'=>v=(tV r.1)∧Mem w0 hz w' [blk bp0 [v1p,nV r.2.at_] 59]:=by
  unfold ga
  refine iR func63 rfl λr=>?_
  have hm:=hm0
  refine gS (gR (gA rfl (gE (gS (gS (gJ hm (λaA=>[(0,(pV bp0)),(33,(.bool (aA)))]) (λaA=>[blk bp0 [v1p,nV r_.at_] 59]) (λaA=>?_) ?_))))))
  ·refine gW (.p 0 (.p 1 (.p 2 (.e 3 (.p 4 (.p 5 (.p 6 (.p 7 (.p 8 (.p 10 (.p 11 (.p 12 (.q 9 (.e 13 (.p 14 (.p 15 (.p 16 (.p 17 (.p 18 (.p 19 (.p 20 (.p 22 (.p 23 (.p 24 (.q 21 (.e 25 (.p 26 (.p 27 (.e 28 (.p 29 (.p 30 .fin)) .nil))) .nil)))))))))))) .nil)))))))))) .nil)))) [13, 25] [0, 1, 2, 4, 5, 6, 7, 8, 10, 11, 12, 14, 15, 16, 17, 18, 19, 20, 22, 23, 24, 26, 27, 29, 30] hm [0] [_] rfl mxo (by kernel_rfl) (fun _ _ _ h => h.2) fun w hm hS => tP rfl (fun w => yM rfl) (tP rfl (fun w => yG rfl (fI rfl rfl)) (tP rfl (fun w => yF jg rfl) (tO (tY rfl (yL hm 0 isAgg3 rfl) (tAn rfl (tP rfl (fun w => yB rfl) (tP rfl (fun w => yM rfl) (gsd 8 rfl (fun aF => ?_) fun aF => ?_))))))))
   ·refine tPo rfl rfl (tPo rfl rfl (tPo rfl rfl (tPo rfl rfl (tPo rfl rfl (tPo rfl rfl (tQo rfl hS rfl (tO (tEo rfl rfl (tAs hS (tPo rfl rfl (tPo rfl rfl (tP rfl (λw=>yKt rfl) (tP rfl (λw=>yM rfl) (tPo rfl rfl (tPo rfl rfl (tPo rfl rfl (tPo rfl rfl (tPo rfl rfl (tPo rfl rfl (tQo rfl hS rfl (tO (tEo rfl rfl (tAs hS (tPo rfl rfl (tPo rfl rfl (tO (tEo rfl rfl (tAn rfl (tPo rfl rfl (tP rfl (λw=>yKt rfl) ?_))))))))))))))))))))))))))))))
    exact tE (gz hm [0] rfl)
   refine tP rfl (λw=>yM rfl) (tP rfl (λw=>yG rfl (fI rfl rfl)) (tP rfl (λw=>yF jg rfl) (tP rfl (λw=>yM rfl) (tP rfl (λw=>yG rfl (fI rfl rfl)) (tP rfl (λw=>yF qF rfl) (tQ rfl hS (λw hm=>yL hm 0 isAgg3 rfl) (tO (tY rfl (yL hm 0 isAgg30 rfl) (tAs hS ?_)))))))))
   obtain ⟨aK,aL,rfl,aM⟩:=fE h1p
   refine tP rfl (λw=>yV kq rfl) (tP rfl (λw=>yB rfl) (tP rfl (λw=>yKf rfl) (tP rfl (λw=>yM rfl) (gsd 20 rfl (λaG=>?_) λaG=>?_))))
   ·exact tPo rfl rfl (tPo rfl rfl (tPo rfl rfl (tPo rfl rfl (tPo rfl rfl (tPo rfl rfl (tQo rfl hS rfl (tO (tEo rfl rfl (tAs hS (tPo rfl rfl (tPo rfl rfl (tO (tEo rfl rfl (tAn rfl (tPo rfl rfl (tP rfl (λw=>yKt rfl) (tE (gz hm [0] rfl))))))))))))))))))
   refine tP rfl (λw=>yM rfl) (tP rfl (λw=>yG rfl (fI rfl rfl)) (tP rfl (λw=>yF qF rfl) (tP rfl (λw=>yM rfl) (tP rfl (λw=>yG rfl (fI rfl rfl)) (tP rfl (λw=>yF jg rfl) (tQ rfl hS (λw hm=>yL hm 0 isAgg30 rfl) (tO (tY rfl (yL hm 0 isAgg3 rfl) (tAs hS (gg λaD aH aB=>?_))))))))))
   obtain ⟨aN,aO,aP,he⟩:=iS h1p aB
   obtain ⟨rfl,_,rfl⟩:=sl3 he
   exact tP rfl (λw=>yI kq aH (ff aB) rfl) (tP rfl (λw=>yF mP rfl) (tO (tY rfl (yl isAgg3 ((gK (cs:=[nV aD.kind,(tV aD.text)]) (hm.now h1p) aB rfl).cell (j:=0) rfl) rfl) (tAn rfl (tP rfl (λw=>yB rfl) (tP rfl (λw=>yKf rfl) (tE (gz hm [0] rfl))))))))
  repeat clear hm
  intro aA w hm
  refine gs 33 rfl (λaI=>?_) λaI=>?_
  ·exact gct rfl (gS (gR (gM rfl (gY (yG rfl (fI rfl rfl)) (gF jg rfl (gS1 hm 0 sizeOf3 rfl rfl λw hm=>gE (gS (gR (gA rfl (gE (gRt (gr1 results63 rfl ⟨rfl,hm.pk [0] rfl rfl⟩))))))))))))
  refine gcf rfl (gSk (gS (gR (gM rfl (gM rfl (gY (yG rfl (fI rfl rfl)) (gF jg rfl (gL hm 0 isAgg3 rfl (gB rfl (gY (yG rfl (fI rfl rfl)) (gF jg rfl (gS1 hm 0 sizeOf3 rfl rfl λw hm=>gE (gS (gW (.p 0 (.p 1 (.p 2 (.p 4 (.p 5 (.p 6 (.q 3 (.e 7 (.p 8 (.p 9 (.p 10 (.e 11 (.p 12 .fin) .nil)))) .nil)))))))) [7] [0,1,2,4,5,6,8,9,10,12] hm [0] [blk bp0 [v1p,nV (w64 (r_.at_+1))] 59] rfl mxo (by kernel_rfl) (λ_ _ _ h=>h.2) λw hm hS=>tP rfl (λw=>yM rfl) (tP rfl (λw=>yG rfl (fI rfl rfl)) (tP rfl (λw=>yF qF rfl) (tP rfl (λw=>yM rfl) (tP rfl (λw=>yG rfl (fI rfl rfl)) (tP rfl (λw=>yF jg rfl) (tQ rfl hS (λw hm=>yL hm 0 isAgg30 rfl) (tO (tY rfl (yL hm 0 isAgg3 rfl) (tAs hS (tP rfl (λw=>yB rfl) (gg λaE aJ aC=>?_)))))))))))))))))))))))))
  obtain ⟨aQ,aR,aS,he⟩:=iS h1p aC
  subst he
  exact tP rfl (λw=>yI kq aJ (ff aC) rfl) (tP rfl (λw=>yF jk rfl) (tO (tY rfl (yl isAgg9 ((gK (cs:=[nV aE.kind,(tV aE.text)]) (hm.now h1p) aC rfl).cell (j:=1) rfl) rfl) (tAn rfl (tP rfl (λw=>yA rfl) (tE (gRt (gr1 results63 rfl ⟨rfl,hm.pk [0] rfl rfl⟩))))))))
theorem sA (w0:World) (text:Str) :
    iF Tryz.prog 118 [(tV text)] w0 (pc text) λr v w'=>v=(nV r)∧Below w0.heap.size w0 w':=by
  unfold pc
  refine iR func118 rfl λr=>?_
  have hm:=Mem.start w0
  refine gS (gR (gA rfl (gE (gS (gR (gf rfl (λa hf=>fL (vs:=#[(0,(tV (mkS []))),(1,(tV (mkS [108,101,116]))),(2,(tV (mkS []))),(3,(tV (mkS [115,97,121]))),(4,(tV (mkS [112,117,116]))),(5,(tV (mkS [105,102]))),(6,(tV (mkS [108,111,111,112]))),(7,(tV (mkS [98,97,99,107]))),(8,(tV (mkS [100,111])))]) (cs:=[(tV (mkS [])),(tV (mkS [108,101,116])),(tV (mkS [])),(tV (mkS [115,97,121])),(tV (mkS [112,117,116])),(tV (mkS [105,102])),(tV (mkS [108,111,111,112])),(tV (mkS [98,97,99,107])),(tV (mkS [100,111]))]) lK hf hm rfl rfl (by kernel_rfl) rfl rfl) ?_))))))
  rintro _ w ⟨aA,rfl,hm⟩
  replace hm:=hm.lit (xs:=([(mkS []),(mkS [108,101,116]),(mkS []),(mkS [115,97,121]),(mkS [112,117,116]),(mkS [105,102]),(mkS [108,111,111,112]),(mkS [98,97,99,107]),(mkS [100,111])]:List Str)) 0 rfl rfl rfl rfl
  refine gA rfl (gE (gS (gS (gR (gA rfl (gE (gBk (gNf hm (λaB aD=>[(0,(tV text)),(3,(sV aA 0 9 9)),(4,(nV aB))]) (λaB aD=>[ow [sV aA 0 9 9] ([(mkS []),(mkS [108,101,116]),(mkS []),(mkS [115,97,121]),(mkS [112,117,116]),(mkS [105,102]),(mkS [108,111,111,112]),(mkS [98,97,99,107]),(mkS [100,111])]:List Str)]) [0] rfl ?_ ?_))))))))
  ·repeat clear hm
   intro aL aG aB aD w hm aM aN aO aH
   refine gS (gS (gR (gM rfl (gM rfl ?_))))
   have aP:=xv (hm.ow_rep 0 rfl)
   refine gY (yV jO rfl) (gB rfl (gE (go _ 9 rfl (decide_eq_true (by omega)) (gct rfl (gSk (gS (gBk (gS (gJ hm (λaC=>[(0,(tV text)),(3,(sV aA 0 9 9)),(4,(nV aB)),(21,(.bool (aC)))]) (λaC=>[ow [sV aA 0 9 9] ([(mkS []),(mkS [108,101,116]),(mkS []),(mkS [115,97,121]),(mkS [112,117,116]),(mkS [105,102]),(mkS [108,111,111,112]),(mkS [98,97,99,107]),(mkS [100,111])]:List Str)]) (λaC=>?_) ?_)))))))))
   ·refine gR (gM rfl (gM rfl (gg λaE aI aF=>?_)))
    have hL2_1:=rS (hm.ow_rep 0 rfl)
    refine gI jO aI (aa9 aF hL2_1) rfl (gY (yl isAgg9 ((gK (cs:=[(tV aE)]) (hm.ow_rep 0 rfl) aF rfl).cell (j:=0) rfl) rfl) (gM rfl (gY (yG rfl (qm (p:=aE) (q:=text) rfl rfl rfl)) (gM rfl (gsd 18 rfl (λaJ=>?_) λaJ=>?_)))))
    ·exact gM rfl (gY (yG rfl (oM (p:=text) (q:=(mkS [])) rfl rfl rfl)) (gKt rfl (gE (gz hm [0] rfl))))
    exact gO rfl (gO rfl (gKf rfl (gE (gz hm [0] rfl))))
   repeat clear hm
   intro aC w hm
   refine gs 21 rfl (λaK=>?_) λaK=>?_
   ·exact gct rfl (gS (gR (gM rfl (gA rfl (gE (gRt (gLr aH aG (gr1 results118 rfl ⟨rfl,hm.below⟩))))))))
   exact gcf rfl (gSk (gR (gM rfl (gP (by omega) (by omega) rfl (gA rfl (gE (gze hm [0] rfl)))))))
  repeat clear hm
  intro aQ aR w hm aS aT
  refine gS (gS (gR (gM rfl (gM rfl ?_))))
  have aU:=xv (hm.ow_rep 0 rfl)
  exact gY (yV jO rfl) (gB rfl (gE (go _ 9 rfl (decide_eq_false (by omega)) (gcf rfl (gXt (gHh (gS (gR (gA rfl (gE (gRt (gr1 results118 rfl ⟨rfl,hm.below⟩))))))))))))
theorem sP (w0:World) (list:List eu) (v1:Value) (h1:GT.rep (hp w0) [v1] list) (at_:Int) (level:Int) :
    iF Tryz.prog 153 [v1,nV at_,nV level] w0 (iy list at_ level) λr v w'=>v=(nV r)∧Below w0.heap.size w0 w':=by
  unfold iy
  refine iR func153 rfl λr=>?_
  have hm:=Mem.start w0
  refine gS (gR (gA rfl (gE (gS (gS (gR (gA rfl (gE (gBk (gNf hm (λaA aC=>[(0,v1),(1,(nV at_)),(2,(nV level)),(7,(nV aA))]) (λaA aC=>[]) [] rfl ?_ ?_))))))))))
  ·repeat clear hm
   intro aI aD aA aC w hm aJ aK aL aE
   refine gS (gS (gR (gM rfl (gB rfl (gE (go _ 9 rfl (decide_eq_true (by omega)) (gct rfl (gSk (gS (gBk (gS (gJ hm (λaB=>[(0,v1),(1,(nV at_)),(2,(nV level)),(7,(nV aA)),(22,(.bool (aB)))]) (λaB=>[]) (λaB=>?_) ?_))))))))))))
   ·refine gR (gM rfl (gC hm rfl call128 (qO _ aA) λaM aN w hm=>gM rfl (gB rfl (gM rfl (gsd 16 rfl (λaF=>?_) λaF=>?_)))))
    ·exact gM rfl (gM rfl (gM rfl (gC hm rfl call129 (nR _ aA) λaG aO w hm=>gC hm rfl call99 (k9 _ list v1 (hm.now h1) at_ aG) λaP aQ w hm=>gKt rfl (gE (gz hm [] rfl)))))
    exact gO rfl (gO rfl (gO rfl (gO rfl (gO rfl (gKf rfl (gE (gz hm [] rfl)))))))
   repeat clear hm
   intro aB w hm
   refine gs 22 rfl (λaH=>?_) λaH=>?_
   ·exact gct rfl (gS (gR (gM rfl (gA rfl (gE (gRt (gLr aE aD (gr1 results153 rfl ⟨rfl,hm.below⟩))))))))
   exact gcf rfl (gSk (gR (gM rfl (gP (by omega) (by omega) rfl (gA rfl (gE (gze hm [] rfl)))))))
  repeat clear hm
  intro aR aS w hm aT aU
  exact gS (gS (gR (gM rfl (gB rfl (gE (go _ 9 rfl (decide_eq_false (by omega)) (gcf rfl (gXt (gHh (gS (gR (gA rfl (gE (gRt (gr1 results153 rfl ⟨rfl,hm.below⟩)))))))))))))))
theorem sw (w0:World) (w_:eu) :
    iF Tryz.prog 162 [(.agg #[nV w_.kind,(tV w_.text)])] w0 (mn w_) λr v w'=>v=(nV r)∧Below w0.heap.size w0 w':=by
  unfold mn
  refine iR func162 rfl λr=>?_
  have hm:=Mem.start w0
  refine gS (gR (gBx hm rfl λaB w hm=>gA rfl (gE (gS (gS (gJ hm (λaA=>[(1,(pV aB)),(12,(.bool (aA)))]) (λaA=>[blk aB [nV w_.kind,(tV w_.text)] 36]) (λaA=>?_) ?_))))))
  ·refine gR (gF mP rfl (gL hm 0 isAgg3 rfl (gB rfl (gM rfl (gsd 8 rfl (λaC=>?_) λaC=>?_)))))
   ·exact gO rfl (gO rfl (gO rfl (gKt rfl (gE (gz hm [0] rfl)))))
   exact gY (yn (hm.blk_at 0 rfl) isAgg36 sizeOf36 rfl) (gC hm rfl call60 (pI _ w_) λaE aF w hm=>gN rfl (gKf rfl (gE (gz hm [0] rfl))))
  repeat clear hm
  intro aA w hm
  refine gs 12 rfl (λaD=>?_) λaD=>?_
  ·exact gct rfl (gS (gR (gA rfl (gE (gRt (gr1 results162 rfl ⟨rfl,hm.below⟩))))))
  exact gcf rfl (gSk (gS (gR (gF jk rfl (gL hm 0 isAgg9 rfl (gC hm rfl call97 (qZ _ w_.text) λaG aH w hm=>gM rfl (gX rfl (gX rfl (gA rfl (gA rfl (gE (gS (gR (gM rfl (gA rfl (gE (gRt (gr1 results162 rfl ⟨rfl,hm.below⟩))))))))))))))))))
theorem wu (w0:World) (at_:Int) :
    iF Tryz.prog 171 [nV at_] w0 (jz at_) λr v w'=>v=(nV r)∧Below w0.heap.size w0 w':=by
  unfold jz
  refine iR func171 rfl λr=>?_
  have hm:=Mem.start w0
  refine gS (gR (gA rfl (gE (gS (gS (gR (gM rfl (gB rfl (gE (gsd 4 rfl (λaA=>?_) λaA=>?_))))))))))
  ·exact gct rfl (gS (gR (gA rfl (gE (gRt (gr1 results171 rfl ⟨rfl,hm.below⟩))))))
  exact gcf rfl (gSk (gS (gR (gA rfl (gE (gRt (gr1 results171 rfl ⟨rfl,hm.below⟩)))))))
theorem ud (list:List eu):(∀ (at_:Int) (level:Int) (r:ey × Int),fr list at_ level=some r→∀ (w0:World) (v1:Value) (h1:GT.rep (hp w0) [v1] list),Con Tryz.prog 136 [v1,nV at_,nV level] w0 (λv w'=>∃ (x1:Value),v=(.tuple #[(.agg #[nV r.1.op,nV r.1.n_,(tV r.1.name),x1]),nV r.2])∧Mem w0 (hp w0) w' [ow [x1] r.1.kids])) ∧
    (∀ (at_:Int) (r:ey × Int),jQ list at_=some r→∀ (w0:World) (v1:Value) (h1:GT.rep (hp w0) [v1] list),Con Tryz.prog 152 [v1,nV at_] w0 (λv w'=>∃ (x1:Value),v=(.tuple #[(.agg #[nV r.1.op,nV r.1.n_,(tV r.1.name),x1]),nV r.2])∧Mem w0 (hp w0) w' [ow [x1] r.1.kids])) ∧
    (∀ (at_:Int) (r:(List ey) × Int),mM list at_=some r→∀ (w0:World) (v1:Value) (h1:GT.rep (hp w0) [v1] list),Con Tryz.prog 163 [v1,nV at_] w0 (λv w'=>∃ (x1:Value),v=(.tuple #[x1,nV r.2])∧Mem w0 (hp w0) w' [ow [x1] r.1])):=by
  refine fr.mutual_partial_correctness list (motive_1:=λat_ level r=>∀ (w0:World) (v1:Value) (h1:GT.rep (hp w0) [v1] list),Con Tryz.prog 136 [v1,nV at_,nV level] w0 (λv w'=>∃ (x1:Value),v=(.tuple #[(.agg #[nV r.1.op,nV r.1.n_,(tV r.1.name),x1]),nV r.2])∧Mem w0 (hp w0) w' [ow [x1] r.1.kids])) (motive_2:=λat_ r=>∀ (w0:World) (v1:Value) (h1:GT.rep (hp w0) [v1] list),Con Tryz.prog 152 [v1,nV at_] w0 (λv w'=>∃ (x1:Value),v=(.tuple #[(.agg #[nV r.1.op,nV r.1.n_,(tV r.1.name),x1]),nV r.2])∧Mem w0 (hp w0) w' [ow [x1] r.1.kids])) (motive_3:=λat_ r=>∀ (w0:World) (v1:Value) (h1:GT.rep (hp w0) [v1] list),Con Tryz.prog 163 [v1,nV at_] w0 (λv w'=>∃ (x1:Value),v=(.tuple #[x1,nV r.2])∧Mem w0 (hp w0) w' [ow [x1] r.1])) ?_ ?_ ?_
  · intro rec_1 rec_2 ih_1 ih_2 at_ level r hq w0 v1 h1
    have spec_l2Read_rec:∀ (w0:World) (_:List eu) (v1:Value) (h1:GT.rep (hp w0) [v1] list) (at_:Int) (level:Int) (r:ey × Int) (hq:rec_1 at_ level=some r),Con Tryz.prog 136 [v1,nV at_,nV level] w0 (λv w'=>∃ (x1:Value),v=(.tuple #[(.agg #[nV r.1.op,nV r.1.n_,(tV r.1.name),x1]),nV r.2])∧Mem w0 (hp w0) w' [ow [x1] r.1.kids]):=λw0 _ v1 h1 at_ level r hq=>ih_1 at_ level r hq w0 v1 h1
    have spec_l2Tight_rec:∀ (w0:World) (_:List eu) (v1:Value) (h1:GT.rep (hp w0) [v1] list) (at_:Int) (r:ey × Int) (hq:rec_2 at_=some r),Con Tryz.prog 152 [v1,nV at_] w0 (λv w'=>∃ (x1:Value),v=(.tuple #[(.agg #[nV r.1.op,nV r.1.n_,(tV r.1.name),x1]),nV r.2])∧Mem w0 (hp w0) w' [ow [x1] r.1.kids]):=λw0 _ v1 h1 at_ r hq=>ih_2 at_ r hq w0 v1 h1
    refine kI (ρ:=ey × Int) (R:=λr v w'=>∃ (x1:Value),v=(.tuple #[(.agg #[nV r.1.op,nV r.1.n_,(tV r.1.name),x1]),nV r.2])∧Mem w0 (hp w0) w' [ow [x1] r.1.kids]) func136 rfl hq ?_
    have hm:=Mem.start w0
    refine gS (gR (gAl hm zeroValue86 rfl λaD w hm=>gA rfl (gE (gS (gS (gR (gM rfl (gB rfl (gE (gsd 14 rfl (λaQ=>?_) λaQ=>?_))))))))))
    ·refine gct rfl (gS (gR (gM rfl (gM rfl (gCg rfl call152 (spec_l2Tight_rec _ list v1 (hm.now h1) at_) ?_)))))
     rintro aw ax ay w ⟨az,rfl,hB⟩
     replace hm:=hm.give hB;clear hB
     exact gX rfl (gX rfl (gSN hm 1 sizeOf86 (et rfl (et rfl (et rfl (et (fS (hm.ow_rep 0 rfl)) fK)))) rfl λw hm=>gA rfl (gE (gRt (s8 1 results136 hm rfl isAgg86 sizeOf86 ⟨az,rfl,hm.pk [0] rfl rfl⟩)))))
    refine gcf rfl (gSk (gS (gR (gM rfl (gM rfl (gM rfl (gB rfl (gCg rfl call136 (spec_l2Read_rec _ list v1 (hm.now h1) at_ (w64 (level+1))) ?_))))))))
    rintro ae bH aR w ⟨bd,rfl,hB⟩
    replace hm:=hm.give hB;clear hB
    refine gM rfl (gX rfl (gX rfl (gAl hm zeroValue86 rfl λaH w hm=>gSN hm 0 sizeOf86 (et rfl (et rfl (et rfl (et (fS (hm.ow_rep 1 rfl)) fK)))) rfl λw hm=>gA rfl (gE (gS ?_)))))
    obtain ⟨aL,aT,rfl,bA⟩:=fE (hm.ow_rep 1 rfl)
    refine gJg (λaG a w=>∃ (aU:Value),St 58 [(6,(pV aD)),(8,(pV aH)),(9,(nV aG.2.2.2.2))] w0 (hp w0) [blk aD [nV 0,nV 0,(tV (mkS [])),.slice none 0 0] 86,blk aH [nV aG.1,nV aG.2.1,(tV aG.2.2.1),aU] 86,ow [aU] aG.2.2.2.1] a w) (λaG=>?_) ?_
    ·refine gBk (gMg (λaA a w=>∃ (aF:Value),St 58 [(0,v1),(2,(nV level)),(6,(pV aD)),(8,(pV aH)),(9,(nV aA.2.2.2.2))] w0 (hp w0) [blk aD [nV 0,nV 0,(tV (mkS [])),.slice none 0 0] 86,blk aH [nV aA.1,nV aA.2.1,(tV aA.2.2.1),aF] 86,ow [aF] aA.2.2.2.1] a w) (λa hf=>⟨.slice aL ae.1.kids.length aT,hf.sb rfl,hm.pk [2,0,1] rfl rfl⟩) ?_)
     repeat clear hm
     rintro aC bJ aA a w ⟨aF,hf,hm⟩ be bK
     refine gv hf (gS (gS (gJ hm (λaV=>[(0,v1),(2,(nV level)),(6,(pV aD)),(8,(pV aH)),(9,(nV aA.2.2.2.2)),(36,(.bool (aV)))]) (λaV=>[blk aD [nV 0,nV 0,(tV (mkS [])),.slice none 0 0] 86,blk aH [nV aA.1,nV aA.2.1,(tV aA.2.2.1),aF] 86,ow [aF] aA.2.2.2.1]) (λaV=>?_) ?_)))
     ·refine gR (gM rfl (gB rfl (gM rfl (gsd 30 rfl (λbL=>?_) λbL=>?_))))
      ·exact gM rfl (gM rfl (gM rfl (gC hm rfl call153 (sP _ list v1 (hm.now h1) aA.2.2.2.2 level) λbf bg w hm=>gB rfl (gKt rfl (gE (gz hm [0,1,2] rfl))))))
      exact gO rfl (gO rfl (gO rfl (gO rfl (gO rfl (gKf rfl (gE (gz hm [0,1,2] rfl)))))))
     repeat clear hm
     intro aV w hm
     refine gs 36 rfl (λaf=>?_) λaf=>?_
     ·refine gct rfl (gSk (gBk (gS (gR (gM rfl (gM rfl (gM rfl (gC hm rfl call153 (sP _ list v1 (hm.now h1) aA.2.2.2.2 level) λag bM w hm=>gA rfl (gE (gS (gR (gM rfl (gM rfl (gB rfl (gM rfl (gB rfl (gCg rfl call136 (spec_l2Read_rec _ list v1 (hm.now h1) (w64 (aA.2.2.2.2+1)) (w64 (level+1))) ?_)))))))))))))))))
      rintro aB bh bi w ⟨aK,rfl,hB⟩
      replace hm:=hm.give hB;clear hB
      refine gM rfl (gX rfl (gX rfl (gAl hm zeroValue86 rfl λbB w hm=>gSN hm 0 sizeOf86 (et rfl (et rfl (et rfl (et (fS (hm.ow_rep 1 rfl)) fK)))) rfl λw hm=>gA rfl (gE (gS (gR (gM rfl (gY (yn (hm.blk_at 3 rfl) isAgg86 sizeOf86 rfl) (gY (yn (hm.blk_at 0 rfl) isAgg86 sizeOf86 rfl) (gf rfl (λa hf=>fL (vs:=#[(0,(.agg #[nV aA.1,nV aA.2.1,(tV aA.2.2.1),aF])),(1,(.agg #[nV aB.1.op,nV aB.1.n_,(tV aB.1.name),aK]))]) (cs:=[nV aA.1,nV aA.2.1,(tV aA.2.2.1),aF,nV aB.1.op,nV aB.1.n_,(tV aB.1.name),aK]) jl hf hm rfl rfl (by kernel_rfl) rfl rfl) ?_))))))))))
      rintro _ w ⟨aS,rfl,hm⟩
      replace hm:=hm.els_nil (α:=ey)
      replace hm:Mem w0 (hp w0) _ [els [] ([]:List ey),blk aS [nV aA.1,nV aA.2.1,(tV aA.2.2.1),aF,nV aB.1.op,nV aB.1.n_,(tV aB.1.name),aK] 86,blk bB [nV aB.1.op,nV aB.1.n_,(tV aB.1.name),aK] 86,ow [nV aB.1.op,nV aB.1.n_,(tV aB.1.name),aK] (aB.1:ey),blk aD [nV 0,nV 0,(tV (mkS [])),.slice none 0 0] 86,blk aH [nV aA.1,nV aA.2.1,(tV aA.2.2.1),aF] 86,ow [aF] aA.2.2.2.1]:=iM aB.1 hm 3 rfl
      replace hm:=(hm.els_cons 0 3 (by decide) rfl rfl).pk (L':=[_,_,_,_,_,_]) [0,1,2,4,5,6] rfl rfl
      replace hm:Mem w0 (hp w0) _ [els [nV aB.1.op,nV aB.1.n_,(tV aB.1.name),aK] ([aB.1]:List ey),blk aS [nV aA.1,nV aA.2.1,(tV aA.2.2.1),aF,nV aB.1.op,nV aB.1.n_,(tV aB.1.name),aK] 86,blk bB [nV aB.1.op,nV aB.1.n_,(tV aB.1.name),aK] 86,blk aD [nV 0,nV 0,(tV (mkS [])),.slice none 0 0] 86,blk aH [nV aA.1,nV aA.2.1,(tV aA.2.2.1),aF] 86,ow [nV aA.1,nV aA.2.1,(tV aA.2.2.1),aF] ((⟨aA.1,aA.2.1,aA.2.2.1,aA.2.2.2.1⟩:ey):ey)]:=lC aA.1 aA.2.1 aA.2.2.1 hm 5 rfl
      replace hm:=(hm.els_cons 0 5 (by decide) rfl rfl).pk (L':=[_,_,_,_,_]) [0,1,2,3,4] rfl rfl
      replace hm:=(hm.lit_els 1 0 (by decide) rfl rfl rfl rfl).pk (L':=[_,_,_,_]) [1,2,3,4] rfl rfl
      exact gY (yG rfl (fY (vs:=[(0,(nV ag)),(3,(sV aS 0 2 2))]) (cs:=#[nV ag,nV 0,(tV (mkS [])),sV aS 0 2 2]) rfl rfl (by kernel_rfl))) (gSN hm 3 sizeOf86 (et rfl (et rfl (et rfl (et rfl fK)))) rfl λw hm=>gE (gR (gM rfl (gA rfl (gE (gZe λa hf=>⟨sV aS 0 2 2,hf.sb rfl,hm.pk [2,3,0] rfl rfl⟩))))))
     exact gcf rfl (gXt (gHh (gLp bK bJ (gZ λa hf=>⟨aF,hf.sb rfl,hm.pk [0,1,2] rfl rfl⟩))))
    repeat clear hm
    rintro aG a w ⟨aU,hf,hm⟩
    exact gv hf (gS (gR (gY (yn (hm.blk_at 1 rfl) isAgg86 sizeOf86 rfl) (gM rfl (gSN hm 0 sizeOf86 (et rfl (et rfl (et rfl (et (fS (hm.ow_rep 2 rfl)) fK)))) rfl λw hm=>gA rfl (gE (gRt (s8 0 results136 hm rfl isAgg86 sizeOf86 ⟨aU,rfl,hm.pk [2] rfl rfl⟩))))))))
  · intro rec_1 rec_2 rec_3 ih_1 ih_2 ih_3 at_ r hq w0 v1 h1
    have spec_l2Read_rec:∀ (w0:World) (_:List eu) (v1:Value) (h1:GT.rep (hp w0) [v1] list) (at_:Int) (level:Int) (r:ey × Int) (hq:rec_1 at_ level=some r),Con Tryz.prog 136 [v1,nV at_,nV level] w0 (λv w'=>∃ (x1:Value),v=(.tuple #[(.agg #[nV r.1.op,nV r.1.n_,(tV r.1.name),x1]),nV r.2])∧Mem w0 (hp w0) w' [ow [x1] r.1.kids]):=λw0 _ v1 h1 at_ level r hq=>ih_1 at_ level r hq w0 v1 h1
    have spec_l2Tight_rec:∀ (w0:World) (_:List eu) (v1:Value) (h1:GT.rep (hp w0) [v1] list) (at_:Int) (r:ey × Int) (hq:rec_2 at_=some r),Con Tryz.prog 152 [v1,nV at_] w0 (λv w'=>∃ (x1:Value),v=(.tuple #[(.agg #[nV r.1.op,nV r.1.n_,(tV r.1.name),x1]),nV r.2])∧Mem w0 (hp w0) w' [ow [x1] r.1.kids]):=λw0 _ v1 h1 at_ r hq=>ih_2 at_ r hq w0 v1 h1
    have spec_l2List_rec:∀ (w0:World) (_:List eu) (v1:Value) (h1:GT.rep (hp w0) [v1] list) (at_:Int) (r:(List ey) × Int) (hq:rec_3 at_=some r),Con Tryz.prog 163 [v1,nV at_] w0 (λv w'=>∃ (x1:Value),v=(.tuple #[x1,nV r.2])∧Mem w0 (hp w0) w' [ow [x1] r.1]):=λw0 _ v1 h1 at_ r hq=>ih_3 at_ r hq w0 v1 h1
    refine kI (ρ:=ey × Int) (R:=λr v w'=>∃ (x1:Value),v=(.tuple #[(.agg #[nV r.1.op,nV r.1.n_,(tV r.1.name),x1]),nV r.2])∧Mem w0 (hp w0) w' [ow [x1] r.1.kids]) func152 rfl hq ?_
    have hm:=Mem.start w0
    refine gS (gR (gAl hm zeroValue86 rfl λaD w hm=>gA rfl (gE (gS (gS (gR (gA rfl (gE (gBk (gNf hm (λaM aJ=>[(0,v1),(1,(nV at_)),(4,(pV aD)),(6,(nV aM))]) (λaM aJ=>[blk aD [nV 0,nV 0,(tV (mkS [])),.slice none 0 0] 86]) [0] rfl ?_ ?_))))))))))
    ·repeat clear hm
     intro aw aX aM aJ w hm bj bk bN bO
     refine gS (gS (gR (gM rfl (gB rfl (gE (go _ 14 rfl (decide_eq_true (by omega)) (gct rfl (gSk (gS (gBk (gS (gR (gM rfl (gM rfl (gM rfl (gC hm rfl call129 (nR _ aM) λaC bP w hm=>gC hm rfl call99 (k9 _ list v1 (hm.now h1) at_ aC) λbQ bC w hm=>gE (gs 21 rfl (λah=>?_) λah=>?_)))))))))))))))))
     ·refine gct rfl (gS (gR (gM rfl (gM rfl (gB rfl (gCg rfl call152 (spec_l2Tight_rec _ list v1 (hm.now h1) (w64 (at_+1))) ?_))))))
      rintro aE bR aN w ⟨aI,rfl,hB⟩
      replace hm:=hm.give hB;clear hB
      refine gM rfl (gX rfl (gX rfl (gAl hm zeroValue86 rfl λai w hm=>gSN hm 0 sizeOf86 (et rfl (et rfl (et rfl (et (fS (hm.ow_rep 1 rfl)) fK)))) rfl λw hm=>gA rfl (gE (gS (gR (gM rfl (gY (yn (hm.blk_at 0 rfl) isAgg86 sizeOf86 rfl) (gf rfl (λa hf=>fL (vs:=#[(0,(.agg #[nV aE.1.op,nV aE.1.n_,(tV aE.1.name),aI]))]) (cs:=[nV aE.1.op,nV aE.1.n_,(tV aE.1.name),aI]) jl hf hm rfl rfl (by kernel_rfl) rfl rfl) ?_)))))))))
      rintro _ w ⟨aO,rfl,hm⟩
      replace hm:=hm.els_nil (α:=ey)
      replace hm:Mem w0 (hp w0) _ [els [] ([]:List ey),blk aO [nV aE.1.op,nV aE.1.n_,(tV aE.1.name),aI] 86,blk ai [nV aE.1.op,nV aE.1.n_,(tV aE.1.name),aI] 86,ow [nV aE.1.op,nV aE.1.n_,(tV aE.1.name),aI] (aE.1:ey),blk aD [nV 0,nV 0,(tV (mkS [])),.slice none 0 0] 86]:=iM aE.1 hm 3 rfl
      replace hm:=(hm.els_cons 0 3 (by decide) rfl rfl).pk (L':=[_,_,_,_]) [0,1,2,4] rfl rfl
      replace hm:=(hm.lit_els 1 0 (by decide) rfl rfl rfl rfl).pk (L':=[_,_,_]) [1,2,3] rfl rfl
      exact gY (yG rfl (fY (vs:=[(0,(nV aM)),(3,(sV aO 0 1 1))]) (cs:=#[nV aM,nV 0,(tV (mkS [])),sV aO 0 1 1]) rfl rfl (by kernel_rfl))) (gM rfl (gSN hm 2 sizeOf86 (et rfl (et rfl (et rfl (et rfl fK)))) rfl λw hm=>gA rfl (gE (gRt (gLr bO aX (s8 2 results152 hm rfl isAgg86 sizeOf86 ⟨sV aO 0 1 1,rfl,hm.pk [0] rfl rfl⟩))))))
     exact gcf rfl (gSk (gR (gM rfl (gP (by omega) (by omega) rfl (gA rfl (gE (gze hm [0] rfl)))))))
    repeat clear hm
    intro bl bm w hm bo bp
    refine gS (gS (gR (gM rfl (gB rfl (gE (go _ 14 rfl (decide_eq_false (by omega)) (gcf rfl (gXt (gHh (gS (gS (gR (gM rfl (gM rfl (gC hm rfl call99 (k9 _ list v1 (hm.now h1) at_ (mkS [40])) λae ax w hm=>gE (gs 36 rfl (λaQ=>?_) λaQ=>?_))))))))))))))))
    ·refine gct rfl (gS (gR (gM rfl (gM rfl (gB rfl (gCg rfl call136 (spec_l2Read_rec _ list v1 (hm.now h1) (w64 (at_+1)) 1) ?_))))))
     rintro aP bH az w ⟨aR,rfl,hB⟩
     replace hm:=hm.give hB;clear hB
     refine gM rfl (gX rfl (gX rfl (gAl hm zeroValue86 rfl λaH w hm=>gSN hm 0 sizeOf86 (et rfl (et rfl (et rfl (et (fS (hm.ow_rep 1 rfl)) fK)))) rfl λw hm=>gA rfl (gE (gS (gS (gJ hm (λaG=>[(4,(pV aD)),(9,(pV aH)),(10,(nV aP.2)),(51,(.bool (aG)))]) (λaG=>[blk aD [nV 0,nV 0,(tV (mkS [])),.slice none 0 0] 86,blk aH [nV aP.1.op,nV aP.1.n_,(tV aP.1.name),aR] 86,ow [aR] aP.1.kids]) (λaG=>?_) ?_)))))))
     ·refine gR (gM rfl (gB rfl (gM rfl (gsd 46 rfl (λaj=>?_) λaj=>?_))))
      ·exact gO rfl (gO rfl (gO rfl (gO rfl (gKt rfl (gE (gz hm [2,0,1] rfl))))))
      exact gM rfl (gM rfl (gC hm rfl call99 (k9 _ list v1 (hm.now h1) aP.2 (mkS [41])) λbq bS w hm=>gN rfl (gKf rfl (gE (gz hm [2,0,1] rfl)))))
     repeat clear hm
     intro aG w hm
     refine gs 51 rfl (λbT=>?_) λbT=>?_
     ·exact gct rfl (gS (gR (gY (yn (hm.blk_at 1 rfl) isAgg86 sizeOf86 rfl) (gSN hm 0 sizeOf86 (et rfl (et rfl (et rfl (et (fS (hm.ow_rep 2 rfl)) fK)))) rfl λw hm=>gA rfl (gE (gRt (s8 0 results152 hm rfl isAgg86 sizeOf86 ⟨aR,rfl,hm.pk [2] rfl rfl⟩)))))))
     exact gcf rfl (gSk (gS (gR (gY (yn (hm.blk_at 1 rfl) isAgg86 sizeOf86 rfl) (gM rfl (gB rfl (gSN hm 0 sizeOf86 (et rfl (et rfl (et rfl (et (fS (hm.ow_rep 2 rfl)) fK)))) rfl λw hm=>gA rfl (gE (gRt (s8 0 results152 hm rfl isAgg86 sizeOf86 ⟨aR,rfl,hm.pk [2] rfl rfl⟩))))))))))
    refine gcf rfl (gSk (gS (gS (gJ hm (λaY=>[(0,v1),(1,(nV at_)),(4,(pV aD)),(67,(.bool (aY)))]) (λaY=>[blk aD [nV 0,nV 0,(tV (mkS [])),.slice none 0 0] 86]) (λaY=>?_) ?_))))
    ·refine gR (gM rfl (gM rfl ?_))
     obtain ⟨br,bs,rfl,bt⟩:=fE h1
     refine gY (yV kq rfl) (gB rfl (gM rfl (gsd 60 rfl (λak=>?_) λak=>?_)))
     ·refine gM rfl (gM rfl (gg λbD bU al=>?_))
      obtain ⟨bu,bv,bw,he⟩:=iS h1 al
      obtain ⟨rfl,_,rfl⟩:=sl3 he
      exact gI kq bU (ff al) rfl (gF mP rfl (gY (yl isAgg3 ((gK (cs:=[nV bD.kind,(tV bD.text)]) (hm.now h1) al rfl).cell (j:=0) rfl) rfl) (gB rfl (gKt rfl (gE (gz hm [0] rfl))))))
     exact gO rfl (gO rfl (gO rfl (gO rfl (gO rfl (gO rfl (gKf rfl (gE (gz hm [0] rfl))))))))
    repeat clear hm
    intro aY w hm
    refine gs 67 rfl (λbV=>?_) λbV=>?_
    ·refine gct rfl (gS (gR (gM rfl (gM rfl (gg λam bW an=>?_)))))
     obtain ⟨bz,cA,aT,he⟩:=iS h1 an
     subst he
     refine gI kq bW (ff an) rfl (gY (yn (gK (cs:=[nV am.kind,(tV am.text)]) (hm.now h1) an rfl) isAgg36 sizeOf36 rfl) (gC hm rfl call162 (sw _ am) λbE cC w hm=>gY (yG rfl (fY (vs:=[(0,(nV 1)),(1,(nV bE))]) (cs:=#[nV 1,nV bE,(tV (mkS [])),.slice none 0 0]) rfl rfl (by kernel_rfl))) (gM rfl (gB rfl (gSN hm 0 sizeOf86 (et rfl (et rfl (et rfl (et rfl fK)))) rfl λw hm=>gA rfl (gE (gRt ?_)))))))
     replace hm:=hm.nilow (α:=ey)
     exact s8 1 results152 hm rfl isAgg86 sizeOf86 ⟨.slice none 0 0,rfl,hm.pk [0] rfl rfl⟩
    refine gcf rfl (gSk (gS (gS (gJ hm (λaZ=>[(0,v1),(1,(nV at_)),(4,(pV aD)),(87,(.bool (aZ)))]) (λaZ=>[blk aD [nV 0,nV 0,(tV (mkS [])),.slice none 0 0] 86]) (λaZ=>?_) ?_))))
    ·refine gR (gM rfl (gM rfl ?_))
     obtain ⟨cD,cE,rfl,cF⟩:=fE h1
     refine gY (yV kq rfl) (gB rfl (gM rfl (gsd 80 rfl (λbX=>?_) λbX=>?_)))
     ·exact gO rfl (gO rfl (gO rfl (gO rfl (gO rfl (gO rfl (gKt rfl (gE (gz hm [0] rfl))))))))
     refine gM rfl (gM rfl (gg λbF bY ao=>?_))
     obtain ⟨cG,cH,cI,he⟩:=iS h1 ao
     obtain ⟨rfl,_,rfl⟩:=sl3 he
     exact gI kq bY (ff ao) rfl (gF mP rfl (gY (yl isAgg3 ((gK (cs:=[nV bF.kind,(tV bF.text)]) (hm.now h1) ao rfl).cell (j:=0) rfl) rfl) (gB rfl (gKf rfl (gE (gz hm [0] rfl))))))
    repeat clear hm
    intro aZ w hm
    refine gs 87 rfl (λbZ=>?_) λbZ=>?_
    ·refine gct rfl (gS (gR (gY (yG rfl (fY (vs := []) (cs := #[nV 0, nV 0, (tV (mkS [])), .slice none 0 0]) rfl rfl (by kernel_rfl))) (gSN hm 0 sizeOf86 (et rfl (et rfl (et rfl (et rfl fK)))) rfl fun w hm => gA rfl (gE (gRt ?_))))))
     replace hm:=hm.nilow (α:=ey)
     exact s8 1 results152 hm rfl isAgg86 sizeOf86 ⟨.slice none 0 0,rfl,hm.pk [0] rfl rfl⟩
    refine gcf rfl (gSk (gS (gS (gR (gM rfl (gM rfl (gB rfl (gC hm rfl call99 (k9 _ list v1 (hm.now h1) (w64 (at_+1)) (mkS [40])) λcJ cK w hm=>gN rfl (gE (gsn 93 rfl (λb8=>?_) λb8=>?_))))))))))
    ·refine gct rfl (gS (gR (gM rfl (gM rfl (gg λa8 b9 aq=>?_)))))
     obtain ⟨cL,cN,cO,he⟩:=iS h1 aq
     subst he
     refine gI kq b9 (ff aq) rfl (gF jk rfl (gY (yl isAgg9 ((gK (cs:=[nV a8.kind,(tV a8.text)]) (hm.now h1) aq rfl).cell (j:=1) rfl) rfl) (gY (yG rfl (fY (vs:=[(0,(nV 2)),(2,(tV a8.text))]) (cs:=#[nV 2,nV 0,(tV a8.text),.slice none 0 0]) rfl rfl (by kernel_rfl))) (gM rfl (gB rfl (gSN hm 0 sizeOf86 (et rfl (et rfl (et rfl (et rfl fK)))) rfl λw hm=>gA rfl (gE (gRt ?_))))))))
     replace hm:=hm.nilow (α:=ey)
     exact s8 1 results152 hm rfl isAgg86 sizeOf86 ⟨.slice none 0 0,rfl,hm.pk [0] rfl rfl⟩
    refine gcf rfl (gSk (gS (gR (gM rfl (gM rfl (gB rfl (gCg rfl call163 (spec_l2List_rec _ list v1 (hm.now h1) (w64 (at_+2))) ?_)))))))
    rintro ar cP cQ w ⟨cR,rfl,hB⟩
    replace hm:=hm.give hB;clear hB
    refine gM rfl (gX rfl (gX rfl (gA rfl (gA rfl (gE (gS (gR (gM rfl (gM rfl (gg λaa ba au=>?_))))))))))
    obtain ⟨cS,cT,cU,he⟩:=iS h1 au
    subst he
    refine gI kq ba (ff au) rfl (gF jk rfl (gY (yl isAgg9 ((gK (cs:=[nV aa.kind,(tV aa.text)]) (hm.now h1) au rfl).cell (j:=1) rfl) rfl) (gM rfl ?_)))
    obtain ⟨aL,av,rfl,bA⟩:=fE (hm.ow_rep 0 rfl)
    exact gY (yG rfl (fY (vs:=[(0,(nV 13)),(2,(tV aa.text)),(3,(.slice aL ar.1.length av))]) (cs:=#[nV 13,nV 0,(tV aa.text),.slice aL ar.1.length av]) rfl rfl (by kernel_rfl))) (gM rfl (gSN hm 1 sizeOf86 (et rfl (et rfl (et rfl (et rfl fK)))) rfl λw hm=>gA rfl (gE (gRt (s8 1 results152 hm rfl isAgg86 sizeOf86 ⟨.slice aL ar.1.length av,rfl,hm.pk [0] rfl rfl⟩)))))
  · intro rec_ ih_ at_ r hq w0 v1 h1
    have spec_l2Read_rec:∀ (w0:World) (_:List eu) (v1:Value) (h1:GT.rep (hp w0) [v1] list) (at_:Int) (level:Int) (r:ey × Int) (hq:rec_ at_ level=some r),Con Tryz.prog 136 [v1,nV at_,nV level] w0 (λv w'=>∃ (x1:Value),v=(.tuple #[(.agg #[nV r.1.op,nV r.1.n_,(tV r.1.name),x1]),nV r.2])∧Mem w0 (hp w0) w' [ow [x1] r.1.kids]):=λw0 _ v1 h1 at_ level r hq=>ih_ at_ level r hq w0 v1 h1
    refine kI (ρ:=(List ey) × Int) (R:=λr v w'=>∃ (x1:Value),v=(.tuple #[x1,nV r.2])∧Mem w0 (hp w0) w' [ow [x1] r.1]) func163 rfl hq ?_
    have hm:=Mem.start w0
    refine gS (gR (gA rfl (gA rfl (gE (gS (gR (gf rfl (λa hf=>ko (α:=ey) jl hm rfl) ?_)))))))
    rintro ay w hm
    refine gA rfl (gE (gS (gS (gR (gM rfl (gM rfl (gC hm rfl call99 (k9 _ list v1 (hm.now h1) at_ (mkS [41])) λaw ax w hm=>gE (gs 12 rfl (λaQ=>?_) λaQ=>?_))))))))
    ·exact gct rfl (gS (gR (gM rfl (gM rfl (gB rfl (gA rfl (gA rfl (gE (gRt (gr2 results163 rfl ⟨ay,rfl,hm.pk [0] rfl rfl⟩))))))))))
    refine gcf rfl (gSk ?_)
    obtain ⟨aL,aT,rfl,bA⟩:=fE (hm.ow_rep 0 rfl)
    refine gBk (gMg (λaJ a w=>∃ (ab:Value),St 45 [(0,v1),(1,(nV aJ.1)),(6,ab)] w0 (hp w0) [ow [ab] aJ.2] a w) (λa hf=>⟨.slice aL ([]:List ey).length aT,hf.sb rfl,hm.pk [0] rfl rfl⟩) ?_)
    repeat clear hm
    rintro ae aX aJ a w ⟨ab,hf,hm⟩ bN bG
    refine gv hf (gBk (gS (gR (gM rfl (gM rfl (gCg rfl call136 (spec_l2Read_rec _ list v1 (hm.now h1) aJ.1 1) ?_))))))
    rintro aC bP cV w ⟨aN,rfl,hB⟩
    replace hm:=hm.give hB;clear hB
    refine gM rfl (gX rfl (gX rfl (gAl hm zeroValue86 rfl λai w hm=>gSN hm 0 sizeOf86 (et rfl (et rfl (et rfl (et (fS (hm.ow_rep 1 rfl)) fK)))) rfl λw hm=>gA rfl (gE (gS (gR (gM rfl (gY (yn (hm.blk_at 0 rfl) isAgg86 sizeOf86 rfl) (gf rfl (λa hf=>fL (vs:=#[(0,(.agg #[nV aC.1.op,nV aC.1.n_,(tV aC.1.name),aN]))]) (cs:=[nV aC.1.op,nV aC.1.n_,(tV aC.1.name),aN]) jl hf hm rfl rfl (by kernel_rfl) rfl rfl) ?_)))))))))
    rintro _ w ⟨aO,rfl,hm⟩
    replace hm:=hm.els_nil (α:=ey)
    replace hm:Mem w0 (hp w0) _ [els [] ([]:List ey),blk aO [nV aC.1.op,nV aC.1.n_,(tV aC.1.name),aN] 86,blk ai [nV aC.1.op,nV aC.1.n_,(tV aC.1.name),aN] 86,ow [nV aC.1.op,nV aC.1.n_,(tV aC.1.name),aN] (aC.1:ey),ow [ab] aJ.2]:=iM aC.1 hm 3 rfl
    replace hm:=(hm.els_cons 0 3 (by decide) rfl rfl).pk (L':=[_,_,_,_]) [0,1,2,4] rfl rfl
    replace hm:=(hm.lit_els 1 0 (by decide) rfl rfl rfl rfl).pk (L':=[_,_,_]) [1,2,3] rfl rfl
    refine gb λbb bC=>?_
    obtain ⟨ah,bc⟩:=fV.1 bC
    replace hm:=(hm.both 2 0 (by decide) rfl rfl).pk (L':=[_,_]) [1,2] rfl rfl
    refine gf rfl (λa hf=>hZ (xs:=aJ.2) (ys:=([aC.1]:List ey)) 1 jl hf hm rfl rfl rfl rfl ah) ?_
    rintro aI w hm
    rw [bc] at hm
    refine gA rfl (gE (gS (gS (gJ hm (λac=>[(0,v1),(6,aI),(8,(nV aC.2)),(32,(.bool (ac)))]) (λac=>[ow [aI] bb]) (λac=>?_) ?_))))
    ·refine gR (gM rfl (gB rfl (gM rfl (gsd 28 rfl (λaf=>?_) λaf=>?_))))
     ·exact gO rfl (gO rfl (gO rfl (gKt rfl (gE (gz hm [1] rfl)))))
     exact gM rfl (gM rfl (gC hm rfl call99 (k9 _ list v1 (hm.now h1) aC.2 (mkS [41])) λag bM w hm=>gKf rfl (gE (gz hm [1] rfl))))
    repeat clear hm
    intro ac w hm
    refine gs 32 rfl (λaj=>?_) λaj=>?_
    ·exact gct rfl (gS (gR (gM rfl (gM rfl (gM rfl (gC hm rfl call171 (wu _ aC.2) λbQ bR w hm=>gB rfl (gA rfl (gA rfl (gE (gRt (gLp bG aX (gr2 results163 rfl ⟨aI,rfl,hm.pk [0] rfl rfl⟩))))))))))))
    refine gcf rfl (gSk (gS (gS (gR (gM rfl (gM rfl (gC hm rfl call99 (k9 _ list v1 (hm.now h1) aC.2 (mkS [44])) λaE bS w hm=>gN rfl (gE (gsn 41 rfl (λak=>?_) λak=>?_)))))))))
    ·exact gct rfl (gS (gR (gM rfl (gA rfl (gA rfl (gE (gRt (gLp bG aX (gr2 results163 rfl ⟨aI,rfl,hm.pk [0] rfl rfl⟩)))))))))
    exact gcf rfl (gSk (gR (gM rfl (gB rfl (gA rfl (gE (gZe λa hf=>⟨aI,hf.sb rfl,hm.pk [0] rfl rfl⟩)))))))
theorem qa (w0:World) (list:List eu) (v1:Value) (h1:GT.rep (hp w0) [v1] list) (at_:Int) (level:Int) (r:ey × Int) (hq:fr list at_ level=some r):Con Tryz.prog 136 [v1,nV at_,nV level] w0 (λv w'=>∃ (x1:Value),v=(.tuple #[(.agg #[nV r.1.op,nV r.1.n_,(tV r.1.name),x1]),nV r.2])∧Mem w0 (hp w0) w' [ow [x1] r.1.kids]):=(ud list).1 at_ level r hq w0 v1 h1
theorem nI (w0:World) (hz:fU) (r_:fF) (bp0:Nat) (v1p:Value) (h1p:GT.rep hz [v1p] r_.list) (hm0:Mem w0 hz w0 [blk bp0 [v1p,nV r_.at_] 59]) :
    iF Tryz.prog 119 [(pV bp0)] w0 (iX r_) λr v w'=>∃ (x1:Value),v=(.agg #[nV r.1.op,nV r.1.n_,(tV r.1.name),x1])∧Mem w0 hz w' [blk bp0 [v1p,nV r.2.at_] 59,ow [x1] r.1.kids]:=by
  unfold iX
  refine iR func119 rfl λr=>?_
  have hm:=hm0
  refine gS (gR (gAl hm zeroValue86 rfl λaD w hm=>gE (gS (gS (gR (gM rfl (gY (yG rfl (fI rfl rfl)) (gF jg rfl (gL hm 1 isAgg3 rfl (gB rfl (gE (gsd 9 rfl (λaF=>?_) λaF=>?_))))))))))))
  ·refine gct rfl (gS (gR (gY (yG rfl (fY (vs := []) (cs := #[nV 0, nV 0, (tV (mkS [])), .slice none 0 0]) rfl rfl (by kernel_rfl))) (gSN hm 0 sizeOf86 (et rfl (et rfl (et rfl (et rfl fK)))) rfl fun w hm => gE (gRt ?_)))))
   replace hm:=hm.nilow (α:=ey)
   exact grc 1 results119 hm rfl isAgg86 sizeOf86 ⟨.slice none 0 0,rfl,hm.pk [2,0] rfl rfl⟩
  refine gcf rfl (gSk (gS (gJg (λaA a w=>∃ (aC:Nat) (aB:Value),St 28 [(0,(pV bp0)),(2,(pV aD)),(3,(pV aC)),(4,(nV aA.2.2.2.2))] w0 hz [blk bp0 [v1p,nV r_.at_] 59,blk aD [nV 0,nV 0,(tV (mkS [])),.slice none 0 0] 86,blk aC [nV aA.1,nV aA.2.1,(tV aA.2.2.1),aB] 86,ow [aB] aA.2.2.2.1] a w) (λaA=>?_) ?_)))
  ·refine gW (.p 0 (.p 1 (.p 2 (.p 4 (.p 5 (.p 6 (.q 3 (.q 7 (.e 8 (.p 9 (.p 10 (.p 11 (.e 12 (.e 13 (.p 14 .fin) .nil) .nil)))) (.e 12 (.e 8 (.p 9 (.p 10 (.p 11 (.e 13 (.p 14 .fin) .nil)))) .nil) .nil)))))))))) [3, 7, 12] [0, 1, 2, 4, 5, 6, 9, 10, 11, 14] hm [0, 1] [_, _] rfl mxo (by kernel_rfl) (fun _ _ _ h => h.2) fun w hm hS => tP rfl (fun w => yM rfl) (tP rfl (fun w => yG rfl (fI rfl rfl)) (tP rfl (fun w => yF qF rfl) (tP rfl (fun w => yM rfl) (tP rfl (fun w => yG rfl (fI rfl rfl)) (tP rfl (fun w => yF jg rfl) (tQ rfl hS (fun w hm => yL hm 1 isAgg30 rfl) (tQ rfl hS (fun w hm => yL hm 1 isAgg3 rfl) (gb fun aK aE => tMo ?_ ?_))))))))
   ·refine tf rfl rfl (λa hf=>fo hf rfl call136 rfl (qa _ r_.list v1p (hm.now h1p) r_.at_ 1 _ aE)) ?_
    rintro aL w ⟨aG,rfl,hB⟩
    replace hm:=hm.give hB;clear hB
    refine tAn rfl (tP rfl (λw=>yM rfl) (tP rfl (λw=>yX rfl) (tP rfl (λw=>yX rfl) (tO (tf rfl rfl (λa hf=>iQ hm zeroValue86 rfl rfl) ?_)))))
    rintro _ w ⟨aH,rfl,hm⟩
    refine tAk hm [2,3] rfl λhS=>tO (tf0 rfl rfl (λa hf=>j7 0 hf hm rfl sizeOf86 rfl rfl rfl (et rfl (et rfl (et rfl (et (fS (hm.ow_rep 1 rfl)) fK)))) rfl rfl) ?_)
    rintro _ w hm
    exact tAn rfl (tP rfl (λw=>yA rfl) (tE (gZ λa hf=>⟨aH,aG,hf.sb rfl,hm.pk [3,2,0,1] rfl rfl⟩)))
   refine tO (tf rfl rfl (λa hf=>iQ hm zeroValue86 rfl rfl) ?_)
   rintro _ w ⟨aI,rfl,hm⟩
   refine tAk hm [1,2] rfl λhS=>tO (tf rfl rfl (λa hf=>fo hf rfl call136 rfl (qa _ r_.list v1p (hm.now h1p) r_.at_ 1 _ aE)) ?_)
   rintro aM w ⟨aJ,rfl,hB⟩
   replace hm:=hm.give hB;clear hB
   refine tAn rfl (tP rfl (λw=>yM rfl) (tP rfl (λw=>yX rfl) (tP rfl (λw=>yX rfl) (tO (tf0 rfl rfl (λa hf=>j7 1 hf hm rfl sizeOf86 rfl rfl rfl (et rfl (et rfl (et rfl (et (fS (hm.ow_rep 0 rfl)) fK)))) rfl rfl) ?_)))))
   rintro _ w hm
   exact tAn rfl (tP rfl (λw=>yA rfl) (tE (gZ λa hf=>⟨aI,aJ,hf.sb rfl,hm.pk [3,2,1,0] rfl rfl⟩)))
  repeat clear hm
  rintro aA a w ⟨aC,aB,hf,hm⟩
  exact gv hf (gS (gR (gM rfl (gM rfl (gY (yG rfl (fI rfl rfl)) (gF jg rfl (gS1 hm 0 sizeOf3 rfl rfl λw hm=>gE (gS (gR (gY (yn (hm.blk_at 2 rfl) isAgg86 sizeOf86 rfl) (gSN hm 1 sizeOf86 (et rfl (et rfl (et rfl (et (fS (hm.ow_rep 3 rfl)) fK)))) rfl λw hm=>gE (gRt (grc 1 results119 hm rfl isAgg86 sizeOf86 ⟨aB,rfl,hm.pk [0,3] rfl rfl⟩)))))))))))))
theorem oy  : (∀ (r_:fF) (r:(List fB) × fF),fx r_=some r→∀ (w0:World) (hz:fU) (bp0:Nat) (v1p:Value) (h1p:GT.rep hz [v1p] r_.list) (hm0:Mem w0 hz w0 [blk bp0 [v1p,nV r_.at_] 59]),Con Tryz.prog 65 [(pV bp0)] w0 (λv w'=>∃ (x1:Value),v=x1∧Mem w0 hz w' [blk bp0 [v1p,nV r.2.at_] 59,ow [x1] r.1])) ∧
    (∀ (r_:fF) (r:fB × fF),iZ r_=some r→∀ (w0:World) (hz:fU) (bp0:Nat) (v1p:Value) (h1p:GT.rep hz [v1p] r_.list) (hm0:Mem w0 hz w0 [blk bp0 [v1p,nV r_.at_] 59]),Con Tryz.prog 100 [(pV bp0)] w0 (λv w'=>∃ (x1:Value) (x2:Value) (x3:Value),v=(.agg #[nV r.1.op,(tV r.1.name),x1,x2,x3])∧Mem w0 hz w' [blk bp0 [v1p,nV r.2.at_] 59,ow [x1] r.1.args,ow [x2] r.1.body,ow [x3] r.1.else_])):=by
  refine fx.mutual_partial_correctness  (motive_1:=λr_ r=>∀ (w0:World) (hz:fU) (bp0:Nat) (v1p:Value) (h1p:GT.rep hz [v1p] r_.list) (hm0:Mem w0 hz w0 [blk bp0 [v1p,nV r_.at_] 59]),Con Tryz.prog 65 [(pV bp0)] w0 (λv w'=>∃ (x1:Value),v=x1∧Mem w0 hz w' [blk bp0 [v1p,nV r.2.at_] 59,ow [x1] r.1])) (motive_2:=λr_ r=>∀ (w0:World) (hz:fU) (bp0:Nat) (v1p:Value) (h1p:GT.rep hz [v1p] r_.list) (hm0:Mem w0 hz w0 [blk bp0 [v1p,nV r_.at_] 59]),Con Tryz.prog 100 [(pV bp0)] w0 (λv w'=>∃ (x1:Value) (x2:Value) (x3:Value),v=(.agg #[nV r.1.op,(tV r.1.name),x1,x2,x3])∧Mem w0 hz w' [blk bp0 [v1p,nV r.2.at_] 59,ow [x1] r.1.args,ow [x2] r.1.body,ow [x3] r.1.else_])) ?_ ?_
  · intro rec_ ih_ r_ r hq w0 hz bp0 v1p h1p hm0
    have pspec_l3Reader__stmt_rec:∀ (w0:World) (hz:fU) (r_:fF) (bp0:Nat) (v1p:Value) (h1p:GT.rep hz [v1p] r_.list) (hm0:Mem w0 hz w0 [blk bp0 [v1p,nV r_.at_] 59]) (r:fB × fF) (hq:rec_ r_=some r),Con Tryz.prog 100 [(pV bp0)] w0 (λv w'=>∃ (x1:Value) (x2:Value) (x3:Value),v=(.agg #[nV r.1.op,(tV r.1.name),x1,x2,x3])∧Mem w0 hz w' [blk bp0 [v1p,nV r.2.at_] 59,ow [x1] r.1.args,ow [x2] r.1.body,ow [x3] r.1.else_]):=λw0 hz r_ bp0 v1p h1p hm0 r hq=>ih_ r_ r hq w0 hz bp0 v1p h1p hm0
    refine kI (ρ:=(List fB) × fF) (R:=λr v w'=>∃ (x1:Value),v=x1∧Mem w0 hz w' [blk bp0 [v1p,nV r.2.at_] 59,ow [x1] r.1]) func65 rfl hq ?_
    have hm:=hm0
    refine gS (gR (gA rfl (gE (gS (gR (gf rfl (λa hf=>ko (α:=fB) lg hm rfl) ?_))))))
    rintro ax w hm
    refine gA rfl (gE (gS (gR (gM rfl ?_))))
    obtain ⟨a8,hle,hm1,hsub,aa⟩:=hm.take2 (L1:=[_]) (L2:=[_]) [1] [0] (by decide) rfl rfl
    refine gCg rfl call62 (iA _ a8 r_ bp0 v1p (GT.mono hle h1p) (mkS [123]) hm1 ) ?_
    rintro aA ay aP w ⟨rfl,hB⟩
    replace hm:=aa _ _ hB;clear hB
    refine gE (gS ?_)
    obtain ⟨aB,aC,rfl,az⟩:=fE (hm.ow_rep 1 rfl)
    refine gJg (λaD a w=>∃ (aJ:Value),St 25 [(0,(pV bp0)),(3,aJ)] w0 hz [blk bp0 [v1p,nV aD.1] 59,ow [aJ] aD.2] a w) (λaD=>?_) ?_
    ·refine gBk (gMg (λaK a w=>∃ (aM:Value),St 25 [(0,(pV bp0)),(3,aM)] w0 hz [blk bp0 [v1p,nV aK.1] 59,ow [aM] aK.2] a w) (λa hf=>⟨.slice aB ([]:List fB).length aC,hf.sb rfl,hm.pk [0,1] rfl rfl⟩) ?_)
     repeat clear hm
     rintro an bA aK a w ⟨aM,hf,hm⟩ bm bB
     refine gv hf (gS (gS (gJ hm (λaQ=>[(0,(pV bp0)),(3,aM),(16,(.bool (aQ)))]) (λaQ=>[blk bp0 [v1p,nV aK.1] 59,ow [aM] aK.2]) (λaQ=>?_) ?_)))
     ·refine gR (gM rfl (gY (yG rfl (fI rfl rfl)) (gF jg rfl (gL hm 0 isAgg3 rfl (gB rfl (gM rfl (gsd 12 rfl (λbC=>?_) λbC=>?_)))))))
      ·exact gM rfl (gC hm rfl call64 (kp _ (⟨r_.list,aK.1⟩:fF) bp0 v1p (hm.now h1p) (hm.blk_cells 0 rfl).1 (mkS [125])) λbo bp w hm=>gN rfl (gKt rfl (gE (gz hm [0,1] rfl))))
      exact gO rfl (gO rfl (gO rfl (gKf rfl (gE (gz hm [0,1] rfl)))))
     repeat clear hm
     intro aQ w hm
     refine gs 16 rfl (λab=>?_) λab=>?_
     ·refine gct rfl (gSk (gBk (gR (gM rfl (gM rfl ?_)))))
      obtain ⟨ac,hle,hm1,hsub,ae⟩:=hm.take2 (L1:=[_]) (L2:=[_]) [0] [1] (by decide) rfl rfl
      refine gCg rfl call100 (pspec_l3Reader__stmt_rec _ ac (⟨r_.list,aK.1⟩:fF) bp0 v1p (GT.mono hle h1p) hm1 ) ?_
      rintro aL bD ao w ⟨aq,af,ag,rfl,hB⟩
      replace hm:=ae _ _ hB;clear hB
      refine gf rfl (λa hf=>fL (vs:=#[(0,(.agg #[nV aL.1.op,(tV aL.1.name),aq,af,ag]))]) (cs:=[nV aL.1.op,(tV aL.1.name),aq,af,ag]) lg hf hm rfl rfl (by kernel_rfl) rfl rfl) ?_
      rintro _ w ⟨ar,rfl,hm⟩
      replace hm:=hm.els_nil (α:=fB)
      replace hm:=(o0 aL.1 hm 3 4 5 rfl).pk (L':=[_,_,_,_,_]) [0,1,2,3,6] rfl rfl
      replace hm:=(hm.els_cons 0 3 (by decide) rfl rfl).pk (L':=[_,_,_,_]) [0,1,2,4] rfl rfl
      replace hm:=(hm.lit_els 1 0 (by decide) rfl rfl rfl rfl).pk (L':=[_,_,_]) [1,2,3] rfl rfl
      refine gb λbE au=>?_
      obtain ⟨ah,bF⟩:=fV.1 au
      replace hm:=(hm.both 2 0 (by decide) rfl rfl).pk (L':=[_,_]) [1,2] rfl rfl
      refine gf rfl (λa hf=>hZ (xs:=aK.2) (ys:=([aL.1]:List fB)) 1 lg hf hm rfl rfl rfl rfl ah) ?_
      rintro aN w hm
      rw [bF] at hm
      exact gA rfl (gE (gZe λa hf=>⟨aN,hf.sb rfl,hm.pk [0,1] rfl rfl⟩))
     exact gcf rfl (gXt (gHh (gLp bB bA (gZ λa hf=>⟨aM,hf.sb rfl,hm.pk [0,1] rfl rfl⟩))))
    repeat clear hm
    rintro aD a w ⟨aJ,hf,hm⟩
    refine gv hf (gS (gR (gM rfl ?_)))
    obtain ⟨ai,hle,hm1,hsub,aj⟩:=hm.take2 (L1:=[_]) (L2:=[_]) [0] [1] (by decide) rfl rfl
    refine gCg rfl call62 (iA _ ai (⟨r_.list,aD.1⟩:fF) bp0 v1p (GT.mono hle h1p) (mkS [125]) hm1 ) ?_
    rintro bG bH bJ w ⟨rfl,hB⟩
    replace hm:=aj _ _ hB;clear hB
    exact gE (gS (gR (gM rfl (gA rfl (gE (gRt (gr1 results65 rfl ⟨aJ,rfl,hm.pk [0,1] rfl rfl⟩)))))))
  · intro rec_ ih_ r_ r hq w0 hz bp0 v1p h1p hm0
    have pspec_l3Reader__block_rec:∀ (w0:World) (hz:fU) (r_:fF) (bp0:Nat) (v1p:Value) (h1p:GT.rep hz [v1p] r_.list) (hm0:Mem w0 hz w0 [blk bp0 [v1p,nV r_.at_] 59]) (r:(List fB) × fF) (hq:rec_ r_=some r),Con Tryz.prog 65 [(pV bp0)] w0 (λv w'=>∃ (x1:Value),v=x1∧Mem w0 hz w' [blk bp0 [v1p,nV r.2.at_] 59,ow [x1] r.1]):=λw0 hz r_ bp0 v1p h1p hm0 r hq=>ih_ r_ r hq w0 hz bp0 v1p h1p hm0
    refine kI (ρ:=fB × fF) (R:=λr v w'=>∃ (x1:Value) (x2:Value) (x3:Value),v=(.agg #[nV r.1.op,(tV r.1.name),x1,x2,x3])∧Mem w0 hz w' [blk bp0 [v1p,nV r.2.at_] 59,ow [x1] r.1.args,ow [x2] r.1.body,ow [x3] r.1.else_]) func100 rfl hq ?_
    have hm:=hm0
    refine gS (gR (gAl hm zeroValue71 rfl λaE w hm=>gE (gS (gS (gW (.p 0 (.p 1 (.p 2 (.p 4 (.p 5 (.p 6 (.q 3 (.e 7 (.p 8 (.p 9 .fin)) .nil)))))))) [7] [0,1,2,4,5,6,8,9] hm [0,1] [blk aE [nV 0,(tV (mkS [])),.slice none 0 0,.slice none 0 0,.slice none 0 0] 71,blk bp0 [v1p,nV r_.at_] 59] rfl mxo (by kernel_rfl) (λ_ _ _ h=>h.2) λw hm hS=>tP rfl (λw=>yM rfl) (tP rfl (λw=>yG rfl (fI rfl rfl)) (tP rfl (λw=>yF jg rfl) (tP rfl (λw=>yM rfl) (tP rfl (λw=>yG rfl (fI rfl rfl)) (tP rfl (λw=>yF qF rfl) (tQ rfl hS (λw hm=>yL hm 1 isAgg3 rfl) (tO (tY rfl (yL hm 1 isAgg30 rfl) (tAs hS ?_))))))))))))))
    obtain ⟨aB,aC,rfl,az⟩:=fE h1p
    refine tP rfl (λw=>yV kq rfl) (tP rfl (λw=>yB rfl) (tE (gsd 13 rfl (λbK=>?_) λbK=>?_)))
    ·refine gct rfl (gS (gR (gM rfl (gY (yG rfl (fI rfl rfl)) (gF jg rfl (gS1 hm 1 sizeOf3 rfl rfl fun w hm => gE (gS (gR (gY (yG rfl (fY (vs := []) (cs := #[nV 0, (tV (mkS [])), .slice none 0 0, .slice none 0 0, .slice none 0 0]) rfl rfl (by kernel_rfl))) (gSN hm 0 sizeOf71 (et rfl (et rfl (et rfl (et rfl (et rfl fK))))) rfl fun w hm => gE (gRt ?_)))))))))))
     replace hm:=hm.nilow (α:=ey)
     replace hm:=hm.nilow (α:=fB)
     replace hm:=hm.nilow (α:=fB)
     exact grc 3 results100 hm rfl isAgg71 sizeOf71 ⟨.slice none 0 0,.slice none 0 0,.slice none 0 0,rfl,hm.pk [4,2,1,0] rfl rfl⟩
    refine gcf rfl (gSk (gS (gJg (λaD a w=>∃ (aF:Nat),St 94 [(0,(pV bp0)),(2,(pV aE)),(3,(pV aF))] w0 hz [blk bp0 [.slice aB r_.list.length aC,nV r_.at_] 59,blk aE [nV 0,(tV (mkS [])),.slice none 0 0,.slice none 0 0,.slice none 0 0] 71,blk aF [nV aD,(tV (mkS [])),.slice none 0 0,.slice none 0 0,.slice none 0 0] 71] a w) (λaD=>?_) ?_)))
    ·refine gW (.p 0 (.p 1 (.p 2 (.p 4 (.p 5 (.p 6 (.q 3 (.q 7 (.p 8 (.p 9 (.q 10 (.e 11 (.p 12 (.e 13 (.e 14 .fin .nil) .nil)) (.e 13 (.e 11 (.p 12 (.e 14 .fin .nil)) .nil) .nil))))))))))))) [3, 7, 13] [0, 1, 2, 4, 5, 6, 8, 9, 12] hm [0, 1] [_, _] rfl mxo (by kernel_rfl) (fun _ _ _ h => h.2) fun w hm hS => tP rfl (fun w => yM rfl) (tP rfl (fun w => yG rfl (fI rfl rfl)) (tP rfl (fun w => yF qF rfl) (tP rfl (fun w => yM rfl) (tP rfl (fun w => yG rfl (fI rfl rfl)) (tP rfl (fun w => yF jg rfl) (tQ rfl hS (fun w hm => yL hm 1 isAgg30 rfl) (tQ rfl hS (fun w hm => yL hm 1 isAgg3 rfl) (gg fun aR bL ak => ?_))))))))
     obtain ⟨bq,br,bs,he⟩:=iS h1p ak
     obtain ⟨rfl,_,rfl⟩:=sl3 he
     refine tP rfl (λw=>yI kq bL (ff ak) rfl) (tP rfl (λw=>yF jk rfl) (tQ rfl hS (λw hm=>yl isAgg9 ((gK (cs:=[nV aR.kind,(tV aR.text)]) (hm.now h1p) ak rfl).cell (j:=1) rfl) rfl) (gb λaS av=>tMo ?_ ?_)))
     ·refine tf rfl rfl (λa hf=>fo hf rfl call118 rfl (sA _ aR.text _ av)) ?_
      rintro bt w ⟨rfl,hB⟩
      replace hm:=hm.below' hB;clear hB
      refine tAn rfl (tP rfl (λw=>yG rfl (fY (vs:=[(0,(nV aS))]) (cs:=#[nV aS,(tV (mkS [])),.slice none 0 0,.slice none 0 0,.slice none 0 0]) rfl rfl (by kernel_rfl))) (tO (tf rfl rfl (λa hf=>iQ hm zeroValue71 rfl rfl) ?_)))
      rintro _ w ⟨bM,rfl,hm⟩
      refine tAk hm [1,2] rfl λhS=>tO (tf0 rfl rfl (λa hf=>j7 0 hf hm rfl sizeOf71 rfl rfl rfl (et rfl (et rfl (et rfl (et rfl (et rfl fK))))) rfl rfl) ?_)
      rintro _ w hm
      exact tAn rfl (tE (gZ λa hf=>⟨bM,hf.sb rfl,hm.pk [2,1,0] rfl rfl⟩))
     refine tO (tf rfl rfl (λa hf=>iQ hm zeroValue71 rfl rfl) ?_)
     rintro _ w ⟨bN,rfl,hm⟩
     refine tAk hm [1,2] rfl λhS=>tO (tf rfl rfl (λa hf=>fo hf rfl call118 rfl (sA _ aR.text _ av)) ?_)
     rintro bu w ⟨rfl,hB⟩
     replace hm:=hm.below' hB;clear hB
     refine tAn rfl (tP rfl (λw=>yG rfl (fY (vs:=[(0,(nV aS))]) (cs:=#[nV aS,(tV (mkS [])),.slice none 0 0,.slice none 0 0,.slice none 0 0]) rfl rfl (by kernel_rfl))) (tO (tf0 rfl rfl (λa hf=>j7 0 hf hm rfl sizeOf71 rfl rfl rfl (et rfl (et rfl (et rfl (et rfl (et rfl fK))))) rfl rfl) ?_)))
     rintro _ w hm
     exact tAn rfl (tE (gZ λa hf=>⟨bN,hf.sb rfl,hm.pk [2,1,0] rfl rfl⟩))
    repeat clear hm
    rintro aD a w ⟨aF,hf,hm⟩
    refine gv hf (gS (gS (gR (gF jY rfl (gL hm 2 isAgg3 rfl (gB rfl (gE (gJ hm (λaO=>[(0,(pV bp0)),(2,(pV aE)),(3,(pV aF))]) (λaO=>[blk bp0 [.slice aB r_.list.length aC,nV aO] 59,blk aE [nV 0,(tV (mkS [])),.slice none 0 0,.slice none 0 0,.slice none 0 0] 71,blk aF [nV aD,(tV (mkS [])),.slice none 0 0,.slice none 0 0,.slice none 0 0] 71]) (λaO=>?_) ?_))))))))
    ·refine gsd 33 rfl (λbO=>?_) λbO=>?_
     ·exact gct rfl (gR (gM rfl (gM rfl (gY (yG rfl (fI rfl rfl)) (gF jg rfl (gL hm 0 isAgg3 rfl (gB rfl (gY (yG rfl (fI rfl rfl)) (gF jg rfl (gS1 hm 0 sizeOf3 rfl rfl λw hm=>gE (gz hm [0,1,2] rfl)))))))))))
     exact gcf rfl (gSk (gz hm [0,1,2] rfl))
    repeat clear hm
    intro aO w hm
    refine gS (gS (gJ hm (λaT=>[(0,(pV bp0)),(2,(pV aE)),(3,(pV aF)),(49,(.bool (aT)))]) (λaT=>[blk bp0 [.slice aB r_.list.length aC,nV aO] 59,blk aE [nV 0,(tV (mkS [])),.slice none 0 0,.slice none 0 0,.slice none 0 0] 71,blk aF [nV aD,(tV (mkS [])),.slice none 0 0,.slice none 0 0,.slice none 0 0] 71]) (λaT=>?_) ?_))
    ·refine gR (gF jY rfl (gL hm 2 isAgg3 rfl (gB rfl (gM rfl (gsd 45 rfl (λbP=>?_) λbP=>?_)))))
     ·exact gO rfl (gO rfl (gO rfl (gKt rfl (gE (gz hm [0,1,2] rfl)))))
     exact gF jY rfl (gL hm 2 isAgg3 rfl (gB rfl (gKf rfl (gE (gz hm [0,1,2] rfl)))))
    repeat clear hm
    intro aT w hm
    refine gJ hm (λaH=>[(0,(pV bp0)),(2,(pV aE)),(3,(pV aF))]) (λaH=>[blk bp0 [.slice aB r_.list.length aC,nV aH.1] 59,blk aE [nV 0,(tV (mkS [])),.slice none 0 0,.slice none 0 0,.slice none 0 0] 71,blk aF [nV aD,(tV aH.2),.slice none 0 0,.slice none 0 0,.slice none 0 0] 71]) (λaH=>?_) ?_
    ·refine gs 49 rfl (λbQ=>?_) λbQ=>?_
     ·refine gct rfl (gS (gR (gM rfl ?_)))
      obtain ⟨bR,hle,hm1,hsub,bS⟩:=hm.take2 (L1:=[_]) (L2:=[_,_]) [0] [1,2] (by decide) rfl rfl
      refine gCg rfl call63 (lV _ bR (⟨r_.list,aO⟩:fF) bp0 (.slice aB r_.list.length aC) (GT.mono hle h1p) hm1 ) ?_
      rintro an bv bw w ⟨rfl,hB⟩
      replace hm:=bS _ _ hB;clear hB
      refine gF lL rfl (gS1 hm 2 sizeOf9 rfl rfl λw hm=>gE (gR (gM rfl ?_)))
      obtain ⟨bT,hle,hm1,hsub,bU⟩:=hm.take2 (L1:=[_]) (L2:=[_,_]) [0] [1,2] (by decide) rfl rfl
      refine gCg rfl call62 (iA _ bT (⟨r_.list,an.2.at_⟩:fF) bp0 (.slice aB r_.list.length aC) (GT.mono hle h1p) (mkS [61]) hm1 ) ?_
      rintro bz cA cC w ⟨rfl,hB⟩
      replace hm:=bU _ _ hB;clear hB
      exact gE (gz hm [0,1,2] rfl)
     exact gcf rfl (gSk (gz hm [0,1,2] rfl))
    repeat clear hm
    intro aH w hm
    refine gS (gR (gM rfl ?_))
    obtain ⟨a8,hle,hm1,hsub,aa⟩:=hm.take2 (L1:=[_]) (L2:=[_,_]) [0] [1,2] (by decide) rfl rfl
    refine gCg rfl call119 (nI _ a8 (⟨r_.list,aH.1⟩:fF) bp0 (.slice aB r_.list.length aC) (GT.mono hle h1p) hm1 ) ?_
    rintro aA ay ax w ⟨aP,rfl,hB⟩
    replace hm:=aa _ _ hB;clear hB
    refine gf rfl (λa hf=>fL (vs:=#[(0,(.agg #[nV aA.1.op,nV aA.1.n_,(tV aA.1.name),aP]))]) (cs:=[nV aA.1.op,nV aA.1.n_,(tV aA.1.name),aP]) jl hf hm rfl rfl (by kernel_rfl) rfl rfl) ?_
    rintro _ w ⟨aI,rfl,hm⟩
    replace hm:=hm.els_nil (α:=ey)
    replace hm:Mem w0 hz _ [els [] ([]:List ey),blk aI [nV aA.1.op,nV aA.1.n_,(tV aA.1.name),aP] 86,blk bp0 [.slice aB r_.list.length aC,nV aA.2.at_] 59,ow [nV aA.1.op,nV aA.1.n_,(tV aA.1.name),aP] (aA.1:ey),blk aE [nV 0,(tV (mkS [])),.slice none 0 0,.slice none 0 0,.slice none 0 0] 71,blk aF [nV aD,(tV aH.2),.slice none 0 0,.slice none 0 0,.slice none 0 0] 71]:=iM aA.1 hm 3 rfl
    replace hm:=(hm.els_cons 0 3 (by decide) rfl rfl).pk (L':=[_,_,_,_,_]) [0,1,2,4,5] rfl rfl
    replace hm:=(hm.lit_els 1 0 (by decide) rfl rfl rfl rfl).pk (L':=[_,_,_,_]) [1,2,3,4] rfl rfl
    refine gF je rfl (gS1 hm 3 sizeOf69 rfl rfl λw hm=>gE (gS (gS (gR (gF jY rfl (gL hm 3 isAgg3 rfl (gE (sn (λaU a w=>∃ (aJ:Value),St 94 [(0,(pV bp0)),(2,(pV aE)),(3,(pV aF))] w0 hz [blk bp0 [.slice aB r_.list.length aC,nV aU.1] 59,blk aE [nV 0,(tV (mkS [])),.slice none 0 0,.slice none 0 0,.slice none 0 0] 71,blk aF [nV aD,(tV aH.2),aJ,.slice none 0 0,.slice none 0 0] 71,ow [aJ] aU.2] a w) (λcD aw=>?_) ?_))))))))
    ·refine gBk (gS (gR (gB rfl (gA rfl (gE (gsd 61 rfl (λbV=>?_) λbV=>?_))))))
     ·refine gct rfl (gS (gR (gM rfl ?_)))
      obtain ⟨bW,hle,hm1,hsub,bX⟩:=hm.take2 (L1:=[_]) (L2:=[_,_,_]) [1] [0,2,3] (by decide) rfl rfl
      refine gCg rfl call65 (pspec_l3Reader__block_rec _ bW (⟨r_.list,aA.2.at_⟩:fF) bp0 (.slice aB r_.list.length aC) (GT.mono hle h1p) hm1 ) ?_
      rintro al cE am w ⟨_,rfl,hB⟩
      replace hm:=bX _ _ hB;clear hB
      refine gF lB rfl (gS1 hm 4 sizeOf52 (fS (hm.ow_rep 1 rfl)) rfl λw hm=>gE (gS (gS (gR (gM rfl (gC hm rfl call64 (kp _ (⟨r_.list,al.2.at_⟩:fF) bp0 (.slice aB r_.list.length aC) (hm.now h1p) (hm.blk_cells 0 rfl).1 (mkS [101,108,115,101])) λcF cG w hm=>gE (gJg (λaV a w=>∃ (aX:Value),St 94 [(2,(pV aE)),(3,(pV aF))] w0 hz [blk aE [nV 0,(tV (mkS [])),.slice none 0 0,.slice none 0 0,.slice none 0 0] 71,blk aF [nV aD,(tV aH.2),sV aI 0 1 1,am,aX] 71,ow [sV aI 0 1 1] ([aA.1]:List ey),ow [am] al.1,ow [aX] aV.1,blk bp0 [.slice aB r_.list.length aC,nV aV.2] 59] a w) (λaV=>?_) ?_)))))))
      ·refine gs 67 rfl (λab=>?_) λab=>?_
       ·refine gct rfl (gS (gR (gM rfl ?_)))
        obtain ⟨ac,hle,hm1,hsub,ae⟩:=hm.take2 (L1:=[_]) (L2:=[_,_,_,_]) [0] [1,2,3,4] (by decide) rfl rfl
        refine gCg rfl call62 (iA _ ac (⟨r_.list,al.2.at_⟩:fF) bp0 (.slice aB r_.list.length aC) (GT.mono hle h1p) (mkS [101,108,115,101]) hm1 ) ?_
        rintro aL bD aM w ⟨rfl,hB⟩
        replace hm:=ae _ _ hB;clear hB
        refine gE (gR (gM rfl ?_))
        obtain ⟨bY,hle,hm1,hsub,bZ⟩:=hm.take2 (L1:=[_]) (L2:=[_,_,_,_]) [0] [1,2,3,4] (by decide) rfl rfl
        refine gCg rfl call65 (pspec_l3Reader__block_rec _ bY (⟨r_.list,aL.at_⟩:fF) bp0 (.slice aB r_.list.length aC) (GT.mono hle h1p) hm1 ) ?_
        rintro cH au ao w ⟨_,rfl,hB⟩
        replace hm:=bZ _ _ hB;clear hB
        exact gF lH rfl (gS1 hm 5 sizeOf52 (fS (hm.ow_rep 1 rfl)) rfl λw hm=>gE (gZ λa hf=>⟨ao,hf.sb rfl,hm.pk [4,5,3,2,1,0] rfl rfl⟩))
       refine gcf rfl (gSk ?_)
       replace hm:=hm.nilow (α:=fB)
       exact gZ λa hf=>⟨.slice none 0 0,hf.sb rfl,hm.pk [4,5,3,2,0,1] rfl rfl⟩
      repeat clear hm
      rintro aV a w ⟨aX,hf,hm⟩
      exact gv hf (gS (gR (gY (yn (hm.blk_at 1 rfl) isAgg71 sizeOf71 rfl) (gSN hm 0 sizeOf71 (et rfl (et rfl (et rfl (et (fS (hm.ow_rep 3 rfl)) (et (fS (hm.ow_rep 4 rfl)) fK))))) rfl λw hm=>gE (gRt (gEr aw (grc 0 results100 hm rfl isAgg71 sizeOf71 ⟨sV aI 0 1 1,am,aX,rfl,hm.pk [5,2,3,4] rfl rfl⟩)))))))
     refine gcf rfl (gS (gR (gB rfl (gA rfl (gE (gsd 74 rfl (λb8=>?_) λb8=>?_))))))
     ·refine gct rfl (gS (gR (gM rfl ?_)))
      obtain ⟨b9,hle,hm1,hsub,ba⟩:=hm.take2 (L1:=[_]) (L2:=[_,_,_]) [1] [0,2,3] (by decide) rfl rfl
      refine gCg rfl call65 (pspec_l3Reader__block_rec _ b9 (⟨r_.list,aA.2.at_⟩:fF) bp0 (.slice aB r_.list.length aC) (GT.mono hle h1p) hm1 ) ?_
      rintro cI cJ bb w ⟨_,rfl,hB⟩
      replace hm:=ba _ _ hB;clear hB
      refine gF lB rfl (gS1 hm 4 sizeOf52 (fS (hm.ow_rep 1 rfl)) rfl λw hm=>gE (gS (gR (gY (yn (hm.blk_at 4 rfl) isAgg71 sizeOf71 rfl) (gSN hm 3 sizeOf71 (et rfl (et rfl (et rfl (et (fS (hm.ow_rep 1 rfl)) (et rfl fK))))) rfl λw hm=>gE (gRt (gEr aw ?_)))))))
      replace hm:=hm.nilow (α:=fB)
      exact grc 4 results100 hm rfl isAgg71 sizeOf71 ⟨sV aI 0 1 1,bb,.slice none 0 0,rfl,hm.pk [1,3,2,0] rfl rfl⟩
     refine gcf rfl (gS (gR (gB rfl (gA rfl (gE (gJg (λaY a w=>∃ (aZ:Value),St 94 [(0,(pV bp0)),(2,(pV aE)),(3,(pV aF))] w0 hz [blk bp0 [.slice aB r_.list.length aC,nV aY.1] 59,blk aE [nV 0,(tV (mkS [])),.slice none 0 0,.slice none 0 0,.slice none 0 0] 71,blk aF [nV aD,(tV aH.2),aZ,.slice none 0 0,.slice none 0 0] 71,ow [aZ] aY.2] a w) (λaY=>?_) ?_))))))
     ·refine gsd 80 rfl (λah=>?_) λah=>?_
      ·refine gct rfl (gS (gR (gM rfl ?_)))
       obtain ⟨bc,hle,hm1,hsub,bd⟩:=hm.take2 (L1:=[_]) (L2:=[_,_,_]) [1] [0,2,3] (by decide) rfl rfl
       refine gCg rfl call62 (iA _ bc (⟨r_.list,aA.2.at_⟩:fF) bp0 (.slice aB r_.list.length aC) (GT.mono hle h1p) (mkS [44]) hm1 ) ?_
       rintro be cK af w ⟨rfl,hB⟩
       replace hm:=bd _ _ hB;clear hB
       refine gE (gW (.p 0 (.p 2 (.q 1 (.e 3 (.e 4 (.e 5 (.p 6 (.e 7 .fin .nil)) .nil) .nil) .nil)))) [3,4] [0,2,6] hm [1,2,3] [ow [sV aI 0 1 1] ([aA.1]:List ey),blk aE [nV 0,(tV (mkS [])),.slice none 0 0,.slice none 0 0,.slice none 0 0] 71,blk aF [nV aD,(tV aH.2),sV aI 0 1 1,.slice none 0 0,.slice none 0 0] 71] rfl mxo (by kernel_rfl) (λ_ _ _ h=>h.2) λw hm hS=>tP rfl (λw=>yF je rfl) (tP rfl (λw=>yM rfl) (tQ rfl hS (λw hm=>yL hm 2 isAgg69 rfl) (tO (gb λaG bf=>?_)))))
       obtain ⟨bg,hle,hm1,hsub,bh⟩:=hm.take2 (L1:=[_]) (L2:=[_,_,_]) [0] [1,2,3] (by decide) rfl rfl
       refine tf rfl rfl (λa hf=>fo hf rfl call119 rfl (nI _ bg (⟨r_.list,be.at_⟩:fF) bp0 (.slice aB r_.list.length aC) (GT.mono hle h1p) hm1  _ bf)) ?_
       rintro ag w ⟨aN,rfl,hB⟩
       replace hm:=bh _ _ hB;clear hB
       refine tAk hm [2,3,4] rfl λhS=>tO (tf rfl rfl (λa hf=>fL (vs:=#[(0,(.agg #[nV aG.1.op,nV aG.1.n_,(tV aG.1.name),aN]))]) (cs:=[nV aG.1.op,nV aG.1.n_,(tV aG.1.name),aN]) jl hf hm rfl rfl (by kernel_rfl) rfl rfl) ?_)
       rintro _ w ⟨ar,rfl,hm⟩
       replace hm:=hm.els_nil (α:=ey)
       replace hm:Mem w0 hz _ [els [] ([]:List ey),blk ar [nV aG.1.op,nV aG.1.n_,(tV aG.1.name),aN] 86,blk bp0 [.slice aB r_.list.length aC,nV aG.2.at_] 59,ow [nV aG.1.op,nV aG.1.n_,(tV aG.1.name),aN] (aG.1:ey),ow [sV aI 0 1 1] ([aA.1]:List ey),blk aE [nV 0,(tV (mkS [])),.slice none 0 0,.slice none 0 0,.slice none 0 0] 71,blk aF [nV aD,(tV aH.2),sV aI 0 1 1,.slice none 0 0,.slice none 0 0] 71]:=iM aG.1 hm 3 rfl
       replace hm:=(hm.els_cons 0 3 (by decide) rfl rfl).pk (L':=[_,_,_,_,_,_]) [0,1,2,4,5,6] rfl rfl
       replace hm:=(hm.lit_els 1 0 (by decide) rfl rfl rfl rfl).pk (L':=[_,_,_,_,_]) [1,2,3,4,5] rfl rfl
       refine tAk hm [2,3,4] rfl λhS=>tO (gb λbE bi=>?_)
       obtain ⟨bj,bk⟩:=fV.1 bi
       replace hm:=(hm.both 2 0 (by decide) rfl rfl).pk (L':=[_,_,_,_]) [1,2,3,4] rfl rfl
       refine tf rfl rfl (λa hf=>hZ (xs:=([aA.1]:List ey)) (ys:=([aG.1]:List ey)) 1 jl hf hm rfl rfl rfl rfl bj) ?_
       rintro bl w hm
       rw [bk] at hm
       refine tAn rfl (tP rfl (λw=>yF je rfl) (tO (tf0 rfl rfl (λa hf=>jw 3 hf hm rfl sizeOf69 rfl rfl rfl (fS (hm.ow_rep 1 rfl)) rfl) ?_)))
       rintro _ w hm
       exact tAn rfl (tE (gZ λa hf=>⟨bl,hf.sb rfl,hm.pk [0,2,3,1] rfl rfl⟩))
      exact gcf rfl (gSk (gZ λa hf=>⟨sV aI 0 1 1,hf.sb rfl,hm.pk [1,2,3,0] rfl rfl⟩))
     repeat clear hm
     rintro aY a w ⟨aZ,hf,hm⟩
     exact gv hf (gZe λa hf=>⟨aZ,hf.sb rfl,hm.pk [0,1,2,3] rfl rfl⟩)
    repeat clear hm
    rintro aU a w ⟨aJ,hf,hm⟩
    refine gv hf (gS (gR (gM rfl ?_)))
    obtain ⟨ai,hle,hm1,hsub,aj⟩:=hm.take2 (L1:=[_]) (L2:=[_,_,_]) [0] [1,2,3] (by decide) rfl rfl
    refine gCg rfl call62 (iA _ ai (⟨r_.list,aU.1⟩:fF) bp0 (.slice aB r_.list.length aC) (GT.mono hle h1p) (mkS [59]) hm1 ) ?_
    rintro bG bH bJ w ⟨rfl,hB⟩
    replace hm:=aj _ _ hB;clear hB
    refine gE (gS (gR (gY (yn (hm.blk_at 2 rfl) isAgg71 sizeOf71 rfl) (gSN hm 1 sizeOf71 (et rfl (et rfl (et (fS (hm.ow_rep 3 rfl)) (et rfl (et rfl fK))))) rfl λw hm=>gE (gRt ?_)))))
    replace hm:=hm.nilow (α:=fB)
    replace hm:=hm.nilow (α:=fB)
    exact grc 3 results100 hm rfl isAgg71 sizeOf71 ⟨aJ,.slice none 0 0,.slice none 0 0,rfl,hm.pk [2,5,1,0] rfl rfl⟩
theorem pX (w0:World) (hz:fU) (r_:fF) (bp0:Nat) (v1p:Value) (h1p:GT.rep hz [v1p] r_.list) (hm0:Mem w0 hz w0 [blk bp0 [v1p,nV r_.at_] 59]) (r:(List fB) × fF) (hq:fx r_=some r):Con Tryz.prog 65 [(pV bp0)] w0 (λv w'=>∃ (x1:Value),v=x1∧Mem w0 hz w' [blk bp0 [v1p,nV r.2.at_] 59,ow [x1] r.1]):=(oy ).1 r_ r hq w0 hz bp0 v1p h1p hm0
theorem qU (w0:World) (hz:fU) (r_:fF) (bp0:Nat) (v1p:Value) (h1p:GT.rep hz [v1p] r_.list) (hm0:Mem w0 hz w0 [blk bp0 [v1p,nV r_.at_] 59]) :
    iF Tryz.prog 24 [(pV bp0)] w0 (ij r_) λr v w'=>∃ (x1:Value) (x2:Value),v=(.agg #[(tV r.1.name),x1,x2])∧Mem w0 hz w' [blk bp0 [v1p,nV r.2.at_] 59,ow [x1] r.1.params,ow [x2] r.1.body]:=by
  unfold ij
  refine iR func24 rfl λr=>?_
  have hm:=hm0
  refine gS (gR (gAl hm zeroValue54 rfl λaB w hm=>gE (gS (gR (gM rfl ?_)))))
  obtain ⟨aM,hle,hm1,hsub,aN⟩:=hm.take2 (L1:=[_]) (L2:=[_]) [1] [0] (by decide) rfl rfl
  refine gCg rfl call62 (iA _ aM r_ bp0 v1p (GT.mono hle h1p) (mkS [102,110]) hm1 ) ?_
  rintro aO ao aq w ⟨rfl,hB⟩
  replace hm:=aN _ _ hB;clear hB
  refine gE (gS (gR (gM rfl ?_)))
  obtain ⟨aP,hle,hm1,hsub,aQ⟩:=hm.take2 (L1:=[_]) (L2:=[_]) [0] [1] (by decide) rfl rfl
  refine gCg rfl call63 (lV _ aP (⟨r_.list,aO.at_⟩:fF) bp0 v1p (GT.mono hle h1p) hm1 ) ?_
  rintro aD ar au w ⟨rfl,hB⟩
  replace hm:=aQ _ _ hB;clear hB
  refine gY (yG rfl (fY (vs:=[(0,(tV aD.1))]) (cs:=#[(tV aD.1),.slice none 0 0,.slice none 0 0]) rfl rfl (by kernel_rfl))) (gAl hm zeroValue54 rfl λaC w hm=>gSN hm 0 sizeOf54 (et rfl (et rfl (et rfl fK))) rfl λw hm=>gE (gS (gR (gM rfl ?_))))
  obtain ⟨aR,hle,hm1,hsub,aS⟩:=hm.take2 (L1:=[_]) (L2:=[_,_]) [1] [0,2] (by decide) rfl rfl
  refine gCg rfl call62 (iA _ aR (⟨r_.list,aD.2.at_⟩:fF) bp0 v1p (GT.mono hle h1p) (mkS [40]) hm1 ) ?_
  rintro av aw ax w ⟨rfl,hB⟩
  replace hm:=aS _ _ hB;clear hB
  refine gE (gS (gJg (λaF a w=>∃ (aH:Value),St 40 [(0,(pV bp0)),(2,(pV aB)),(3,(pV aC))] w0 hz [blk bp0 [v1p,nV aF.1] 59,blk aB [(tV (mkS [])),.slice none 0 0,.slice none 0 0] 54,blk aC [(tV aD.1),aH,.slice none 0 0] 54,ow [aH] aF.2] a w) (λaF=>?_) ?_))
  ·refine gBk ?_
   replace hm:=hm.nilow (α:=Str)
   refine gMg (λaA a w=>∃ (aE:Value),St 40 [(0,(pV bp0)),(2,(pV aB)),(3,(pV aC))] w0 hz [blk bp0 [v1p,nV aA.1] 59,blk aB [(tV (mkS [])),.slice none 0 0,.slice none 0 0] 54,blk aC [(tV aD.1),aE,.slice none 0 0] 54,ow [aE] aA.2] a w) (λa hf=>⟨.slice none 0 0,hf.sb rfl,hm.pk [1,3,2,0] rfl rfl⟩) ?_
   repeat clear hm
   rintro ay aT aA a w ⟨aE,hf,hm⟩ az aU
   refine gv hf (gS (gS (gJ hm (λaI=>[(0,(pV bp0)),(2,(pV aB)),(3,(pV aC)),(20,(.bool (aI)))]) (λaI=>[blk bp0 [v1p,nV aA.1] 59,blk aB [(tV (mkS [])),.slice none 0 0,.slice none 0 0] 54,blk aC [(tV aD.1),aE,.slice none 0 0] 54,ow [aE] aA.2]) (λaI=>?_) ?_)))
   ·refine gR (gM rfl (gY (yG rfl (fI rfl rfl)) (gF jg rfl (gL hm 0 isAgg3 rfl (gB rfl (gM rfl (gsd 16 rfl (λaV=>?_) λaV=>?_)))))))
    ·exact gM rfl (gC hm rfl call64 (kp _ (⟨r_.list,aA.1⟩:fF) bp0 v1p (hm.now h1p) (hm.blk_cells 0 rfl).1 (mkS [41])) λbA bB w hm=>gN rfl (gKt rfl (gE (gz hm [0,1,2,3] rfl))))
    exact gO rfl (gO rfl (gO rfl (gKf rfl (gE (gz hm [0,1,2,3] rfl)))))
   repeat clear hm
   intro aI w hm
   refine gs 20 rfl (λaX=>?_) λaX=>?_
   ·refine gct rfl (gSk (gBk (gS (gS (gR (gF kE rfl (gL hm 2 isAgg47 rfl ?_)))))))
    obtain ⟨aK,aL,rfl,bC⟩:=fE (hm.ow_rep 3 rfl)
    refine gY (yV jO rfl) (gB rfl (gE (gJ hm (λaG=>[(0,(pV bp0)),(2,(pV aB)),(3,(pV aC))]) (λaG=>[blk bp0 [v1p,nV aG] 59,blk aB [(tV (mkS [])),.slice none 0 0,.slice none 0 0] 54,blk aC [(tV aD.1),.slice aK aA.2.length aL,.slice none 0 0] 54,ow [.slice aK aA.2.length aL] aA.2]) (λaG=>?_) ?_)))
    ·refine gsd 24 rfl (λaY=>?_) λaY=>?_
     ·refine gct rfl (gR (gM rfl ?_))
      obtain ⟨aZ,hle,hm1,hsub,a8⟩:=hm.take2 (L1:=[_]) (L2:=[_,_,_]) [0] [1,2,3] (by decide) rfl rfl
      refine gCg rfl call62 (iA _ aZ (⟨r_.list,aA.1⟩:fF) bp0 v1p (GT.mono hle h1p) (mkS [44]) hm1 ) ?_
      rintro bD bE bF w ⟨rfl,hB⟩
      replace hm:=a8 _ _ hB;clear hB
      exact gE (gz hm [0,1,2,3] rfl)
     exact gcf rfl (gSk (gz hm [0,1,2,3] rfl))
    repeat clear hm
    intro aG w hm
    refine gW (.p 0 (.p 2 (.q 1 (.e 3 (.e 4 (.e 5 (.p 6 (.e 7 .fin .nil)) .nil) .nil) .nil)))) [3,4] [0,2,6] hm [1,2,3] [_,_,_] rfl mxo (by kernel_rfl) (λ_ _ _ h=>h.2) λw hm hS=>tP rfl (λw=>yF kE rfl) (tP rfl (λw=>yM rfl) (tQ rfl hS (λw hm=>yL hm 1 isAgg47 rfl) (tO (gb λaJ aa=>?_))))
    obtain ⟨ab,hle,hm1,hsub,ac⟩:=hm.take2 (L1:=[_]) (L2:=[_,_,_]) [0] [1,2,3] (by decide) rfl rfl
    refine tf rfl rfl (λa hf=>fo hf rfl call63 rfl (lV _ ab (⟨r_.list,aG⟩:fF) bp0 v1p (GT.mono hle h1p) hm1  _ aa)) ?_
    rintro bG w ⟨rfl,hB⟩
    replace hm:=ac _ _ hB;clear hB
    refine tAk hm [1,2,3] rfl λhS=>tO (tf rfl rfl (λa hf=>fL (vs:=#[(0,(tV aJ.1))]) (cs:=[(tV aJ.1)]) lK hf hm rfl rfl (by kernel_rfl) rfl rfl) ?_)
    rintro _ w ⟨bH,rfl,hm⟩
    replace hm:=hm.lit (xs:=([aJ.1]:List Str)) 0 rfl rfl rfl rfl
    refine tAk hm [2,3,4] rfl λhS=>tO (gb λbJ ae=>?_)
    obtain ⟨af,ag⟩:=fV.1 ae
    refine tf rfl rfl (λa hf=>iL 4 lK hf hm rfl (hm.ow_rep 0 rfl) rfl rfl rfl af) ?_
    rintro ah w hm
    rw [ag] at hm
    refine tAn rfl (tP rfl (λw=>yF kE rfl) (tO (tf0 rfl rfl (λa hf=>jw 3 hf hm rfl sizeOf47 rfl rfl rfl (fS (hm.ow_rep 4 rfl)) rfl) ?_)))
    rintro _ w hm
    exact tAn rfl (tE (gZe λa hf=>⟨ah,hf.sb rfl,hm.pk [1,2,3,4] rfl rfl⟩))
   exact gcf rfl (gXt (gHh (gLp aU aT (gZ λa hf=>⟨aE,hf.sb rfl,hm.pk [0,1,2,3] rfl rfl⟩))))
  repeat clear hm
  rintro aF a w ⟨aH,hf,hm⟩
  refine gv hf (gS (gR (gM rfl ?_)))
  obtain ⟨ai,hle,hm1,hsub,aj⟩:=hm.take2 (L1:=[_]) (L2:=[_,_,_]) [0] [1,2,3] (by decide) rfl rfl
  refine gCg rfl call62 (iA _ ai (⟨r_.list,aF.1⟩:fF) bp0 v1p (GT.mono hle h1p) (mkS [41]) hm1 ) ?_
  rintro ak bK bL w ⟨rfl,hB⟩
  replace hm:=aj _ _ hB;clear hB
  refine gE (gS (gR (gM rfl ?_)))
  obtain ⟨al,hle,hm1,hsub,am⟩:=hm.take2 (L1:=[_]) (L2:=[_,_,_]) [0] [1,2,3] (by decide) rfl rfl
  refine gCg rfl call65 (pX _ al (⟨r_.list,ak.at_⟩:fF) bp0 v1p (GT.mono hle h1p) hm1 ) ?_
  rintro bM bN an w ⟨_,rfl,hB⟩
  replace hm:=am _ _ hB;clear hB
  exact gF l0 rfl (gS1 hm 3 sizeOf52 (fS (hm.ow_rep 1 rfl)) rfl λw hm=>gE (gS (gR (gY (yn (hm.blk_at 3 rfl) isAgg54 sizeOf54 rfl) (gSN hm 2 sizeOf54 (et rfl (et (fS (hm.ow_rep 4 rfl)) (et (fS (hm.ow_rep 1 rfl)) fK))) rfl λw hm=>gE (gRt (grc 2 results24 hm rfl isAgg54 sizeOf54 ⟨aH,an,rfl,hm.pk [0,4,1] rfl rfl⟩)))))))
theorem oO (w0:World) (s_:Str) :
    iF Tryz.prog 8 [(tV s_)] w0 (iP s_) λr v w'=>∃ (x1:Value),v=(.tuple #[(.agg #[x1]),(.bool (r.2))])∧Mem w0 (hp w0) w' [ow [x1] r.1.fns]:=by
  unfold iP
  refine iR func8 rfl λr=>?_
  have hm:=Mem.start w0
  refine gS (gR (gAl hm zeroValue26 rfl λaB w hm=>gA rfl (gE (gS (gR (gM rfl (gCg rfl call23 (td _ s_) ?_)))))))
  rintro aA ag ah w ⟨ai,rfl,hB⟩
  replace hm:=hm.give hB;clear hB
  refine gM rfl (gX rfl (gX rfl (gA rfl (gA rfl (gE (gS (gS (gR (gM rfl (gN rfl (gE (gsn 14 rfl (λaR=>?_) λaR=>?_))))))))))))
  ·refine gct rfl (gS (gR (gY (yG rfl (fY (vs := []) (cs := #[.slice none 0 0]) rfl rfl (by kernel_rfl))) (gSN hm 1 sizeOf26 (et rfl fK) rfl fun w hm => gA rfl (gE (gRt ?_))))))
   replace hm:=hm.nilow (α:=Fn_)
   exact s8 2 results8 hm rfl isAgg26 sizeOf26 ⟨.slice none 0 0,rfl,hm.pk [0] rfl rfl⟩
  refine gcf rfl (gSk (gS (gR (gM rfl ?_))))
  obtain ⟨aC,aD,rfl,aj⟩:=fE (hm.ow_rep 0 rfl)
  refine gY (yG rfl (fY (vs:=[(0,(.slice aC aA.1.length aD))]) (cs:=#[.slice aC aA.1.length aD,nV 0]) rfl rfl (by kernel_rfl))) (gBx hm rfl λaH w hm=>gA rfl (gE (gS (gR (gY (yG rfl (fY (vs:=[]) (cs:=#[.slice none 0 0]) rfl rfl (by kernel_rfl))) (gAl hm zeroValue26 rfl λaE w hm=>gSN hm 0 sizeOf26 (et rfl fK) rfl λw hm=>gE (gS ?_)))))))
  obtain ⟨aN,aO,hz_r0_1,hmf⟩:=hm.freeze 2 rfl
  replace hm:=hmf.pk (L':=[_,_,_]) [0,1,3] rfl rfl
  clear hmf
  replace hz_r0_1:GT.rep aN [.slice aC aA.1.length aD] aA.1:=kZ hz_r0_1
  refine gJg (λaJ a w=>∃ (aI:Value),St 53 [(2,(pV aB)),(6,(pV aH)),(7,(pV aE))] w0 aN [blk aB [.slice none 0 0] 26,blk aH [.slice aC aA.1.length aD,nV aJ.1] 59,blk aE [aI] 26,ow [aI] aJ.2] a w) (λaJ=>?_) ?_
  ·refine gBk ?_
   replace hm:=hm.nilow (α:=Fn_)
   refine gMg (λaF a w=>∃ (aG:Value),St 53 [(2,(pV aB)),(4,(.slice aC aA.1.length aD)),(6,(pV aH)),(7,(pV aE))] w0 aN [blk aB [.slice none 0 0] 26,blk aH [.slice aC aA.1.length aD,nV aF.1] 59,blk aE [aG] 26,ow [aG] aF.2] a w) (λa hf=>⟨.slice none 0 0,hf.sb rfl,hm.pk [3,2,1,0] rfl rfl⟩) ?_
   repeat clear hm
   rintro ak aS aF a w ⟨aG,hf,hm⟩ al aT
   refine gv hf (gS (gS (gJ hm (λaK=>[(2,(pV aB)),(4,(.slice aC aA.1.length aD)),(6,(pV aH)),(7,(pV aE)),(33,(.bool (aK)))]) (λaK=>[blk aB [.slice none 0 0] 26,blk aH [.slice aC aA.1.length aD,nV aF.1] 59,blk aE [aG] 26,ow [aG] aF.2]) (λaK=>?_) ?_)))
   ·refine gR (gM rfl (gY (yG rfl (fI rfl rfl)) (gF jg rfl (gL hm 1 isAgg3 rfl (gB rfl (gM rfl (gsd 25 rfl (λaU=>?_) λaU=>?_)))))))
    ·exact gM rfl (gY (yG rfl (fI rfl rfl)) (gF jg rfl (gL hm 1 isAgg3 rfl (gM rfl (gY (yV kq rfl) (gB rfl (gKt rfl (gE (gz hm [0,1,2,3] rfl)))))))))
    exact gO rfl (gO rfl (gO rfl (gO rfl (gO rfl (gO rfl (gO rfl (gKf rfl (gE (gz hm [0,1,2,3] rfl)))))))))
   repeat clear hm
   intro aK w hm
   refine gs 33 rfl (λaV=>?_) λaV=>?_
   ·refine gct rfl (gSk (gBk (gW (.p 0 (.p 2 (.q 1 (.e 3 (.e 4 (.e 5 (.p 6 (.e 7 .fin .nil)) .nil) .nil) .nil)))) [3, 4] [0, 2, 6] hm [0, 2, 3] [blk aB [.slice none 0 0] 26, blk aE [aG] 26, ow [aG] aF.2] rfl mxo (by kernel_rfl) (fun _ _ _ h => h.2) fun w hm hS => tP rfl (fun w => yF im rfl) (tP rfl (fun w => yM rfl) (tQ rfl hS (fun w hm => yL hm 1 isAgg24 rfl) (tO (gb fun aL aX => ?_)))))))
    obtain ⟨aY,hle,hm1,hsub,aZ⟩:=hm.take2 (L1:=[_]) (L2:=[_,_,_]) [1] [0,2,3] (by decide) rfl rfl
    refine tf rfl rfl (λa hf=>fo hf rfl call24 rfl (qU _ aY (⟨aA.1,aF.1⟩:fF) aH (.slice aC aA.1.length aD) (GT.mono hle hz_r0_1) hm1  _ aX)) ?_
    rintro am w ⟨aP,aQ,rfl,hB⟩
    replace hm:=aZ _ _ hB;clear hB
    refine tAk hm [3,4,5] rfl λhS=>tO (tf rfl rfl (λa hf=>fL (vs:=#[(0,(.agg #[(tV aL.1.name),aP,aQ]))]) (cs:=[(tV aL.1.name),aP,aQ]) jL hf hm rfl rfl (by kernel_rfl) rfl rfl) ?_)
    rintro _ w ⟨an,rfl,hm⟩
    replace hm:=hm.els_nil (α:=Fn_)
    replace hm:=(nQ aL.1.name hm 3 4 rfl).pk (L':=[_,_,_,_,_,_,_]) [0,1,2,3,5,6,7] rfl rfl
    replace hm:=(hm.els_cons 0 3 (by decide) rfl rfl).pk (L':=[_,_,_,_,_,_]) [0,1,2,4,5,6] rfl rfl
    replace hm:=(hm.lit_els 1 0 (by decide) rfl rfl rfl rfl).pk (L':=[_,_,_,_,_]) [1,2,3,4,5] rfl rfl
    refine tAk hm [2,3,4] rfl λhS=>tO (gb λao a8=>?_)
    obtain ⟨aa,ab⟩:=fV.1 a8
    replace hm:=(hm.both 4 0 (by decide) rfl rfl).pk (L':=[_,_,_,_]) [1,2,3,4] rfl rfl
    refine tf rfl rfl (λa hf=>hZ (xs:=aF.2) (ys:=([aL.1]:List Fn_)) 3 jL hf hm rfl rfl rfl rfl aa) ?_
    rintro ac w hm
    rw [ab] at hm
    refine tAn rfl (tP rfl (λw=>yF im rfl) (tO (tf0 rfl rfl (λa hf=>jw 2 hf hm rfl sizeOf24 rfl rfl rfl (fS (hm.ow_rep 3 rfl)) rfl) ?_)))
    rintro _ w hm
    exact tAn rfl (tE (gZe λa hf=>⟨ac,hf.sb rfl,hm.pk [1,0,2,3] rfl rfl⟩))
   exact gcf rfl (gXt (gHh (gLp aT aS (gZ λa hf=>⟨aG,hf.sb rfl,hm.pk [0,1,2,3] rfl rfl⟩))))
  repeat clear hm
  rintro aJ a w ⟨aI,hf,hm⟩
  refine gv hf (gS (gS (gJ hm (λaM=>[(2,(pV aB)),(7,(pV aE)),(50,(.bool (aM)))]) (λaM=>[blk aB [.slice none 0 0] 26,blk aE [aI] 26,ow [aI] aJ.2]) (λaM=>?_) ?_)))
  ·refine gR (gM rfl (gY (yG rfl (fI rfl rfl)) (gF jg rfl (gL hm 1 isAgg3 rfl (gB rfl (gM rfl (gsd 46 rfl (λae=>?_) λae=>?_)))))))
   ·exact gO rfl (gO rfl (gO rfl (gKt rfl (gE (gz hm [0,2,3] rfl)))))
   exact gY (yn (hm.blk_at 2 rfl) isAgg26 sizeOf26 rfl) (gC hm rfl call25 (ny _ (⟨aJ.2⟩:fZ) aI (hm.ow_rep 3 rfl)) λaq ar w hm=>gN rfl (gKf rfl (gE (gz hm [0,2,3] rfl))))
  repeat clear hm
  intro aM w hm
  refine gs 50 rfl (λaf=>?_) λaf=>?_
  ·refine gct rfl (gS (gR (gY (yG rfl (fY (vs := []) (cs := #[.slice none 0 0]) rfl rfl (by kernel_rfl))) (gSN hm 0 sizeOf26 (et rfl fK) rfl fun w hm => gA rfl (gE (gRt ?_))))))
   replace hm:=hm.thaw aO
   replace hm:=hm.nilow (α:=Fn_)
   exact s8 1 results8 hm rfl isAgg26 sizeOf26 ⟨.slice none 0 0,rfl,hm.pk [0] rfl rfl⟩
  refine gcf rfl (gSk (gS (gR (gY (yn (hm.blk_at 1 rfl) isAgg26 sizeOf26 rfl) (gSN hm 0 sizeOf26 (et (fS (hm.ow_rep 2 rfl)) fK) rfl λw hm=>gA rfl (gE (gRt ?_)))))))
  replace hm:=hm.thaw aO
  exact s8 0 results8 hm rfl isAgg26 sizeOf26 ⟨aI,rfl,hm.pk [2] rfl rfl⟩
theorem uw (w0:World) (a_:List Str) (v1:Value) (h1:GT.rep (hp w0) [v1] a_) (b_:List Str) (v2:Value) (h2:GT.rep (hp w0) [v2] b_) :
    iF Tryz.prog 26 [v1,v2] w0 (nO a_ b_) λr v w'=>v=(.bool (r))∧Below w0.heap.size w0 w':=by
  unfold nO
  refine iR func26 rfl λr=>?_
  have hm:=Mem.start w0
  refine gS (gR (gA rfl (gE (gS (gS (gR (gM rfl ?_)))))))
  obtain ⟨aG,aH,rfl,aQ⟩:=fE h1
  refine gY (yV jO rfl) (gM rfl ?_)
  obtain ⟨aI,aJ,rfl,aR⟩:=fE h2
  refine gY (yV jO rfl) (gB rfl (gE (gsd 10 rfl (λaK=>?_) λaK=>?_)))
  ·exact gct rfl (gS (gR (gA rfl (gE (gRt (gr1 results26 rfl ⟨rfl,hm.below⟩))))))
  refine gcf rfl (gSk (gS (gS (gR (gA rfl (gE (gBk (gNf hm (λaA aD=>[(0,(.slice aG a_.length aH)),(1,(.slice aI b_.length aJ)),(5,(nV aA))]) (λaA aD=>[]) [] rfl ?_ ?_))))))))
  ·repeat clear hm
   intro aS aL aA aD w hm aT aU aV aM
   refine gS (gS (gR (gM rfl (gM rfl (gY (yV jO rfl) (gB rfl (gE (go _ 14 rfl (decide_eq_true (by omega)) (gct rfl (gSk (gS (gBk (gS (gW (.p 0 (.p 1 (.p 2 (.p 4 (.p 5 (.p 6 (.q 3 (.e 7 (.p 8 .fin) .nil)))))))) [7] [0,1,2,4,5,6,8] hm [] [] rfl mxo (by kernel_rfl) (λ_ _ _ h=>h.2) λw hm hS=>tP rfl (λw=>yM rfl) (tP rfl (λw=>yM rfl) (gg λaE aN aB=>?_))))))))))))))))
   obtain ⟨aX,aY,aZ,he⟩:=iS h1 aB
   obtain ⟨rfl,_,rfl⟩:=sl3 he
   refine tP rfl (λw=>yI jO aN (ff aB) rfl) (tP rfl (λw=>yM rfl) (tP rfl (λw=>yM rfl) (gg λaF aO aC=>?_)))
   obtain ⟨a8,aa,ab,he⟩:=iS h2 aC
   obtain ⟨rfl,_,rfl⟩:=sl3 he
   refine tP rfl (λw=>yI jO aO (ff aC) rfl) (tQ rfl hS (λw hm=>yl isAgg9 ((gK (cs:=[(tV aE)]) (hm.now h1) aB rfl).cell (j:=0) rfl) rfl) (tO (tY rfl (yl isAgg9 ((gK (cs:=[(tV aF)]) (hm.now h2) aC rfl).cell (j:=0) rfl) rfl) (tAs hS (tP rfl (λw=>yG rfl (oM (p:=aE) (q:=aF) rfl rfl rfl)) (tE (gsd 25 rfl (λaP=>?_) λaP=>?_)))))))
   ·exact gct rfl (gS (gR (gA rfl (gE (gRt (gLr aM aL (gr1 results26 rfl ⟨rfl,hm.below⟩)))))))
   exact gcf rfl (gSk (gR (gM rfl (gP (by omega) (by omega) rfl (gA rfl (gE (gze hm [] rfl)))))))
  repeat clear hm
  intro ac ae w hm af ag
  exact gS (gS (gR (gM rfl (gM rfl (gY (yV jO rfl) (gB rfl (gE (go _ 14 rfl (decide_eq_false (by omega)) (gcf rfl (gXt (gHh (gS (gR (gA rfl (gE (gRt (gr1 results26 rfl ⟨rfl,hm.below⟩)))))))))))))))))
theorem s6  : ∀ (a_:ey) (b_:ey) (r:Bool),jt a_ b_=some r→∀ (w0:World) (v1:Value) (h1:GT.rep (hp w0) [v1] a_.kids) (v2:Value) (h2:GT.rep (hp w0) [v2] b_.kids),Con Tryz.prog 69 [(.agg #[nV a_.op,nV a_.n_,(tV a_.name),v1]),(.agg #[nV b_.op,nV b_.n_,(tV b_.name),v2])] w0 (λv w'=>v=(.bool (r))∧Below w0.heap.size w0 w'):=by
  refine jt.partial_correctness  (motive:=λa_ b_ r=>∀ (w0:World) (v1:Value) (h1:GT.rep (hp w0) [v1] a_.kids) (v2:Value) (h2:GT.rep (hp w0) [v2] b_.kids),Con Tryz.prog 69 [(.agg #[nV a_.op,nV a_.n_,(tV a_.name),v1]),(.agg #[nV b_.op,nV b_.n_,(tV b_.name),v2])] w0 (λv w'=>v=(.bool (r))∧Below w0.heap.size w0 w')) ?_
  intro rec_ ih_ a_ b_ r hq w0 v1 h1 v2 h2
  have spec_SameExpr_rec:∀ (w0:World) (a_:ey) (v1:Value) (h1:GT.rep (hp w0) [v1] a_.kids) (b_:ey) (v2:Value) (h2:GT.rep (hp w0) [v2] b_.kids) (r:Bool) (hq:rec_ a_ b_=some r),Con Tryz.prog 69 [(.agg #[nV a_.op,nV a_.n_,(tV a_.name),v1]),(.agg #[nV b_.op,nV b_.n_,(tV b_.name),v2])] w0 (λv w'=>v=(.bool (r))∧Below w0.heap.size w0 w'):=λw0 a_ v1 h1 b_ v2 h2 r hq=>ih_ a_ b_ r hq w0 v1 h1 v2 h2
  refine kI (ρ:=Bool) (R:=λr v w'=>v=(.bool (r))∧Below w0.heap.size w0 w') func69 rfl hq ?_
  have hm:=Mem.start w0
  refine gS (gR (gBx hm rfl λaA w hm=>gBx hm rfl λaB w hm=>gA rfl (gE (gS (gS (gJ hm (λaC=>[(2,(pV aA)),(3,(pV aB)),(33,(.bool (aC)))]) (λaC=>[blk aA [nV a_.op,nV a_.n_,(tV a_.name),v1] 86,blk aB [nV b_.op,nV b_.n_,(tV b_.name),v2] 86]) (λaC=>?_) ?_))))))
  ·refine gR (gF ik rfl (gL hm 1 isAgg3 rfl (gF ik rfl (gL hm 0 isAgg3 rfl (gB rfl (gM rfl (gsd 11 rfl (λaH=>?_) λaH=>?_)))))))
   ·exact gO rfl (gO rfl (gO rfl (gO rfl (gO rfl (gKt rfl (gM rfl (gO rfl (gO rfl (gO rfl (gO rfl (gO rfl (gKt rfl (gM rfl (gO rfl (gO rfl (gO rfl (gO rfl (gO rfl (gO rfl (gO rfl (gKt rfl (gE (gz hm [1,0] rfl)))))))))))))))))))))))
   refine gF mC rfl (gL hm 1 isAgg3 rfl (gF mC rfl (gL hm 0 isAgg3 rfl (gB rfl (gKf rfl (gM rfl (gsd 18 rfl (λaI=>?_) λaI=>?_)))))))
   ·exact gO rfl (gO rfl (gO rfl (gO rfl (gO rfl (gKt rfl (gM rfl (gO rfl (gO rfl (gO rfl (gO rfl (gO rfl (gO rfl (gO rfl (gKt rfl (gE (gz hm [1,0] rfl))))))))))))))))
   refine gF mB rfl (gL hm 1 isAgg9 rfl (gF mB rfl (gL hm 0 isAgg9 rfl (gY (yG rfl (oM (p:=a_.name) (q:=b_.name) rfl rfl rfl)) (gKf rfl (gM rfl (gsd 25 rfl (λaJ=>?_) λaJ=>?_)))))))
   ·exact gO rfl (gO rfl (gO rfl (gO rfl (gO rfl (gO rfl (gO rfl (gKt rfl (gE (gz hm [1,0] rfl)))))))))
   refine gF iT rfl (gL hm 1 isAgg69 rfl ?_)
   obtain ⟨ab,ac,rfl,ae⟩:=fE h1
   refine gY (yV iu rfl) (gF iT rfl (gL hm 0 isAgg69 rfl ?_))
   obtain ⟨af,ag,rfl,ah⟩:=fE h2
   exact gY (yV iu rfl) (gB rfl (gKf rfl (gE (gz hm [1,0] rfl))))
  repeat clear hm
  intro aC w hm
  refine gs 33 rfl (λaK=>?_) λaK=>?_
  ·exact gct rfl (gS (gR (gA rfl (gE (gRt (gr1 results69 rfl ⟨rfl,hm.below⟩))))))
  refine gcf rfl (gSk (gS (gS (gR (gA rfl (gE (gBk (gNf hm (λaD aG=>[(2,(pV aA)),(3,(pV aB)),(5,(nV aD))]) (λaD aG=>[blk aA [nV a_.op,nV a_.n_,(tV a_.name),v1] 86,blk aB [nV b_.op,nV b_.n_,(tV b_.name),v2] 86]) [0,1] rfl ?_ ?_))))))))
  ·repeat clear hm
   intro ai aL aD aG w hm aj ak al aM
   refine gS (gS (gR (gM rfl (gF iT rfl (gL hm 0 isAgg69 rfl ?_)))))
   obtain ⟨aN,aO,rfl,am⟩:=fE h1
   refine gY (yV iu rfl) (gB rfl (gE (go _ 38 rfl (decide_eq_true (by omega)) (gct rfl (gSk (gS (gBk (gS (gW (.p 0 (.p 2 (.p 5 (.p 7 (.q 1 (.p 3 (.q 4 (.e 6 (.p 8 (.e 9 (.e 10 (.p 11 .fin) .nil) .nil)) .nil)))))))) [6,9] [0,2,3,5,7,8,11] hm [0,1] [blk aA [nV a_.op,nV a_.n_,(tV a_.name),.slice aN a_.kids.length aO] 86,blk aB [nV b_.op,nV b_.n_,(tV b_.name),v2] 86] rfl mxo (by kernel_rfl) (λ_ _ _ h=>h.2) λw hm hS=>tP rfl (λw=>yF iT rfl) (tP rfl (λw=>yM rfl) (tP rfl (λw=>yF iT rfl) (tP rfl (λw=>yM rfl) (tQ rfl hS (λw hm=>yL hm 0 isAgg69 rfl) (gg λaP aQ aE=>?_))))))))))))))
   obtain ⟨an,ao,aq,he⟩:=fp h1 aE
   obtain ⟨rfl,_,rfl⟩:=sl3 he
   obtain ⟨aR,aS,aT⟩:=jE h1 aE
   refine tP rfl (λw=>yI iu aQ (ff aE) rfl) (tQ rfl hS (λw hm=>yn (aS.mono hm.lez) isAgg86 sizeOf86 rfl) (tO (tY rfl (yL hm 1 isAgg69 rfl) (tAs hS (gg λaU aV aF=>?_)))))
   obtain ⟨ar,au,av,he⟩:=fp h2 aF
   subst he
   obtain ⟨aX,aY,aZ⟩:=jE h2 aF
   refine tP rfl (λw=>yI iu aV (ff aF) rfl) (tO (tY rfl (yn (aY.mono hm.lez) isAgg86 sizeOf86 rfl) (tAs hS (tO (gb λaw a8=>tf rfl rfl (λa hf=>fo hf rfl call69 rfl (spec_SameExpr_rec _ aP aR (hm.now aT) aU aX (hm.now aZ) _ a8)) ?_)))))
   rintro ax w ⟨rfl,hB⟩
   replace hm:=hm.below' hB;clear hB
   refine tAn rfl (tP rfl (λw=>yN rfl) (tE (gsn 52 rfl (λaa=>?_) λaa=>?_)))
   ·exact gct rfl (gS (gR (gA rfl (gE (gRt (gLr aM aL (gr1 results69 rfl ⟨rfl,hm.below⟩)))))))
   exact gcf rfl (gSk (gR (gM rfl (gP (by omega) (by omega) rfl (gA rfl (gE (gze hm [0,1] rfl)))))))
  repeat clear hm
  intro ay az w hm bA bB
  refine gS (gS (gR (gM rfl (gF iT rfl (gL hm 0 isAgg69 rfl ?_)))))
  obtain ⟨bC,bD,rfl,bE⟩:=fE h1
  exact gY (yV iu rfl) (gB rfl (gE (go _ 38 rfl (decide_eq_false (by omega)) (gcf rfl (gXt (gHh (gS (gR (gA rfl (gE (gRt (gr1 results69 rfl ⟨rfl,hm.below⟩))))))))))))
theorem tZ (w0:World) (a_:ey) (v1:Value) (h1:GT.rep (hp w0) [v1] a_.kids) (b_:ey) (v2:Value) (h2:GT.rep (hp w0) [v2] b_.kids) (r:Bool) (hq:jt a_ b_=some r):Con Tryz.prog 69 [(.agg #[nV a_.op,nV a_.n_,(tV a_.name),v1]),(.agg #[nV b_.op,nV b_.n_,(tV b_.name),v2])] w0 (λv w'=>v=(.bool (r))∧Below w0.heap.size w0 w'):=s6 a_ b_ r hq w0 v1 h1 v2 h2
theorem rM  : ∀ (a_:List fB) (b_:List fB) (r:Bool),kC a_ b_=some r→∀ (w0:World) (v1:Value) (h1:GT.rep (hp w0) [v1] a_) (v2:Value) (h2:GT.rep (hp w0) [v2] b_),Con Tryz.prog 27 [v1,v2] w0 (λv w'=>v=(.bool (r))∧Below w0.heap.size w0 w'):=by
  refine kC.partial_correctness  (motive:=λa_ b_ r=>∀ (w0:World) (v1:Value) (h1:GT.rep (hp w0) [v1] a_) (v2:Value) (h2:GT.rep (hp w0) [v2] b_),Con Tryz.prog 27 [v1,v2] w0 (λv w'=>v=(.bool (r))∧Below w0.heap.size w0 w')) ?_
  intro rec_ ih_ a_ b_ r hq w0 v1 h1 v2 h2
  have spec_l3SameList_rec:∀ (w0:World) (a_:List fB) (v1:Value) (h1:GT.rep (hp w0) [v1] a_) (b_:List fB) (v2:Value) (h2:GT.rep (hp w0) [v2] b_) (r:Bool) (hq:rec_ a_ b_=some r),Con Tryz.prog 27 [v1,v2] w0 (λv w'=>v=(.bool (r))∧Below w0.heap.size w0 w'):=λw0 a_ v1 h1 b_ v2 h2 r hq=>ih_ a_ b_ r hq w0 v1 h1 v2 h2
  refine kI (ρ:=Bool) (R:=λr v w'=>v=(.bool (r))∧Below w0.heap.size w0 w') func27 rfl hq ?_
  have hm:=Mem.start w0
  refine gS (gR (gA rfl (gE (gS (gS (gR (gM rfl ?_)))))))
  obtain ⟨aB,aC,rfl,bZ⟩:=fE h1
  refine gY (yV jN rfl) (gM rfl ?_)
  obtain ⟨aD,aE,rfl,b8⟩:=fE h2
  refine gY (yV jN rfl) (gB rfl (gE (gsd 11 rfl (λal=>?_) λal=>?_)))
  ·exact gct rfl (gS (gR (gA rfl (gE (gRt (gr1 results27 rfl ⟨rfl,hm.below⟩))))))
  refine gcf rfl (gSk (gS (gS (gR (gA rfl (gE (gBk (gNf hm (λaA aY=>[(0,(.slice aB a_.length aC)),(1,(.slice aD b_.length aE)),(5,(nV aA))]) (λaA aY=>[]) [] rfl ?_ ?_))))))))
  ·repeat clear hm
   intro b9 aM aA aY w hm ba bb bc aN
   refine gS (gS (gR (gM rfl (gM rfl (gY (yV jN rfl) (gB rfl (gE (go _ 15 rfl (decide_eq_true (by omega)) (gct rfl (gSk (gS (gBk (gS (gS (gJ hm (λaH=>[(0,(.slice aB a_.length aC)),(1,(.slice aD b_.length aE)),(5,(nV aA)),(56,(.bool (aH)))]) (λaH=>[]) (λaH=>?_) ?_)))))))))))))))
   ·refine gW (.p 0 (.p 1 (.p 2 (.p 3 (.p 5 (.p 6 (.p 7 (.p 8 (.q 4 (.e 9 (.p 10 (.p 11 (.p 12 (.p 13 (.p 14 (.p 15 (.p 17 (.p 18 (.p 19 (.p 20 (.q 16 (.e 21 (.p 22 (.p 23 (.p 24 (.p 25 (.p 26 (.p 27 (.p 28 (.p 31 (.p 32 (.p 33 (.p 34 (.q 29 (.p 30 (.e 35 (.p 36 (.p 37 (.p 38 .fin))) .nil)))))))))))))) .nil)))))))))))) .nil)))))))))) [9, 21, 35] [0, 1, 2, 3, 5, 6, 7, 8, 10, 11, 12, 13, 14, 15, 17, 18, 19, 20, 22, 23, 24, 25, 26, 27, 28, 30, 31, 32, 33, 34, 36, 37, 38] hm [] [] rfl mxo (by kernel_rfl) (fun _ _ _ h => h.2) fun w hm hS => tP rfl (fun w => yM rfl) (tP rfl (fun w => yM rfl) (gg fun am aO aF => ?_))
    obtain ⟨bd,be,bf,he⟩:=fp h1 aF
    obtain ⟨rfl,_,rfl⟩:=sl3 he
    obtain ⟨bg,bh,bi,aP,an,bj,bk⟩:=lJ h1 aF
    refine tP rfl (λw=>yI jN aO (ff aF) rfl) (tP rfl (λw=>yF jY rfl) (tP rfl (λw=>yM rfl) (tP rfl (λw=>yM rfl) (gg λao aQ aG=>?_))))
    obtain ⟨bl,bm,bo,he⟩:=fp h2 aG
    obtain ⟨rfl,_,rfl⟩:=sl3 he
    obtain ⟨bp,bq,br,aR,aq,bs,bt⟩:=lJ h2 aG
    refine tP rfl (λw=>yI jN aQ (ff aG) rfl) (tP rfl (λw=>yF jY rfl) (tQ rfl hS (λw hm=>yl isAgg3 ((aP.mono hm.lez).cell (j:=0) rfl) rfl) (tO (tY rfl (yl isAgg3 ((aR.mono hm.lez).cell (j:=0) rfl) rfl) (tAs hS (tP rfl (λw=>yB rfl) (tP rfl (λw=>yM rfl) (gsd 29 rfl (λar=>?_) λar=>?_))))))))
    ·refine tPo rfl rfl (tPo rfl rfl (tPo rfl rfl (tPo rfl rfl (tPo rfl rfl (tPo rfl rfl (tPo rfl rfl (tPo rfl rfl (tQo rfl hS rfl (tO (tEo rfl rfl (tAs hS (tPo rfl rfl (tP rfl (λw=>yKt rfl) (tP rfl (λw=>yM rfl) (tPo rfl rfl (tPo rfl rfl (tPo rfl rfl (tPo rfl rfl (tPo rfl rfl (tPo rfl rfl (tPo rfl rfl (tPo rfl rfl (tQo rfl hS rfl (tPo rfl rfl (tO (tEo rfl rfl (tAs hS (tPo rfl rfl (tPo rfl rfl (tP rfl (λw=>yKt rfl) ?_))))))))))))))))))))))))))))))
     exact tE (gz hm [] rfl)
    refine tP rfl (λw=>yM rfl) (tP rfl (λw=>yM rfl) (tP rfl (λw=>yI jN aO (ff aF) rfl) (tP rfl (λw=>yF lL rfl) (tP rfl (λw=>yM rfl) (tP rfl (λw=>yM rfl) (tP rfl (λw=>yI jN aQ (ff aG) rfl) (tP rfl (λw=>yF lL rfl) (tQ rfl hS (λw hm=>yl isAgg9 ((aP.mono hm.lez).cell (j:=1) rfl) rfl) (tO (tY rfl (yl isAgg9 ((aR.mono hm.lez).cell (j:=1) rfl) rfl) (tAs hS (tP rfl (λw=>yG rfl (oM (p:=am.name) (q:=ao.name) rfl rfl rfl)) (tP rfl (λw=>yKf rfl) (tP rfl (λw=>yM rfl) (gsd 42 rfl (λau=>?_) λau=>?_)))))))))))))))
    ·exact tPo rfl rfl (tPo rfl rfl (tPo rfl rfl (tPo rfl rfl (tPo rfl rfl (tPo rfl rfl (tPo rfl rfl (tPo rfl rfl (tQo rfl hS rfl (tPo rfl rfl (tO (tEo rfl rfl (tAs hS (tPo rfl rfl (tPo rfl rfl (tP rfl (λw=>yKt rfl) (tE (gz hm [] rfl)))))))))))))))))
    refine tP rfl (λw=>yM rfl) (tP rfl (λw=>yM rfl) (tP rfl (λw=>yI jN aO (ff aF) rfl) (tP rfl (λw=>yF je rfl) (tP rfl (λw=>yM rfl) (tP rfl (λw=>yM rfl) (tP rfl (λw=>yI jN aQ (ff aG) rfl) (tP rfl (λw=>yF je rfl) (tQ rfl hS (λw hm=>yl isAgg69 ((aP.mono hm.lez).cell (j:=2) rfl) rfl) ?_))))))))
    obtain ⟨bu,bv,rfl,bw⟩:=fE an
    refine tP rfl (λw=>yV iu rfl) (tO (tY rfl (yl isAgg69 ((aR.mono hm.lez).cell (j:=2) rfl) rfl) (tAs hS ?_)))
    obtain ⟨bz,cA,rfl,cC⟩:=fE aq
    exact tP rfl (λw=>yV iu rfl) (tP rfl (λw=>yB rfl) (tP rfl (λw=>yKf rfl) (tE (gz hm [] rfl))))
   repeat clear hm
   intro aH w hm
   refine gs 56 rfl (λav=>?_) λav=>?_
   ·exact gct rfl (gS (gR (gA rfl (gE (gRt (gLr aN aM (gr1 results27 rfl ⟨rfl,hm.below⟩)))))))
   refine gcf rfl (gSk (gS (gS (gR (gA rfl (gE (gJe hm (λaZ=>[(0,(.slice aB a_.length aC)),(1,(.slice aD b_.length aE)),(5,(nV aA))]) (λaZ=>[]) (λcD aw=>?_) ?_)))))))
   ·refine gBk (gMf hm (λaS=>[(0,(.slice aB a_.length aC)),(1,(.slice aD b_.length aE)),(5,(nV aA)),(6,(nV aS))]) (λaS=>[]) [] rfl ?_)
    repeat clear hm
    intro cE a8 aS w hm cF aa
    refine gS (gS (gR (gM rfl (gM rfl (gM rfl (gg λcG ab aI=>?_))))))
    obtain ⟨cH,cI,cJ,he⟩:=fp h1 aI
    obtain ⟨rfl,_,rfl⟩:=sl3 he
    obtain ⟨cK,cL,cN,ac,aT,cO,cP⟩:=lJ h1 aI
    refine gI jN ab (ff aI) rfl (gF je rfl (gY (yl isAgg69 ((ac.mono hm.lez).cell (j:=2) rfl) rfl) ?_))
    obtain ⟨cQ,cR,rfl,cS⟩:=fE aT
    refine gY (yV iu rfl) (gB rfl (gE (gsd 64 rfl (λax=>?_) λax=>?_)))
    ·refine gct rfl (gSk (gS (gBk (gS (gW (.p 0 (.p 1 (.p 2 (.p 3 (.p 5 (.p 8 (.p 9 (.p 10 (.p 11 (.p 13 (.q 4 (.p 6 (.q 7 (.e 12 (.p 14 (.e 15 (.e 16 (.p 17 .fin) .nil) .nil)) .nil)))))))))))))) [12, 15] [0, 1, 2, 3, 5, 6, 8, 9, 10, 11, 13, 14, 17] hm [] [] rfl mxo (by kernel_rfl) (fun _ _ _ h => h.2) fun w hm hS => tP rfl (fun w => yM rfl) (tP rfl (fun w => yM rfl) (tP rfl (fun w => yI jN ab (ff aI) rfl) (tP rfl (fun w => yF je rfl) (tP rfl (fun w => yM rfl) (tP rfl (fun w => yM rfl) (tP rfl (fun w => yM rfl) (gg fun cT ay aU => ?_))))))))))))
     obtain ⟨cU,cV,cW,he⟩:=fp h2 aU
     obtain ⟨rfl,_,rfl⟩:=sl3 he
     obtain ⟨cX,cY,cZ,az,ae,c8,c9⟩:=lJ h2 aU
     refine tP rfl (λw=>yI jN ay (ff aU) rfl) (tP rfl (λw=>yF je rfl) (tP rfl (λw=>yM rfl) (tQ rfl hS (λw hm=>yl isAgg69 ((ac.mono hm.lez).cell (j:=2) rfl) rfl) (gg λbA bB aV=>?_))))
     obtain ⟨ca,cb,cc,he⟩:=fp aT aV
     obtain ⟨rfl,_,rfl⟩:=sl3 he
     obtain ⟨bC,bD,bE⟩:=jE aT aV
     refine tP rfl (λw=>yI iu bB (ff aV) rfl) (tQ rfl hS (λw hm=>yn (bD.mono hm.lez) isAgg86 sizeOf86 rfl) (tO (tY rfl (yl isAgg69 ((az.mono hm.lez).cell (j:=2) rfl) rfl) (tAs hS (gg λbF bG aX=>?_)))))
     obtain ⟨cd,ce,cf,he⟩:=fp ae aX
     subst he
     obtain ⟨bH,bJ,bK⟩:=jE ae aX
     refine tP rfl (λw=>yI iu bG (ff aX) rfl) (tO (tY rfl (yn (bJ.mono hm.lez) isAgg86 sizeOf86 rfl) (tAs hS (tO (gb λcg bL=>tf rfl rfl (λa hf=>fo hf rfl call69 rfl (tZ _ bA bC (hm.now bE) bF bH (hm.now bK) _ bL)) ?_)))))
     rintro cj w ⟨rfl,hB⟩
     replace hm:=hm.below' hB;clear hB
     refine tAn rfl (tP rfl (λw=>yN rfl) (tE (gsn 84 rfl (λbM=>?_) λbM=>?_)))
     ·exact gct rfl (gS (gR (gA rfl (gE (gRt (gLp aa a8 (gl (gEr aw (gLr aN aM (gr1 results27 rfl ⟨rfl,hm.below⟩))))))))))
     exact gcf rfl (gSk (gR (gM rfl (gB rfl (gA rfl (gE (gze hm [] rfl)))))))
    exact gcf rfl (gXt (gHh (gLp aa a8 (gr (gze hm [] rfl)))))
   repeat clear hm
   intro aZ w hm
   refine gS (gJ hm (λaJ=>[(0,(.slice aB a_.length aC)),(1,(.slice aD b_.length aE)),(5,(nV aA)),(110,(.bool (aJ)))]) (λaJ=>[]) (λaJ=>?_) ?_)
   ·refine gW (.p 0 (.p 1 (.p 2 (.p 3 (.p 5 (.p 6 (.p 7 (.p 8 (.q 4 (.e 9 (.e 10 (.p 11 (.p 12 (.p 13 (.p 14 (.p 15 (.p 16 (.p 18 (.p 19 (.p 20 (.p 21 (.q 17 (.e 22 (.e 23 (.p 24 (.p 25 .fin)) .nil) .nil)))))))))))) .nil) .nil)))))))))) [9, 22] [0, 1, 2, 3, 5, 6, 7, 8, 11, 12, 13, 14, 15, 16, 18, 19, 20, 21, 24, 25] hm [] [] rfl mxo (by kernel_rfl) (fun _ _ _ h => h.2) fun w hm hS => tP rfl (fun w => yM rfl) (tP rfl (fun w => yM rfl) (gg fun af ag aK => ?_))
    obtain ⟨ck,cl,cm,he⟩:=fp h1 aK
    obtain ⟨rfl,_,rfl⟩:=sl3 he
    obtain ⟨cn,bN,bO,ah,co,bP,bQ⟩:=lJ h1 aK
    refine tP rfl (λw=>yI jN ag (ff aK) rfl) (tP rfl (λw=>yF lB rfl) (tP rfl (λw=>yM rfl) (tP rfl (λw=>yM rfl) (gg λai aj aL=>?_))))
    obtain ⟨cq,cr,ct,he⟩:=fp h2 aL
    obtain ⟨rfl,_,rfl⟩:=sl3 he
    obtain ⟨cu,bR,bS,ak,cv,bT,bU⟩:=lJ h2 aL
    refine tP rfl (λw=>yI jN aj (ff aL) rfl) (tP rfl (λw=>yF lB rfl) (tQ rfl hS (λw hm=>yl isAgg52 ((ah.mono hm.lez).cell (j:=3) rfl) rfl) (tO (tY rfl (yl isAgg52 ((ak.mono hm.lez).cell (j:=3) rfl) rfl) (tAs hS (tO (gb λcw bV=>tf rfl rfl (λa hf=>fo hf rfl call27 rfl (spec_l3SameList_rec _ af.body bN (hm.now bP) ai.body bR (hm.now bT) _ bV)) ?_)))))))
    rintro cx w ⟨rfl,hB⟩
    replace hm:=hm.below' hB;clear hB
    refine tAk hm [] rfl λhS=>tP rfl (λw=>yN rfl) (tP rfl (λw=>yM rfl) (gsn 97 rfl (λbW=>?_) λbW=>?_))
    ·exact tPo rfl rfl (tPo rfl rfl (tPo rfl rfl (tPo rfl rfl (tPo rfl rfl (tPo rfl rfl (tPo rfl rfl (tPo rfl rfl (tQo rfl hS rfl (tO (tEo rfl rfl (tAs hS (tO (tEo rfl rfl (tAn rfl (tPo rfl rfl (tP rfl (λw=>yKt rfl) (tE (gz hm [] rfl))))))))))))))))))
    refine tP rfl (λw=>yM rfl) (tP rfl (λw=>yM rfl) (tP rfl (λw=>yI jN ag (ff aK) rfl) (tP rfl (λw=>yF lH rfl) (tP rfl (λw=>yM rfl) (tP rfl (λw=>yM rfl) (tP rfl (λw=>yI jN aj (ff aL) rfl) (tP rfl (λw=>yF lH rfl) (tQ rfl hS (λw hm=>yl isAgg52 ((ah.mono hm.lez).cell (j:=4) rfl) rfl) (tO (tY rfl (yl isAgg52 ((ak.mono hm.lez).cell (j:=4) rfl) rfl) (tAs hS (tO (gb λcy bX=>tf rfl rfl (λa hf=>fo hf rfl call27 rfl (spec_l3SameList_rec _ af.else_ bO (hm.now bQ) ai.else_ bS (hm.now bU) _ bX)) ?_)))))))))))))
    rintro cz w ⟨rfl,hB⟩
    replace hm:=hm.below' hB;clear hB
    exact tAn rfl (tP rfl (λw=>yN rfl) (tP rfl (λw=>yKf rfl) (tE (gz hm [] rfl))))
   repeat clear hm
   intro aJ w hm
   refine gs 110 rfl (λbY=>?_) λbY=>?_
   ·exact gct rfl (gS (gR (gA rfl (gE (gRt (gLr aN aM (gr1 results27 rfl ⟨rfl,hm.below⟩)))))))
   exact gcf rfl (gSk (gR (gM rfl (gP (by omega) (by omega) rfl (gA rfl (gE (gze hm [] rfl)))))))
  repeat clear hm
  intro dA dB w hm dC dD
  exact gS (gS (gR (gM rfl (gM rfl (gY (yV jN rfl) (gB rfl (gE (go _ 15 rfl (decide_eq_false (by omega)) (gcf rfl (gXt (gHh (gS (gR (gA rfl (gE (gRt (gr1 results27 rfl ⟨rfl,hm.below⟩)))))))))))))))))
theorem rh (w0:World) (a_:List fB) (v1:Value) (h1:GT.rep (hp w0) [v1] a_) (b_:List fB) (v2:Value) (h2:GT.rep (hp w0) [v2] b_) (r:Bool) (hq:kC a_ b_=some r):Con Tryz.prog 27 [v1,v2] w0 (λv w'=>v=(.bool (r))∧Below w0.heap.size w0 w'):=rM a_ b_ r hq w0 v1 h1 v2 h2
theorem lF (w0:World) (a_:fZ) (v1:Value) (h1:GT.rep (hp w0) [v1] a_.fns) (b_:fZ) (v2:Value) (h2:GT.rep (hp w0) [v2] b_.fns) :
    iF Tryz.prog 9 [(.agg #[v1]),(.agg #[v2])] w0 (gk a_ b_) λr v w'=>v=(.bool (r))∧Below w0.heap.size w0 w':=by
  unfold gk
  refine iR func9 rfl λr=>?_
  have hm:=Mem.start w0
  refine gS (gR (gBx hm rfl λaC w hm=>gBx hm rfl λaD w hm=>gA rfl (gE (gS (gS (gR (gF im rfl (gL hm 1 isAgg24 rfl ?_))))))))
  obtain ⟨aM,aN,rfl,ai⟩:=fE h1
  refine gY (yV jW rfl) (gF im rfl (gL hm 0 isAgg24 rfl ?_))
  obtain ⟨aO,aP,rfl,aj⟩:=fE h2
  refine gY (yV jW rfl) (gB rfl (gE (gsd 12 rfl (λaR=>?_) λaR=>?_)))
  ·exact gct rfl (gS (gR (gA rfl (gE (gRt (gr1 results9 rfl ⟨rfl,hm.below⟩))))))
  refine gcf rfl (gSk (gS (gS (gR (gA rfl (gE (gBk (gNf hm (λaE aQ=>[(2,(pV aC)),(3,(pV aD)),(5,(nV aE))]) (λaE aQ=>[blk aC [.slice aM a_.fns.length aN] 26,blk aD [.slice aO b_.fns.length aP] 26]) [1,0] rfl ?_ ?_))))))))
  ·repeat clear hm
   intro ak aS aE aQ w hm al am an aT
   refine gS (gS (gR (gM rfl (gF im rfl (gL hm 0 isAgg24 rfl (gY (yV jW rfl) (gB rfl (gE (go _ 17 rfl (decide_eq_true (by omega)) (gct rfl (gSk (gS (gBk (gS (gJ hm (λaF=>[(2,(pV aC)),(3,(pV aD)),(5,(nV aE)),(64,(.bool (aF)))]) (λaF=>[blk aC [.slice aM a_.fns.length aN] 26,blk aD [.slice aO b_.fns.length aP] 26]) (λaF=>?_) ?_)))))))))))))))
   ·refine gW (.p 0 (.p 2 (.p 6 (.p 8 (.q 1 (.p 3 (.p 4 (.q 5 (.e 7 (.p 9 (.p 10 (.e 11 (.p 12 (.p 13 (.p 14 (.p 16 (.p 20 (.p 22 (.q 15 (.p 17 (.p 18 (.q 19 (.e 21 (.p 23 (.p 24 (.e 25 (.e 26 (.p 27 (.p 28 (.p 29 (.p 30 (.p 32 (.p 36 (.p 38 (.q 31 (.p 33 (.p 34 (.q 35 (.e 37 (.p 39 (.p 40 (.e 41 (.e 42 (.p 43 (.p 44 .fin)) .nil) .nil))) .nil)))))))))))) .nil) .nil))) .nil))))))))))) .nil))) .nil))))))))) [7, 11, 21, 25, 37, 41] [0, 2, 3, 4, 6, 8, 9, 10, 12, 13, 14, 16, 17, 18, 20, 22, 23, 24, 27, 28, 29, 30, 32, 33, 34, 36, 38, 39, 40, 43, 44] hm [0, 1] [_, _] rfl mxo (by kernel_rfl) (fun _ _ _ h => h.2) fun w hm hS => tP rfl (fun w => yF im rfl) (tP rfl (fun w => yM rfl) (tP rfl (fun w => yF im rfl) (tP rfl (fun w => yM rfl) (tQ rfl hS (fun w hm => yL hm 0 isAgg24 rfl) (gg fun aG aH aA => ?_)))))
    obtain ⟨ao,aq,ar,he⟩:=fp h1 aA
    obtain ⟨rfl,_,rfl⟩:=sl3 he
    obtain ⟨aU,aV,aI,aX,aY⟩:=oK h1 aA
    refine tP rfl (λw=>yI jW aH (ff aA) rfl) (tP rfl (λw=>yF oT rfl) (tQ rfl hS (λw hm=>yl isAgg9 ((aI.mono hm.lez).cell (j:=0) rfl) rfl) (tO (tY rfl (yL hm 1 isAgg24 rfl) (tAs hS (gg λaJ aK aB=>?_))))))
    obtain ⟨au,av,aw,he⟩:=fp h2 aB
    obtain ⟨rfl,_,rfl⟩:=sl3 he
    obtain ⟨aZ,a8,aL,aa,ab⟩:=oK h2 aB
    refine tP rfl (λw=>yI jW aK (ff aB) rfl) (tP rfl (λw=>yF oT rfl) (tO (tY rfl (yl isAgg9 ((aL.mono hm.lez).cell (j:=0) rfl) rfl) (tAs hS (tP rfl (λw=>yG rfl (oM (p:=aG.name) (q:=aJ.name) rfl rfl rfl)) (tP rfl (λw=>yM rfl) (gsd 33 rfl (λac=>?_) λac=>?_)))))))
    ·refine tPo rfl rfl (tPo rfl rfl (tPo rfl rfl (tPo rfl rfl (tQo rfl hS rfl (tPo rfl rfl (tPo rfl rfl (tQo rfl hS rfl (tO (tEo rfl rfl (tAs hS (tPo rfl rfl (tPo rfl rfl (tO (tEo rfl rfl (tAs hS (tO (tEo rfl rfl (tAn rfl (tPo rfl rfl (tP rfl (λw=>yKt rfl) (tP rfl (λw=>yM rfl) (tPo rfl rfl (tPo rfl rfl (tPo rfl rfl (tPo rfl rfl (tQo rfl hS rfl (tPo rfl rfl (tPo rfl rfl (tQo rfl hS rfl (tO ?_))))))))))))))))))))))))))))))
     exact tEo rfl rfl (tAs hS (tPo rfl rfl (tPo rfl rfl (tO (tEo rfl rfl (tAs hS (tO (tEo rfl rfl (tAn rfl (tPo rfl rfl (tP rfl (λw=>yKt rfl) (tE (gz hm [0,1] rfl)))))))))))))
    refine tP rfl (λw=>yF im rfl) (tP rfl (λw=>yM rfl) (tP rfl (λw=>yF im rfl) (tP rfl (λw=>yM rfl) (tQ rfl hS (λw hm=>yL hm 0 isAgg24 rfl) (tP rfl (λw=>yI jW aH (ff aA) rfl) (tP rfl (λw=>yF kE rfl) (tQ rfl hS (λw hm=>yl isAgg47 ((aI.mono hm.lez).cell (j:=1) rfl) rfl) (tO (tY rfl (yL hm 1 isAgg24 rfl) (tAs hS (tP rfl (λw=>yI jW aK (ff aB) rfl) (tP rfl (λw=>yF kE rfl) (tO (tY rfl (yl isAgg47 ((aL.mono hm.lez).cell (j:=1) rfl) rfl) (tAs hS (tO (gb λax ae=>tf rfl rfl (λa hf=>fo hf rfl call26 rfl (uw _ aG.params aU (hm.now aX) aJ.params aZ (hm.now aa) _ ae)) ?_)))))))))))))))))
    rintro ay w ⟨rfl,hB⟩
    replace hm:=hm.below' hB;clear hB
    refine tAk hm [0,1] rfl λhS=>tP rfl (λw=>yN rfl) (tP rfl (λw=>yKf rfl) (tP rfl (λw=>yM rfl) (gsn 49 rfl (λaf=>?_) λaf=>?_)))
    ·exact tPo rfl rfl (tPo rfl rfl (tPo rfl rfl (tPo rfl rfl (tQo rfl hS rfl (tPo rfl rfl (tPo rfl rfl (tQo rfl hS rfl (tO (tEo rfl rfl (tAs hS (tPo rfl rfl (tPo rfl rfl (tO (tEo rfl rfl (tAs hS (tO (tEo rfl rfl (tAn rfl (tPo rfl rfl (tP rfl (λw=>yKt rfl) (tE (gz hm [0,1] rfl))))))))))))))))))))))
    refine tP rfl (λw=>yF im rfl) (tP rfl (λw=>yM rfl) (tP rfl (λw=>yF im rfl) (tP rfl (λw=>yM rfl) (tQ rfl hS (λw hm=>yL hm 0 isAgg24 rfl) (tP rfl (λw=>yI jW aH (ff aA) rfl) (tP rfl (λw=>yF l0 rfl) (tQ rfl hS (λw hm=>yl isAgg52 ((aI.mono hm.lez).cell (j:=2) rfl) rfl) (tO (tY rfl (yL hm 1 isAgg24 rfl) (tAs hS (tP rfl (λw=>yI jW aK (ff aB) rfl) (tP rfl (λw=>yF l0 rfl) (tO (tY rfl (yl isAgg52 ((aL.mono hm.lez).cell (j:=2) rfl) rfl) (tAs hS (tO (gb λaz ag=>tf rfl rfl (λa hf=>fo hf rfl call27 rfl (rh _ aG.body aV (hm.now aY) aJ.body a8 (hm.now ab) _ ag)) ?_)))))))))))))))))
    rintro bA w ⟨rfl,hB⟩
    replace hm:=hm.below' hB;clear hB
    exact tAn rfl (tP rfl (λw=>yN rfl) (tP rfl (λw=>yKf rfl) (tE (gz hm [0,1] rfl))))
   repeat clear hm
   intro aF w hm
   refine gs 64 rfl (λah=>?_) λah=>?_
   ·exact gct rfl (gS (gR (gA rfl (gE (gRt (gLr aT aS (gr1 results9 rfl ⟨rfl,hm.below⟩)))))))
   exact gcf rfl (gSk (gR (gM rfl (gP (by omega) (by omega) rfl (gA rfl (gE (gze hm [0,1] rfl)))))))
  repeat clear hm
  intro bB bC w hm bD bE
  exact gS (gS (gR (gM rfl (gF im rfl (gL hm 0 isAgg24 rfl (gY (yV jW rfl) (gB rfl (gE (go _ 17 rfl (decide_eq_false (by omega)) (gcf rfl (gXt (gHh (gS (gR (gA rfl (gE (gRt (gr1 results9 rfl ⟨rfl,hm.below⟩))))))))))))))))))
theorem uo (w0:World) (elems:List Str) (v1:Value) (h1:GT.rep (hp w0) [v1] elems) (sep:Str) :
    iF Tryz.prog 33 [v1,(tV sep)] w0 (strings_Join elems sep) λr v w'=>v=(tV r)∧Below w0.heap.size w0 w':=as5 lays156 bx w0 elems v1 h1 sep
end Go.Proofs.YtdmoolhjchoifaaGreatDoor
