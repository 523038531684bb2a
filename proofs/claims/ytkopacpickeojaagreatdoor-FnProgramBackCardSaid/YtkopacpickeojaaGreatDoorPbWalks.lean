/- A part of the proof of FnProgramBackCardSaid. -/
import Derived.Test.YtkopacpickeojaaGreatDoorPbWalksC
namespace Go.Proofs.YtkopacpickeojaaGreatDoor
open Go Go.Wk Go.RowKit
set_option maxRecDepth 4000
set_option maxHeartbeats 4000000
open Tryz
theorem sL  : (∀ (r_:kM) (r:(List kN) × kM),kx r_=some r→∀ (w0:World) (hz:kX) (bp0:Nat) (v1p:Value) (hm0:Mem w0 hz w0 [blk bp0 [v1p,(.bool (r_.bad))] 54,ow [v1p] r_.list]) (hG1:GT.rep hz [.slice (some ⟨1,0,none⟩) 1 1] [kO]) (hG2:GT.rep hz [.slice (some ⟨2,0,none⟩) 1 1] [kz]),Con Tryz.prog 64 [(pV bp0)] w0 (λv w'=>∃ (x1:Value) (x2:Value),v=x1∧Mem w0 hz w' [blk bp0 [x2,(.bool (r.2.bad))] 54,ow [x1] r.1,ow [x2] r.2.list])) ∧
    (∀ (r_:kM) (r:kN × kM),l8 r_=some r→∀ (w0:World) (hz:kX) (bp0:Nat) (v1p:Value) (hm0:Mem w0 hz w0 [blk bp0 [v1p,(.bool (r_.bad))] 54,ow [v1p] r_.list]) (hG1:GT.rep hz [.slice (some ⟨1,0,none⟩) 1 1] [kO]) (hG2:GT.rep hz [.slice (some ⟨2,0,none⟩) 1 1] [kz]),Con Tryz.prog 102 [(pV bp0)] w0 (λv w'=>∃ (x1:Value) (x2:Value) (x3:Value) (x4:Value),v=(.agg #[nV r.1.op,(tV r.1.name),x1,x2,x3])∧Mem w0 hz w' [blk bp0 [x4,(.bool (r.2.bad))] 54,ow [x1] r.1.args,ow [x2] r.1.body,ow [x3] r.1.else_,ow [x4] r.2.list])):=by
  refine kx.mutual_partial_correctness  (motive_1:=λr_ r=>∀ (w0:World) (hz:kX) (bp0:Nat) (v1p:Value) (hm0:Mem w0 hz w0 [blk bp0 [v1p,(.bool (r_.bad))] 54,ow [v1p] r_.list]) (hG1:GT.rep hz [.slice (some ⟨1,0,none⟩) 1 1] [kO]) (hG2:GT.rep hz [.slice (some ⟨2,0,none⟩) 1 1] [kz]),Con Tryz.prog 64 [(pV bp0)] w0 (λv w'=>∃ (x1:Value) (x2:Value),v=x1∧Mem w0 hz w' [blk bp0 [x2,(.bool (r.2.bad))] 54,ow [x1] r.1,ow [x2] r.2.list])) (motive_2:=λr_ r=>∀ (w0:World) (hz:kX) (bp0:Nat) (v1p:Value) (hm0:Mem w0 hz w0 [blk bp0 [v1p,(.bool (r_.bad))] 54,ow [v1p] r_.list]) (hG1:GT.rep hz [.slice (some ⟨1,0,none⟩) 1 1] [kO]) (hG2:GT.rep hz [.slice (some ⟨2,0,none⟩) 1 1] [kz]),Con Tryz.prog 102 [(pV bp0)] w0 (λv w'=>∃ (x1:Value) (x2:Value) (x3:Value) (x4:Value),v=(.agg #[nV r.1.op,(tV r.1.name),x1,x2,x3])∧Mem w0 hz w' [blk bp0 [x4,(.bool (r.2.bad))] 54,ow [x1] r.1.args,ow [x2] r.1.body,ow [x3] r.1.else_,ow [x4] r.2.list])) ?_ ?_
  · intro rec_ ih_ r_ r hq w0 hz bp0 v1p hm0 hG1 hG2
    have pimpl_wordReader__stmt_rec:∀ (w0:World) (hz:kX) (r_:kM) (bp0:Nat) (v1p:Value) (hm0:Mem w0 hz w0 [blk bp0 [v1p,(.bool (r_.bad))] 54,ow [v1p] r_.list]) (hG1:GT.rep hz [.slice (some ⟨1,0,none⟩) 1 1] [kO]) (hG2:GT.rep hz [.slice (some ⟨2,0,none⟩) 1 1] [kz]) (r:kN × kM) (hq:rec_ r_=some r),Con Tryz.prog 102 [(pV bp0)] w0 (λv w'=>∃ (x1:Value) (x2:Value) (x3:Value) (x4:Value),v=(.agg #[nV r.1.op,(tV r.1.name),x1,x2,x3])∧Mem w0 hz w' [blk bp0 [x4,(.bool (r.2.bad))] 54,ow [x1] r.1.args,ow [x2] r.1.body,ow [x3] r.1.else_,ow [x4] r.2.list]):=λw0 hz r_ bp0 v1p hm0 hG1 hG2 r hq=>ih_ r_ r hq w0 hz bp0 v1p hm0 hG1 hG2
    refine pO (ρ:=(List kN) × kM) (R:=λr v w'=>∃ (x1:Value) (x2:Value),v=x1∧Mem w0 hz w' [blk bp0 [x2,(.bool (r.2.bad))] 54,ow [x1] r.1,ow [x2] r.2.list]) func64 rfl hq ?_
    have hm:=hm0
    refine gS (gR (gA rfl (gE (gS (gR (gA rfl (gE (gS (gR (gM rfl ?_))))))))))
    obtain ⟨ar,hle,hm1,hsub,au⟩:=hm.take2 (L1:=[_,_]) (L2:=[]) [0,1] [] (by decide) rfl rfl
    refine gCg rfl call61 (lX _ ar r_ bp0 v1p 3 (mkS [123]) hm1 ) ?_
    rintro aF bN bO w ⟨aN,rfl,hB⟩
    replace hm:=au _ _ hB;clear hB
    refine gE (gS ?_)
    obtain ⟨bP,bG,rfl,cQ⟩:=kT (hm.ow_rep 1 rfl)
    refine gJg (λaA a w=>∃ (aZ aK:Value),St 22 [(3,aZ)] w0 hz [ow [aZ] aA.1,blk bp0 [aK,(.bool (aA.2.2))] 54,ow [aK] aA.2.1] a w) (λaA=>?_) ?_
    ·refine gBk ?_
     replace hm:=hm.nilow (α:=kN)
     refine gMg (λaL a w=>∃ (aJ aO:Value),St 22 [(0,(pV bp0)),(3,aO)] w0 hz [blk bp0 [aJ,(.bool (aL.2.1))] 54,ow [aJ] aL.1,ow [aO] aL.2.2] a w) (λa hf=>⟨.slice bP aF.list.length bG,.slice none 0 0,hf.sb rfl,hm.pk [1,2,0] rfl rfl⟩) ?_
     repeat clear hm
     rintro bH bQ aL a w ⟨aJ,aO,hf,hm⟩ cR bR
     refine gv hf (gS (gS (gJg (λaI a w=>∃ (aP:Value),St 22 [(0,(pV bp0)),(3,aO),(15,(.bool (aI.2.2)))] w0 hz [blk bp0 [aP,(.bool (aI.2.1))] 54,ow [aP] aI.1,ow [aO] aL.2.2] a w) (λaI=>?_) ?_)))
     ·refine gR (gM rfl (gY (yG rfl (kj rfl rfl)) (gF qt rfl (gL hm 0 isAgg4 rfl (gN rfl (gM rfl (gsn 11 rfl (λav=>?_) λav=>?_)))))))
      ·refine gM rfl ?_
       obtain ⟨aw,hle,hm1,hsub,ax⟩:=hm.take2 (L1:=[_,_]) (L2:=[_]) [0,1] [2] (by decide) rfl rfl
       refine gCg rfl call63 (mV _ aw (⟨aL.1,aL.2.1⟩:kM) bp0 aJ 3 (mkS [125]) hm1 ) ?_
       rintro bJ bS bT w ⟨ay,rfl,hB⟩
       replace hm:=ax _ _ hB;clear hB
       exact gN rfl (gKt rfl (gE (gZ λa hf=>⟨ay,hf.sb rfl,hm.pk [0,1,2] rfl rfl⟩)))
      exact gO rfl (gO rfl (gO rfl (gKf rfl (gE (gZ λa hf=>⟨aJ,hf.sb rfl,hm.pk [0,1,2] rfl rfl⟩)))))
     repeat clear hm
     rintro aI a w ⟨aP,hf,hm⟩
     refine gv hf (gs 15 rfl (λaz=>?_) λaz=>?_)
     ·refine gct rfl (gSk (gBk (gR (gM rfl (gM rfl ?_)))))
      obtain ⟨bA,hle,hm1,hsub,bB⟩:=hm.take2 (L1:=[_,_]) (L2:=[_]) [0,1] [2] (by decide) rfl rfl
      refine gCg rfl call102 (pimpl_wordReader__stmt_rec _ bA (⟨aI.1,aI.2.1⟩:kM) bp0 aP hm1 (GT.mono hle hG1) (GT.mono hle hG2)) ?_
      rintro aQ bU aT w ⟨bK,a8,aM,aU,rfl,hB⟩
      replace hm:=bB _ _ hB;clear hB
      refine gf rfl (λa hf=>kS (vs:=#[(0,(.agg #[nV aQ.1.op,(tV aQ.1.name),bK,a8,aM]))]) (cs:=[nV aQ.1.op,(tV aQ.1.name),bK,a8,aM]) mZ hf hm rfl rfl (by kernel_rfl) rfl rfl) ?_
      rintro _ w ⟨cS,rfl,hm⟩
      replace hm:=hm.els_nil (α:=kN)
      replace hm:=(ta aQ.1 hm 3 4 5 rfl).pk (L':=[_,_,_,_,_,_]) [0,1,2,3,6,7] rfl rfl
      replace hm:=(hm.els_cons 0 3 (by decide) rfl rfl).pk (L':=[_,_,_,_,_]) [0,1,2,4,5] rfl rfl
      replace hm:=(hm.lit_els 1 0 (by decide) rfl rfl rfl rfl).pk (L':=[_,_,_,_]) [1,2,3,4] rfl rfl
      refine gb λcT bL=>?_
      obtain ⟨bC,bV⟩:=kb.1 bL
      replace hm:=(hm.both 3 0 (by decide) rfl rfl).pk (L':=[_,_,_]) [1,2,3] rfl rfl
      refine gf rfl (λa hf=>lp (xs:=aL.2.2) (ys:=([aQ.1]:List kN)) 2 mZ hf hm rfl rfl rfl rfl bC) ?_
      rintro aV w hm
      rw [bV] at hm
      exact gA rfl (gE (gZe λa hf=>⟨aU,aV,hf.sb rfl,hm.pk [0,1,2] rfl rfl⟩))
     exact gcf rfl (gXt (gHh (gLp bR bQ (gZ λa hf=>⟨aO,aP,hf.sb rfl,hm.pk [2,0,1] rfl rfl⟩))))
    repeat clear hm
    rintro aA a w ⟨aZ,aK,hf,hm⟩
    exact gv hf (gS (gR (gM rfl (gA rfl (gE (gRt (gr1 results64 rfl ⟨aZ,aK,rfl,hm.pk [1,0,2] rfl rfl⟩)))))))
  · intro rec_ ih_ r_ r hq w0 hz bp0 v1p hm0 hG1 hG2
    have pimpl_wordReader__block_rec:∀ (w0:World) (hz:kX) (r_:kM) (bp0:Nat) (v1p:Value) (hm0:Mem w0 hz w0 [blk bp0 [v1p,(.bool (r_.bad))] 54,ow [v1p] r_.list]) (hG1:GT.rep hz [.slice (some ⟨1,0,none⟩) 1 1] [kO]) (hG2:GT.rep hz [.slice (some ⟨2,0,none⟩) 1 1] [kz]) (r:(List kN) × kM) (hq:rec_ r_=some r),Con Tryz.prog 64 [(pV bp0)] w0 (λv w'=>∃ (x1:Value) (x2:Value),v=x1∧Mem w0 hz w' [blk bp0 [x2,(.bool (r.2.bad))] 54,ow [x1] r.1,ow [x2] r.2.list]):=λw0 hz r_ bp0 v1p hm0 hG1 hG2 r hq=>ih_ r_ r hq w0 hz bp0 v1p hm0 hG1 hG2
    refine pO (ρ:=kN × kM) (R:=λr v w'=>∃ (x1:Value) (x2:Value) (x3:Value) (x4:Value),v=(.agg #[nV r.1.op,(tV r.1.name),x1,x2,x3])∧Mem w0 hz w' [blk bp0 [x4,(.bool (r.2.bad))] 54,ow [x1] r.1.args,ow [x2] r.1.body,ow [x3] r.1.else_,ow [x4] r.2.list]) func102 rfl hq ?_
    have hm:=hm0
    refine gS (gR (gAl hm zeroValue61 rfl λaB w hm=>gE (gS (gR (gM rfl ?_)))))
    obtain ⟨ar,hle,hm1,hsub,au⟩:=hm.take2 (L1:=[_,_]) (L2:=[_]) [1,2] [0] (by decide) rfl rfl
    refine gCg rfl call100 (oD _ ar r_ bp0 v1p hm1 ) ?_
    rintro aF bN bO w ⟨aN,rfl,hB⟩
    replace hm:=au _ _ hB;clear hB
    refine gAl hm zeroValue47 rfl λbM w hm=>gSN hm 0 sizeOf47 (kL rfl (kL rfl ke)) rfl λw hm=>gE (gS (gR (gF o8 rfl (gL hm 0 isAgg9 rfl (gY (yG rfl (kr (vs:=[(0,(nV 2)),(1,(tV aF.1.text))]) (cs:=#[nV 2,(tV aF.1.text),.slice none 0 0,.slice none 0 0,.slice none 0 0]) rfl rfl (by kernel_rfl))) (gAl hm zeroValue61 rfl λaC w hm=>gSN hm 0 sizeOf61 (kL rfl (kL rfl (kL rfl (kL rfl (kL rfl ke))))) rfl λw hm=>gE (gS (gS (gR ?_)))))))))
    obtain ⟨aZ,bW,bX⟩:=tZ hG2 rfl
    refine gY (yl isAgg151 ((lq.mono hm.lez (bW)).cell (j:=0) rfl) rfl) (gF o8 rfl (gL hm 1 isAgg9 rfl (gY (yG rfl (br0 (key:=aF.1.text) (m:=(kz:th Int)) (z:=0) underlying9 underlying151 zeroValue3 (hm.now bX) rfl rfl rfl rfl)) (gA rfl (gE (tX (λaA a w=>∃ (aK:Value),St 82 [(0,(pV bp0)),(2,(pV aB)),(4,(pV aC))] w0 hz [blk bp0 [aK,(.bool (aA.2.1))] 54,ow [aK] aA.1,blk aB [nV 0,(tV (mkS [])),.slice none 0 0,.slice none 0 0,.slice none 0 0] 61,blk aC [nV aA.2.2.1,(tV aA.2.2.2),.slice none 0 0,.slice none 0 0,.slice none 0 0] 61] a w) (λbG bY=>?_) ?_))))))
    ·refine gBk (gS (gJ hm (λae=>[(0,(pV bp0)),(2,(pV aB)),(3,(pV bM)),(4,(pV aC)),(5,(nV (((th.get kz aF.1.text).getD 0)))),(19,(.bool (ae)))]) (λae=>[blk bp0 [aN,(.bool (aF.2.bad))] 54,ow [aN] aF.2.list,blk aB [nV 0,(tV (mkS [])),.slice none 0 0,.slice none 0 0,.slice none 0 0] 61,blk bM [nV aF.1.kind,(tV aF.1.text)] 47,blk aC [nV 2,(tV aF.1.text),.slice none 0 0,.slice none 0 0,.slice none 0 0] 61]) (λae=>?_) ?_))
     ·refine gR (gF sN rfl (gL hm 1 isAgg3 rfl (gB rfl (gM rfl (gsd 23 rfl (λaz=>?_) λaz=>?_)))))
      ·exact gM rfl (gB rfl (gKt rfl (gA rfl (gE (gz hm [2,3,4,1,0] rfl)))))
      exact gO rfl (gO rfl (gKf rfl (gA rfl (gE (gz hm [2,3,4,1,0] rfl)))))
     repeat clear hm
     intro ae w hm
     refine tX (λaa a w=>∃ (af:Value),St 82 [(0,(pV bp0)),(2,(pV aB)),(4,(pV aC))] w0 hz [blk bp0 [af,(.bool (aa.2.1))] 54,ow [af] aa.1,blk aB [nV 0,(tV (mkS [])),.slice none 0 0,.slice none 0 0,.slice none 0 0] 61,blk aC [nV aa.2.2.1,(tV aa.2.2.2),.slice none 0 0,.slice none 0 0,.slice none 0 0] 61] a w) (λcU bZ=>?_) ?_
     ·refine gs 19 rfl (λbC=>?_) λbC=>?_
      ·refine gct rfl (gS (gR (gM rfl (gY (yG rfl (kr (vs := [(0, (nV (((th.get kz aF.1.text).getD 0))))]) (cs := #[nV (((th.get kz aF.1.text).getD 0)), (tV (mkS [])), .slice none 0 0, .slice none 0 0, .slice none 0 0]) rfl rfl (by kernel_rfl))) (gSN hm 4 sizeOf61 (kL rfl (kL rfl (kL rfl (kL rfl (kL rfl ke))))) rfl fun w hm => gE (gS (gR (gM rfl (gB rfl (gE (gJg (fun aI a w => ∃ (aJ : Value), St 82 [(0, (pV bp0)), (2, (pV aB)), (4, (pV aC))] w0 hz [blk bp0 [aJ, (.bool (aI.2.1))] 54, ow [aJ] aI.1, blk aB [nV 0, (tV (mkS [])), .slice none 0 0, .slice none 0 0, .slice none 0 0] 61, blk aC [nV (((th.get kz aF.1.text).getD 0)), (tV aI.2.2), .slice none 0 0, .slice none 0 0, .slice none 0 0] 61] a w) (fun aI => ?_) ?_)))))))))))
       ·refine gsd 30 rfl (λav=>?_) λav=>?_
        ·refine gct rfl (gS (gR (gM rfl ?_)))
         obtain ⟨aw,hle,hm1,hsub,ax⟩:=hm.take2 (L1:=[_,_]) (L2:=[_,_,_]) [0,1] [2,3,4] (by decide) rfl rfl
         refine gCg rfl call62 (pA _ aw aF.2 bp0 aN hm1 ) ?_
         rintro bJ bS bT w ⟨ay,rfl,hB⟩
         replace hm:=ax _ _ hB;clear hB
         refine gF qd rfl (gS1 hm 4 sizeOf9 rfl rfl λw hm=>gE (gR (gM rfl ?_)))
         obtain ⟨b8,hle,hm1,hsub,b9⟩:=hm.take2 (L1:=[_,_]) (L2:=[_,_,_]) [0,1] [2,3,4] (by decide) rfl rfl
         refine gCg rfl call61 (lX _ b8 bJ.2 bp0 ay 3 (mkS [61]) hm1 ) ?_
         rintro cV cW cX w ⟨ba,rfl,hB⟩
         replace hm:=b9 _ _ hB;clear hB
         exact gE (gZ λa hf=>⟨ba,hf.sb rfl,hm.pk [0,1,2,4] rfl rfl⟩)
        exact gcf rfl (gSk (gZ λa hf=>⟨aN,hf.sb rfl,hm.pk [0,1,2,4] rfl rfl⟩))
       repeat clear hm
       rintro aI a w ⟨aJ,hf,hm⟩
       exact gv hf (gZe λa hf=>⟨aJ,hf.sb rfl,hm.pk [0,1,2,3] rfl rfl⟩)
      refine gcf rfl (gS (gR (gF sN rfl (gL hm 3 isAgg3 rfl (gB rfl (gA rfl (gE (gsd 36 rfl (λbb=>?_) λbb=>?_))))))))
      ·refine gct rfl (gR (gM rfl ?_))
       obtain ⟨bA,hle,hm1,hsub,bB⟩:=hm.take2 (L1:=[_,_]) (L2:=[_,_,_]) [0,1] [2,3,4] (by decide) rfl rfl
       refine gCg rfl call61 (lX _ bA aF.2 bp0 aN 3 (mkS [61]) hm1 ) ?_
       rintro aQ bU aO w ⟨aP,rfl,hB⟩
       replace hm:=bB _ _ hB;clear hB
       exact gE (gZe λa hf=>⟨aP,hf.sb rfl,hm.pk [0,1,2,4] rfl rfl⟩)
      refine gcf rfl (gS (gR (gM rfl (gY (yG rfl (kj rfl rfl)) (gF qt rfl (gS1 hm 0 sizeOf4 rfl rfl λw hm=>gE (gS (gR (gY (yn (hm.blk_at 4 rfl) isAgg61 sizeOf61 rfl) (gSN hm 2 sizeOf61 (kL rfl (kL rfl (kL rfl (kL rfl (kL rfl ke))))) rfl λw hm=>gE (gRt (gEr bZ (gEr bY ?_)))))))))))))
      replace hm:=hm.nilow (α:=kK)
      replace hm:=hm.nilow (α:=kN)
      replace hm:=hm.nilow (α:=kN)
      exact grc 5 results102 hm rfl isAgg61 sizeOf61 ⟨.slice none 0 0,.slice none 0 0,.slice none 0 0,aN,rfl,hm.pk [3,2,1,0,4] rfl rfl⟩
     repeat clear hm
     rintro aa a w ⟨af,hf,hm⟩
     exact gv hf (gZe λa hf=>⟨af,hf.sb rfl,hm.pk [0,1,2,3] rfl rfl⟩)
    repeat clear hm
    rintro aA a w ⟨aK,hf,hm⟩
    refine gv hf (gS (gW (.p 0 (.p 2 (.q 1 (.e 3 (.e 4 (.e 5 (.p 6 (.e 7 .fin .nil)) .nil) .nil) .nil)))) [3,4] [0,2,6] hm [2,3] [blk aB [nV 0,(tV (mkS [])),.slice none 0 0,.slice none 0 0,.slice none 0 0] 61,blk aC [nV aA.2.2.1,(tV aA.2.2.2),.slice none 0 0,.slice none 0 0,.slice none 0 0] 61] rfl mxo (by kernel_rfl) (λ_ _ _ h=>h.2) λw hm hS=>tP rfl (λw=>yF ov rfl) (tP rfl (λw=>yM rfl) (tQ rfl hS (λw hm=>yL hm 1 isAgg59 rfl) (tO (gb λaD bc=>?_))))))
    obtain ⟨bd,hle,hm1,hsub,be⟩:=hm.take2 (L1:=[_,_]) (L2:=[_,_]) [0,1] [2,3] (by decide) rfl rfl
    refine tf rfl rfl (λa hf=>lK hf rfl call126 rfl (qi _ bd (⟨aA.1,aA.2.1⟩:kM) bp0 aK 1 hm1 (GT.mono hle hG1) _ bc)) ?_
    rintro cY w ⟨ag,ah,rfl,hB⟩
    replace hm:=be _ _ hB;clear hB
    refine tAk hm [3,4] rfl λhS=>tO (tf rfl rfl (λa hf=>kS (vs:=#[(0,(.agg #[nV aD.1.op,nV aD.1.n_,(tV aD.1.name),ag]))]) (cs:=[nV aD.1.op,nV aD.1.n_,(tV aD.1.name),ag]) na hf hm rfl rfl (by kernel_rfl) rfl rfl) ?_)
    rintro _ w ⟨bf,rfl,hm⟩
    replace hm:=hm.els_nil (α:=kK)
    replace hm:Mem w0 hz _ [els [] ([]:List kK),blk bf [nV aD.1.op,nV aD.1.n_,(tV aD.1.name),ag] 80,blk bp0 [ah,(.bool (aD.2.bad))] 54,ow [nV aD.1.op,nV aD.1.n_,(tV aD.1.name),ag] (aD.1:kK),ow [ah] aD.2.list,blk aB [nV 0,(tV (mkS [])),.slice none 0 0,.slice none 0 0,.slice none 0 0] 61,blk aC [nV aA.2.2.1,(tV aA.2.2.2),.slice none 0 0,.slice none 0 0,.slice none 0 0] 61]:=ly aD.1 hm 3 rfl
    replace hm:=(hm.els_cons 0 3 (by decide) rfl rfl).pk (L':=[_,_,_,_,_,_]) [0,1,2,4,5,6] rfl rfl
    replace hm:=(hm.lit_els 1 0 (by decide) rfl rfl rfl rfl).pk (L':=[_,_,_,_,_]) [1,2,3,4,5] rfl rfl
    refine tAk hm [3,4] rfl λhS=>tO ?_
    replace hm:=hm.nilow (α:=kK)
    refine gb λbD bg=>?_
    obtain ⟨bh,bi⟩:=kb.1 bg
    replace hm:=(hm.both 0 1 (by decide) rfl rfl).pk (L':=[_,_,_,_,_]) [0,2,3,4,5] rfl rfl
    refine tf rfl rfl (λa hf=>lp (xs:=([]:List kK)) (ys:=([aD.1]:List kK)) 0 na hf hm rfl rfl rfl rfl bh) ?_
    rintro ab w hm
    rw [bi] at hm
    refine tAn rfl (tP rfl (λw=>yF ov rfl) (tO (tf0 rfl rfl (λa hf=>nP 4 hf hm rfl sizeOf59 rfl rfl rfl (ki (hm.ow_rep 0 rfl)) rfl) ?_)))
    rintro _ w hm
    refine tAn rfl (tE (gS (gS (gR (gF oT rfl (gL hm 4 isAgg3 rfl (gB rfl (gE (gJg (λaG a w=>∃ (aR aH:Value),St 82 [(0,(pV bp0)),(2,(pV aB)),(4,(pV aC))] w0 hz [blk bp0 [aR,(.bool (aG.2.1))] 54,ow [aR] aG.1,blk aB [nV 0,(tV (mkS [])),.slice none 0 0,.slice none 0 0,.slice none 0 0] 61,blk aC [nV aA.2.2.1,(tV aA.2.2.2),aH,.slice none 0 0,.slice none 0 0] 61,ow [aH] aG.2.2] a w) (λaG=>?_) ?_)))))))))
    ·refine gsd 51 rfl (λbj=>?_) λbj=>?_
     ·refine gct rfl (gS (gR (gM rfl ?_)))
      obtain ⟨bk,hle,hm1,hsub,bl⟩:=hm.take2 (L1:=[_,_]) (L2:=[_,_,_]) [1,2] [0,3,4] (by decide) rfl rfl
      refine gCg rfl call61 (lX _ bk aD.2 bp0 ah 3 (mkS [44]) hm1 ) ?_
      rintro bH cZ c8 w ⟨bm,rfl,hB⟩
      replace hm:=bl _ _ hB;clear hB
      refine gE (gW (.p 0 (.p 2 (.q 1 (.e 3 (.e 4 (.e 5 (.p 6 (.e 7 .fin .nil)) .nil) .nil) .nil)))) [3,4] [0,2,6] hm [2,3,4] [ow [ab] bD,blk aB [nV 0,(tV (mkS [])),.slice none 0 0,.slice none 0 0,.slice none 0 0] 61,blk aC [nV aA.2.2.1,(tV aA.2.2.2),ab,.slice none 0 0,.slice none 0 0] 61] rfl mxo (by kernel_rfl) (λ_ _ _ h=>h.2) λw hm hS=>tP rfl (λw=>yF ov rfl) (tP rfl (λw=>yM rfl) (tQ rfl hS (λw hm=>yL hm 2 isAgg59 rfl) (tO (gb λaE bo=>?_)))))
      obtain ⟨bp,hle,hm1,hsub,bq⟩:=hm.take2 (L1:=[_,_]) (L2:=[_,_,_]) [0,1] [2,3,4] (by decide) rfl rfl
      refine tf rfl rfl (λa hf=>lK hf rfl call126 rfl (qi _ bp bH bp0 bm 1 hm1 (GT.mono hle hG1) _ bo)) ?_
      rintro c9 w ⟨ai,bE,rfl,hB⟩
      replace hm:=bq _ _ hB;clear hB
      refine tAk hm [3,4,5] rfl λhS=>tO (tf rfl rfl (λa hf=>kS (vs:=#[(0,(.agg #[nV aE.1.op,nV aE.1.n_,(tV aE.1.name),ai]))]) (cs:=[nV aE.1.op,nV aE.1.n_,(tV aE.1.name),ai]) na hf hm rfl rfl (by kernel_rfl) rfl rfl) ?_)
      rintro _ w ⟨br,rfl,hm⟩
      replace hm:=hm.els_nil (α:=kK)
      replace hm:Mem w0 hz _ [els [] ([]:List kK),blk br [nV aE.1.op,nV aE.1.n_,(tV aE.1.name),ai] 80,blk bp0 [bE,(.bool (aE.2.bad))] 54,ow [nV aE.1.op,nV aE.1.n_,(tV aE.1.name),ai] (aE.1:kK),ow [bE] aE.2.list,ow [ab] bD,blk aB [nV 0,(tV (mkS [])),.slice none 0 0,.slice none 0 0,.slice none 0 0] 61,blk aC [nV aA.2.2.1,(tV aA.2.2.2),ab,.slice none 0 0,.slice none 0 0] 61]:=ly aE.1 hm 3 rfl
      replace hm:=(hm.els_cons 0 3 (by decide) rfl rfl).pk (L':=[_,_,_,_,_,_,_]) [0,1,2,4,5,6,7] rfl rfl
      replace hm:=(hm.lit_els 1 0 (by decide) rfl rfl rfl rfl).pk (L':=[_,_,_,_,_,_]) [1,2,3,4,5,6] rfl rfl
      refine tAk hm [3,4,5] rfl λhS=>tO (gb λca bs=>?_)
      obtain ⟨bt,bu⟩:=kb.1 bs
      replace hm:=(hm.both 3 0 (by decide) rfl rfl).pk (L':=[_,_,_,_,_]) [1,2,3,4,5] rfl rfl
      refine tf rfl rfl (λa hf=>lp (xs:=bD) (ys:=([aE.1]:List kK)) 2 na hf hm rfl rfl rfl rfl bt) ?_
      rintro bv w hm
      rw [bu] at hm
      refine tAn rfl (tP rfl (λw=>yF ov rfl) (tO (tf0 rfl rfl (λa hf=>nP 4 hf hm rfl sizeOf59 rfl rfl rfl (ki (hm.ow_rep 2 rfl)) rfl) ?_)))
      rintro _ w hm
      exact tAn rfl (tE (gZ λa hf=>⟨bE,bv,hf.sb rfl,hm.pk [0,1,3,4,2] rfl rfl⟩))
     exact gcf rfl (gSk (gZ λa hf=>⟨ah,ab,hf.sb rfl,hm.pk [1,2,3,4,0] rfl rfl⟩))
    repeat clear hm
    rintro aG a w ⟨aR,aH,hf,hm⟩
    refine gv hf (gS (gS (gR (gF oT rfl (gL hm 3 isAgg3 rfl (gE (gJg (λaX a w=>∃ (aj ak al:Value),St 82 [(2,(pV aB)),(4,(pV aC))] w0 hz [blk aB [nV 0,(tV (mkS [])),.slice none 0 0,.slice none 0 0,.slice none 0 0] 61,blk aC [nV aA.2.2.1,(tV aA.2.2.2),aH,aj,ak] 61,ow [aH] aG.2.2,ow [aj] aX.1,ow [ak] aX.2.1,blk bp0 [al,(.bool (aX.2.2.2))] 54,ow [al] aX.2.2.1] a w) (λaX=>?_) ?_)))))))
    ·refine gBk (gS (gS (gR (gB rfl (gA rfl (gE (gJ hm (λam=>[(0,(pV bp0)),(2,(pV aB)),(4,(pV aC)),(65,(.bool (am)))]) (λam=>[blk bp0 [aR,(.bool (aG.2.1))] 54,ow [aR] aG.1,blk aB [nV 0,(tV (mkS [])),.slice none 0 0,.slice none 0 0,.slice none 0 0] 61,blk aC [nV aA.2.2.1,(tV aA.2.2.2),aH,.slice none 0 0,.slice none 0 0] 61,ow [aH] aG.2.2]) (λam=>?_) ?_)))))))
     ·refine gsd 65 rfl (λbw=>?_) λbw=>?_
      ·exact gct rfl (gSk (gz hm [0,1,2,3,4] rfl))
      exact gcf rfl (gR (gB rfl (gA rfl (gE (gz hm [0,1,2,3,4] rfl)))))
     repeat clear hm
     intro am w hm
     refine gJg (λaY a w=>∃ (an ao aq:Value),St 82 [(2,(pV aB)),(4,(pV aC))] w0 hz [blk aB [nV 0,(tV (mkS [])),.slice none 0 0,.slice none 0 0,.slice none 0 0] 61,blk aC [nV aA.2.2.1,(tV aA.2.2.2),aH,an,ao] 61,ow [aH] aG.2.2,ow [an] aY.1,ow [ao] aY.2.1,blk bp0 [aq,(.bool (aY.2.2.2))] 54,ow [aq] aY.2.2.1] a w) (λaY=>?_) ?_
     ·refine gs 65 rfl (λbz=>?_) λbz=>?_
      ·refine gct rfl (gS (gR (gM rfl ?_)))
       obtain ⟨cA,hle,hm1,hsub,cC⟩:=hm.take2 (L1:=[_,_]) (L2:=[_,_,_]) [0,1] [2,3,4] (by decide) rfl rfl
       refine gCg rfl call64 (pimpl_wordReader__block_rec _ cA (⟨aG.1,aG.2.1⟩:kM) bp0 aR hm1 (GT.mono hle hG1) (GT.mono hle hG2)) ?_
       rintro bF bL aT w ⟨_,a8,rfl,hB⟩
       replace hm:=cC _ _ hB;clear hB
       refine gF qf rfl (gS1 hm 4 sizeOf43 (ki (hm.ow_rep 1 rfl)) rfl λw hm=>gE (gS (gJg (λaS a w=>∃ (aM:Value),St 82 [(0,(pV bp0)),(2,(pV aB)),(4,(pV aC)),(77,(.bool (aS.2.2)))] w0 hz [blk bp0 [aM,(.bool (aS.2.1))] 54,ow [aM] aS.1,blk aB [nV 0,(tV (mkS [])),.slice none 0 0,.slice none 0 0,.slice none 0 0] 61,blk aC [nV aA.2.2.1,(tV aA.2.2.2),aH,aT,.slice none 0 0] 61,ow [aH] aG.2.2,ow [aT] bF.1] a w) (λaS=>?_) ?_)))
       ·refine gR (gF oT rfl (gL hm 4 isAgg3 rfl (gB rfl (gM rfl (gsd 74 rfl (λcD=>?_) λcD=>?_)))))
        ·refine gM rfl ?_
         obtain ⟨cE,hle,hm1,hsub,cF⟩:=hm.take2 (L1:=[_,_]) (L2:=[_,_,_,_]) [0,2] [1,3,4,5] (by decide) rfl rfl
         refine gCg rfl call63 (mV _ cE bF.2 bp0 a8 4 (mkS [101,108,115,101]) hm1 ) ?_
         rintro cb cc cd w ⟨cG,rfl,hB⟩
         replace hm:=cF _ _ hB;clear hB
         exact gKt rfl (gE (gZ λa hf=>⟨cG,hf.sb rfl,hm.pk [0,1,3,4,5,2] rfl rfl⟩))
        exact gO rfl (gO rfl (gKf rfl (gE (gZ λa hf=>⟨a8,hf.sb rfl,hm.pk [0,2,3,4,5,1] rfl rfl⟩))))
       repeat clear hm
       rintro aS a w ⟨aM,hf,hm⟩
       refine gv hf (gJg (λac a w=>∃ (aU aV:Value),St 82 [(2,(pV aB)),(4,(pV aC))] w0 hz [blk aB [nV 0,(tV (mkS [])),.slice none 0 0,.slice none 0 0,.slice none 0 0] 61,blk aC [nV aA.2.2.1,(tV aA.2.2.2),aH,aT,aU] 61,ow [aH] aG.2.2,ow [aT] bF.1,ow [aU] ac.1,blk bp0 [aV,(.bool (ac.2.2))] 54,ow [aV] ac.2.1] a w) (λac=>?_) ?_)
       ·refine gs 77 rfl (λcH=>?_) λcH=>?_
        ·refine gct rfl (gR (gM rfl ?_))
         obtain ⟨cI,hle,hm1,hsub,cJ⟩:=hm.take2 (L1:=[_,_]) (L2:=[_,_,_,_]) [0,1] [2,3,4,5] (by decide) rfl rfl
         refine gCg rfl call64 (pimpl_wordReader__block_rec _ cI (⟨aS.1,aS.2.1⟩:kM) bp0 aM hm1 (GT.mono hle hG1) (GT.mono hle hG2)) ?_
         rintro ce cf cK w ⟨_,cL,rfl,hB⟩
         replace hm:=cJ _ _ hB;clear hB
         exact gF qJ rfl (gS1 hm 4 sizeOf43 (ki (hm.ow_rep 1 rfl)) rfl λw hm=>gE (gZ λa hf=>⟨cK,cL,hf.sb rfl,hm.pk [3,4,5,6,1,0,2] rfl rfl⟩))
        refine gcf rfl (gSk ?_)
        replace hm:=hm.nilow (α:=kN)
        exact gZ λa hf=>⟨.slice none 0 0,aM,hf.sb rfl,hm.pk [3,4,5,6,0,1,2] rfl rfl⟩
       repeat clear hm
       rintro ac a w ⟨aU,aV,hf,hm⟩
       exact gv hf (gZ λa hf=>⟨aT,aU,aV,hf.sb rfl,hm.pk [0,1,2,3,4,5,6] rfl rfl⟩)
      refine gcf rfl (gR (gM rfl ?_))
      obtain ⟨cN,hle,hm1,hsub,cO⟩:=hm.take2 (L1:=[_,_]) (L2:=[_,_,_]) [0,1] [2,3,4] (by decide) rfl rfl
      refine gCg rfl call61 (lX _ cN (⟨aG.1,aG.2.1⟩:kM) bp0 aR 3 (mkS [59]) hm1 ) ?_
      rintro cg cj ck w ⟨cP,rfl,hB⟩
      replace hm:=cO _ _ hB;clear hB
      refine gE ?_
      replace hm:=hm.nilow (α:=kN)
      replace hm:=hm.nilow (α:=kN)
      exact gZ λa hf=>⟨.slice none 0 0,.slice none 0 0,cP,hf.sb rfl,hm.pk [4,5,6,1,0,2,3] rfl rfl⟩
     repeat clear hm
     rintro aY a w ⟨an,ao,aq,hf,hm⟩
     exact gv hf (gZ λa hf=>⟨an,ao,aq,hf.sb rfl,hm.pk [0,1,2,3,4,5,6] rfl rfl⟩)
    repeat clear hm
    rintro aX a w ⟨aj,ak,al,hf,hm⟩
    exact gv hf (gS (gR (gY (yn (hm.blk_at 1 rfl) isAgg61 sizeOf61 rfl) (gSN hm 0 sizeOf61 (kL rfl (kL rfl (kL (ki (hm.ow_rep 2 rfl)) (kL (ki (hm.ow_rep 3 rfl)) (kL (ki (hm.ow_rep 4 rfl)) ke))))) rfl λw hm=>gE (gRt (grc 0 results102 hm rfl isAgg61 sizeOf61 ⟨aH,aj,ak,al,rfl,hm.pk [5,2,3,4,6] rfl rfl⟩))))))
theorem sW (w0:World) (hz:kX) (r_:kM) (bp0:Nat) (v1p:Value) (hm0:Mem w0 hz w0 [blk bp0 [v1p,(.bool (r_.bad))] 54,ow [v1p] r_.list]) (hG1:GT.rep hz [.slice (some ⟨1,0,none⟩) 1 1] [kO]) (hG2:GT.rep hz [.slice (some ⟨2,0,none⟩) 1 1] [kz]) (r:(List kN) × kM) (hq:kx r_=some r):Con Tryz.prog 64 [(pV bp0)] w0 (λv w'=>∃ (x1:Value) (x2:Value),v=x1∧Mem w0 hz w' [blk bp0 [x2,(.bool (r.2.bad))] 54,ow [x1] r.1,ow [x2] r.2.list]):=(sL ).1 r_ r hq w0 hz bp0 v1p hm0 hG1 hG2
theorem td (w0:World) (hz:kX) (r_:kM) (bp0:Nat) (v1p:Value) (hm0:Mem w0 hz w0 [blk bp0 [v1p,(.bool (r_.bad))] 54,ow [v1p] r_.list]) (hG1:GT.rep hz [.slice (some ⟨1,0,none⟩) 1 1] [kO]) (hG2:GT.rep hz [.slice (some ⟨2,0,none⟩) 1 1] [kz]) :
    mE Tryz.prog 26 [(pV bp0)] w0 (mB r_) λr v w'=>∃ (x1:Value) (x2:Value) (x3:Value),v=(.agg #[(tV r.1.name),x1,x2])∧Mem w0 hz w' [blk bp0 [x3,(.bool (r.2.bad))] 54,ow [x1] r.1.params,ow [x2] r.1.body,ow [x3] r.2.list]:=by
  unfold mB
  refine mR func26 rfl λr=>?_
  have hm:=hm0
  refine gS (gR (gAl hm zeroValue45 rfl λaB w hm=>gE (gS (gR (gM rfl ?_)))))
  obtain ⟨aQ,hle,hm1,hsub,aR⟩:=hm.take2 (L1:=[_,_]) (L2:=[_]) [1,2] [0] (by decide) rfl rfl
  refine gCg rfl call61 (lX _ aQ r_ bp0 v1p 4 (mkS [102,110]) hm1 ) ?_
  rintro aS bD bE w ⟨aT,rfl,hB⟩
  replace hm:=aR _ _ hB;clear hB
  refine gE (gS (gR (gM rfl ?_)))
  obtain ⟨aU,hle,hm1,hsub,aV⟩:=hm.take2 (L1:=[_,_]) (L2:=[_]) [0,1] [2] (by decide) rfl rfl
  refine gCg rfl call62 (pA _ aU aS bp0 aT hm1 ) ?_
  rintro aD bF bG w ⟨aX,rfl,hB⟩
  replace hm:=aV _ _ hB;clear hB
  refine gY (yG rfl (kr (vs:=[(0,(tV aD.1))]) (cs:=#[(tV aD.1),.slice none 0 0,.slice none 0 0]) rfl rfl (by kernel_rfl))) (gAl hm zeroValue45 rfl λaC w hm=>gSN hm 0 sizeOf45 (kL rfl (kL rfl (kL rfl ke))) rfl λw hm=>gE (gS (gR (gM rfl ?_))))
  obtain ⟨aY,hle,hm1,hsub,aZ⟩:=hm.take2 (L1:=[_,_]) (L2:=[_,_]) [1,2] [0,3] (by decide) rfl rfl
  refine gCg rfl call61 (lX _ aY aD.2 bp0 aX 3 (mkS [40]) hm1 ) ?_
  rintro a8 bH bJ w ⟨bK,rfl,hB⟩
  replace hm:=aZ _ _ hB;clear hB
  refine gE (gS ?_)
  obtain ⟨aa,ab,rfl,bL⟩:=kT (hm.ow_rep 1 rfl)
  refine gJg (λaE a w=>∃ (aK aL:Value),St 38 [(0,(pV bp0)),(2,(pV aB)),(3,(pV aC))] w0 hz [blk bp0 [aK,(.bool (aE.2.1))] 54,ow [aK] aE.1,blk aB [(tV (mkS [])),.slice none 0 0,.slice none 0 0] 45,blk aC [(tV aD.1),aL,.slice none 0 0] 45,ow [aL] aE.2.2] a w) (λaE=>?_) ?_
  ·refine gBk ?_
   replace hm:=hm.nilow (α:=Str)
   refine gMg (λaA a w=>∃ (aJ aG:Value),St 38 [(0,(pV bp0)),(2,(pV aB)),(3,(pV aC))] w0 hz [blk bp0 [aJ,(.bool (aA.2.1))] 54,ow [aJ] aA.1,blk aB [(tV (mkS [])),.slice none 0 0,.slice none 0 0] 45,blk aC [(tV aD.1),aG,.slice none 0 0] 45,ow [aG] aA.2.2] a w) (λa hf=>⟨.slice aa a8.list.length ab,.slice none 0 0,hf.sb rfl,hm.pk [1,2,4,3,0] rfl rfl⟩) ?_
   repeat clear hm
   rintro bM ac aA a w ⟨aJ,aG,hf,hm⟩ bN ae
   refine gv hf (gS (gS (gJg (λaF a w=>∃ (aH:Value),St 38 [(0,(pV bp0)),(2,(pV aB)),(3,(pV aC)),(20,(.bool (aF.2.2)))] w0 hz [blk bp0 [aH,(.bool (aF.2.1))] 54,ow [aH] aF.1,blk aB [(tV (mkS [])),.slice none 0 0,.slice none 0 0] 45,blk aC [(tV aD.1),aG,.slice none 0 0] 45,ow [aG] aA.2.2] a w) (λaF=>?_) ?_)))
   ·refine gR (gM rfl (gY (yG rfl (kj rfl rfl)) (gF qt rfl (gL hm 0 isAgg4 rfl (gN rfl (gM rfl (gsn 16 rfl (λaf=>?_) λaf=>?_)))))))
    ·refine gM rfl ?_
     obtain ⟨ag,hle,hm1,hsub,ah⟩:=hm.take2 (L1:=[_,_]) (L2:=[_,_,_]) [0,1] [2,3,4] (by decide) rfl rfl
     refine gCg rfl call63 (mV _ ag (⟨aA.1,aA.2.1⟩:kM) bp0 aJ 3 (mkS [41]) hm1 ) ?_
     rintro bO bP bQ w ⟨ai,rfl,hB⟩
     replace hm:=ah _ _ hB;clear hB
     exact gN rfl (gKt rfl (gE (gZ λa hf=>⟨ai,hf.sb rfl,hm.pk [0,1,2,3,4] rfl rfl⟩)))
    exact gO rfl (gO rfl (gO rfl (gKf rfl (gE (gZ λa hf=>⟨aJ,hf.sb rfl,hm.pk [0,1,2,3,4] rfl rfl⟩)))))
   repeat clear hm
   rintro aF a w ⟨aH,hf,hm⟩
   refine gv hf (gs 20 rfl (λaj=>?_) λaj=>?_)
   ·refine gct rfl (gSk (gBk (gS (gS (gR (gF o6 rfl (gL hm 3 isAgg42 rfl ?_)))))))
    obtain ⟨aM,aN,rfl,bR⟩:=kT (hm.ow_rep 4 rfl)
    refine gY (yV oG rfl) (gB rfl (gE (gJg (λaI a w=>∃ (aO:Value),St 38 [(0,(pV bp0)),(2,(pV aB)),(3,(pV aC))] w0 hz [blk bp0 [aO,(.bool (aI.2))] 54,ow [aO] aI.1,blk aB [(tV (mkS [])),.slice none 0 0,.slice none 0 0] 45,blk aC [(tV aD.1),.slice aM aA.2.2.length aN,.slice none 0 0] 45,ow [.slice aM aA.2.2.length aN] aA.2.2] a w) (λaI=>?_) ?_)))
    ·refine gsd 24 rfl (λak=>?_) λak=>?_
     ·refine gct rfl (gR (gM rfl ?_))
      obtain ⟨al,hle,hm1,hsub,am⟩:=hm.take2 (L1:=[_,_]) (L2:=[_,_,_]) [0,1] [2,3,4] (by decide) rfl rfl
      refine gCg rfl call61 (lX _ al (⟨aF.1,aF.2.1⟩:kM) bp0 aH 3 (mkS [44]) hm1 ) ?_
      rintro bS bT bU w ⟨an,rfl,hB⟩
      replace hm:=am _ _ hB;clear hB
      exact gE (gZ λa hf=>⟨an,hf.sb rfl,hm.pk [0,1,2,3,4] rfl rfl⟩)
     exact gcf rfl (gSk (gZ λa hf=>⟨aH,hf.sb rfl,hm.pk [0,1,2,3,4] rfl rfl⟩))
    repeat clear hm
    rintro aI a w ⟨aO,hf,hm⟩
    refine gv hf (gW (.p 0 (.p 2 (.q 1 (.e 3 (.e 4 (.e 5 (.p 6 (.e 7 .fin .nil)) .nil) .nil) .nil)))) [3,4] [0,2,6] hm [2,3,4] [blk aB [(tV (mkS [])),.slice none 0 0,.slice none 0 0] 45,blk aC [(tV aD.1),.slice aM aA.2.2.length aN,.slice none 0 0] 45,ow [.slice aM aA.2.2.length aN] aA.2.2] rfl mxo (by kernel_rfl) (λ_ _ _ h=>h.2) λw hm hS=>tP rfl (λw=>yF o6 rfl) (tP rfl (λw=>yM rfl) (tQ rfl hS (λw hm=>yL hm 1 isAgg42 rfl) (tO (gb λaP ao=>?_)))))
    obtain ⟨aq,hle,hm1,hsub,ar⟩:=hm.take2 (L1:=[_,_]) (L2:=[_,_,_]) [0,1] [2,3,4] (by decide) rfl rfl
    refine tf rfl rfl (λa hf=>lK hf rfl call62 rfl (pA _ aq (⟨aI.1,aI.2⟩:kM) bp0 aO hm1  _ ao)) ?_
    rintro bV w ⟨au,rfl,hB⟩
    replace hm:=ar _ _ hB;clear hB
    refine tAk hm [2,3,4] rfl λhS=>tO (tf rfl rfl (λa hf=>kS (vs:=#[(0,(tV aP.1))]) (cs:=[(tV aP.1)]) ox hf hm rfl rfl (by kernel_rfl) rfl rfl) ?_)
    rintro _ w ⟨bW,rfl,hm⟩
    replace hm:=hm.lit (xs:=([aP.1]:List Str)) 0 rfl rfl rfl rfl
    refine tAk hm [3,4,5] rfl λhS=>tO (gb λbX av=>?_)
    obtain ⟨aw,ax⟩:=kb.1 av
    refine tf rfl rfl (λa hf=>lr 5 ox hf hm rfl (hm.ow_rep 0 rfl) rfl rfl rfl aw) ?_
    rintro ay w hm
    rw [ax] at hm
    refine tAn rfl (tP rfl (λw=>yF o6 rfl) (tO (tf0 rfl rfl (λa hf=>nP 4 hf hm rfl sizeOf42 rfl rfl rfl (ki (hm.ow_rep 5 rfl)) rfl) ?_)))
    rintro _ w hm
    exact tAn rfl (tE (gZe λa hf=>⟨au,ay,hf.sb rfl,hm.pk [1,2,3,4,5] rfl rfl⟩))
   exact gcf rfl (gXt (gHh (gLp ae ac (gZ λa hf=>⟨aH,aG,hf.sb rfl,hm.pk [0,1,2,3,4] rfl rfl⟩))))
  repeat clear hm
  rintro aE a w ⟨aK,aL,hf,hm⟩
  refine gv hf (gS (gR (gM rfl ?_)))
  obtain ⟨az,hle,hm1,hsub,bA⟩:=hm.take2 (L1:=[_,_]) (L2:=[_,_,_]) [0,1] [2,3,4] (by decide) rfl rfl
  refine gCg rfl call64 (sW _ az (⟨aE.1,aE.2.1⟩:kM) bp0 aK hm1 (GT.mono hle hG1) (GT.mono hle hG2)) ?_
  rintro bY bZ bB w ⟨_,bC,rfl,hB⟩
  replace hm:=bA _ _ hB;clear hB
  exact gF oE rfl (gS1 hm 4 sizeOf43 (ki (hm.ow_rep 1 rfl)) rfl λw hm=>gE (gS (gR (gY (yn (hm.blk_at 4 rfl) isAgg45 sizeOf45 rfl) (gSN hm 3 sizeOf45 (kL rfl (kL (ki (hm.ow_rep 5 rfl)) (kL (ki (hm.ow_rep 1 rfl)) ke))) rfl λw hm=>gE (gRt (grc 3 results26 hm rfl isAgg45 sizeOf45 ⟨aL,bB,bC,rfl,hm.pk [0,5,1,2] rfl rfl⟩)))))))
theorem wM (w0:World) (s_:Str) (hG0:GT.rep (hp w0) [.slice (some ⟨0,0,none⟩) 9 9] k7) (hG1:GT.rep (hp w0) [.slice (some ⟨1,0,none⟩) 1 1] [kO]) (hG2:GT.rep (hp w0) [.slice (some ⟨2,0,none⟩) 1 1] [kz]) :
    mE Tryz.prog 8 [(tV s_)] w0 (me s_) λr v w'=>∃ (x1:Value),v=(.tuple #[(.agg #[x1]),(.bool (r.2))])∧Mem w0 (hp w0) w' [ow [x1] r.1.fns]:=by
  unfold me
  refine mR func8 rfl λr=>?_
  have hm:=Mem.start w0
  refine gS (gR (gAl hm zeroValue25 rfl λaB w hm=>gA rfl (gE (gS (gR (gM rfl (gCg rfl call15 (tJ _ s_ (hm.now hG0)) ?_)))))))
  rintro aI ag ah w ⟨ai,rfl,hB⟩
  replace hm:=hm.give hB;clear hB
  refine gM rfl (gX rfl (gX rfl (gA rfl (gA rfl (gE (gS (gR (gM rfl (gM rfl (gN rfl ?_))))))))))
  obtain ⟨aM,aN,rfl,aj⟩:=kT (hm.ow_rep 0 rfl)
  refine gY (yG rfl (kr (vs:=[(0,(.slice aM aI.1.length aN)),(1,(.bool (!(aI.2))))]) (cs:=#[.slice aM aI.1.length aN,(.bool (!(aI.2)))]) rfl rfl (by kernel_rfl))) (gBx hm rfl λaE w hm=>gA rfl (gE (gS (gR (gAl hm zeroValue25 rfl λaC w hm=>gE (gS (gJg (λaF a w=>∃ (aO aG:Value),St 49 [(2,(pV aB)),(6,(pV aE)),(7,(pV aC))] w0 (hp w0) [blk aB [.slice none 0 0] 25,blk aE [aO,(.bool (aF.2.1))] 54,ow [aO] aF.1,blk aC [aG] 25,ow [aG] aF.2.2] a w) (λaF=>?_) ?_)))))))
  ·refine gBk ?_
   replace hm:=hm.nilow (α:=Fn_)
   refine gMg (λaA a w=>∃ (aH aD:Value),St 49 [(2,(pV aB)),(6,(pV aE)),(7,(pV aC))] w0 (hp w0) [blk aB [.slice none 0 0] 25,blk aE [aH,(.bool (aA.2.1))] 54,ow [aH] aA.1,blk aC [aD] 25,ow [aD] aA.2.2] a w) (λa hf=>⟨.slice aM aI.1.length aN,.slice none 0 0,hf.sb rfl,hm.pk [4,2,3,1,0] rfl rfl⟩) ?_
   repeat clear hm
   rintro ak aR aA a w ⟨aH,aD,hf,hm⟩ al aS
   refine gv hf (gS (gS (gJ hm (λaJ=>[(2,(pV aB)),(6,(pV aE)),(7,(pV aC)),(30,(.bool (aJ)))]) (λaJ=>[blk aB [.slice none 0 0] 25,blk aE [aH,(.bool (aA.2.1))] 54,ow [aH] aA.1,blk aC [aD] 25,ow [aD] aA.2.2]) (λaJ=>?_) ?_)))
   ·refine gR (gM rfl (gY (yG rfl (kj rfl rfl)) (gF qt rfl (gL hm 1 isAgg4 rfl (gN rfl (gM rfl (gsn 23 rfl (λaT=>?_) λaT=>?_)))))))
    ·refine gM rfl (gY (yG rfl (kj rfl rfl)) (gF sM rfl (gL hm 1 isAgg36 rfl ?_)))
     obtain ⟨am,an,rfl,ao⟩:=kT (hm.ow_rep 2 rfl)
     exact gY (yV rU rfl) (gB rfl (gKt rfl (gE (gz hm [0,1,2,3,4] rfl))))
    exact gO rfl (gO rfl (gO rfl (gO rfl (gO rfl (gO rfl (gKf rfl (gE (gz hm [0,1,2,3,4] rfl))))))))
   repeat clear hm
   intro aJ w hm
   refine gs 30 rfl (λaU=>?_) λaU=>?_
   ·refine gct rfl (gSk (gBk (gW (.p 0 (.p 2 (.q 1 (.e 3 (.e 4 (.e 5 (.p 6 (.e 7 .fin .nil)) .nil) .nil) .nil)))) [3, 4] [0, 2, 6] hm [0, 3, 4] [blk aB [.slice none 0 0] 25, blk aC [aD] 25, ow [aD] aA.2.2] rfl mxo (by kernel_rfl) (fun _ _ _ h => h.2) fun w hm hS => tP rfl (fun w => yF nu rfl) (tP rfl (fun w => yM rfl) (tQ rfl hS (fun w hm => yL hm 1 isAgg23 rfl) (tO (gb fun aK aV => ?_)))))))
    obtain ⟨aX,hle,hm1,hsub,aY⟩:=hm.take2 (L1:=[_,_]) (L2:=[_,_,_]) [1,2] [0,3,4] (by decide) rfl rfl
    refine tf rfl rfl (λa hf=>lK hf rfl call26 rfl (td _ aX (⟨aA.1,aA.2.1⟩:kM) aE aH hm1 (GT.mono hle hG1) (GT.mono hle hG2) _ aV)) ?_
    rintro aq w ⟨aP,aQ,aZ,rfl,hB⟩
    replace hm:=aY _ _ hB;clear hB
    refine tAk hm [4,5,6] rfl λhS=>tO (tf rfl rfl (λa hf=>kS (vs:=#[(0,(.agg #[(tV aK.1.name),aP,aQ]))]) (cs:=[(tV aK.1.name),aP,aQ]) mn hf hm rfl rfl (by kernel_rfl) rfl rfl) ?_)
    rintro _ w ⟨ar,rfl,hm⟩
    replace hm:=hm.els_nil (α:=Fn_)
    replace hm:=(rY aK.1.name hm 3 4 rfl).pk (L':=[_,_,_,_,_,_,_,_]) [0,1,2,3,5,6,7,8] rfl rfl
    replace hm:=(hm.els_cons 0 3 (by decide) rfl rfl).pk (L':=[_,_,_,_,_,_,_]) [0,1,2,4,5,6,7] rfl rfl
    replace hm:=(hm.lit_els 1 0 (by decide) rfl rfl rfl rfl).pk (L':=[_,_,_,_,_,_]) [1,2,3,4,5,6] rfl rfl
    refine tAk hm [3,4,5] rfl λhS=>tO (gb λau a8=>?_)
    obtain ⟨aa,ab⟩:=kb.1 a8
    replace hm:=(hm.both 5 0 (by decide) rfl rfl).pk (L':=[_,_,_,_,_]) [1,2,3,4,5] rfl rfl
    refine tf rfl rfl (λa hf=>lp (xs:=aA.2.2) (ys:=([aK.1]:List Fn_)) 4 mn hf hm rfl rfl rfl rfl aa) ?_
    rintro ac w hm
    rw [ab] at hm
    refine tAn rfl (tP rfl (λw=>yF nu rfl) (tO (tf0 rfl rfl (λa hf=>nP 3 hf hm rfl sizeOf23 rfl rfl rfl (ki (hm.ow_rep 4 rfl)) rfl) ?_)))
    rintro _ w hm
    exact tAn rfl (tE (gZe λa hf=>⟨aZ,ac,hf.sb rfl,hm.pk [2,0,1,3,4] rfl rfl⟩))
   exact gcf rfl (gXt (gHh (gLp aS aR (gZ λa hf=>⟨aH,aD,hf.sb rfl,hm.pk [0,1,2,3,4] rfl rfl⟩))))
  repeat clear hm
  rintro aF a w ⟨aO,aG,hf,hm⟩
  refine gv hf (gS (gS (gJ hm (λaL=>[(2,(pV aB)),(7,(pV aC)),(46,(.bool (aL)))]) (λaL=>[blk aB [.slice none 0 0] 25,blk aC [aG] 25,ow [aG] aF.2.2]) (λaL=>?_) ?_)))
  ·refine gR (gM rfl (gY (yG rfl (kj rfl rfl)) (gF qt rfl (gL hm 1 isAgg4 rfl (gM rfl (gs 42 rfl (λae=>?_) λae=>?_))))))
   ·exact gO rfl (gO rfl (gO rfl (gKt rfl (gE (gz hm [0,3,4] rfl)))))
   exact gY (yn (hm.blk_at 3 rfl) isAgg25 sizeOf25 rfl) (gC hm rfl call11 (qZ _ (⟨aF.2.2⟩:kp) aG (hm.ow_rep 4 rfl) (hm.now hG0) (hm.now hG1)) λav aw w hm=>gN rfl (gKf rfl (gE (gz hm [0,3,4] rfl))))
  repeat clear hm
  intro aL w hm
  refine gs 46 rfl (λaf=>?_) λaf=>?_
  ·refine gct rfl (gS (gR (gY (yG rfl (kr (vs := []) (cs := #[.slice none 0 0]) rfl rfl (by kernel_rfl))) (gSN hm 0 sizeOf25 (kL rfl ke) rfl fun w hm => gA rfl (gE (gRt ?_))))))
   replace hm:=hm.nilow (α:=Fn_)
   exact cb6 1 results8 hm rfl isAgg25 sizeOf25 ⟨.slice none 0 0,rfl,hm.pk [0] rfl rfl⟩
  exact gcf rfl (gSk (gS (gR (gY (yn (hm.blk_at 1 rfl) isAgg25 sizeOf25 rfl) (gSN hm 0 sizeOf25 (kL (ki (hm.ow_rep 2 rfl)) ke) rfl λw hm=>gA rfl (gE (gRt (cb6 0 results8 hm rfl isAgg25 sizeOf25 ⟨aG,rfl,hm.pk [2] rfl rfl⟩))))))))
theorem xM (w0:World) (s_:Str) (hG0:GT.rep (hp w0) [.slice (some ⟨0,0,none⟩) 9 9] k7) :
    mE Tryz.prog 9 [(tV s_)] w0 (qX s_) λr v w'=>v=(.tuple #[(tV r.1),(.bool (r.2))])∧Below w0.heap.size w0 w':=by
  unfold qX
  refine mR func9 rfl λr=>?_
  have hm:=Mem.start w0
  refine gS (gR (gA rfl (gA rfl (gE (gS (gR (gM rfl (gCg rfl call15 (tJ _ s_ (hm.now hG0)) ?_))))))))
  rintro aA aD aE w ⟨aB,rfl,hB⟩
  replace hm:=hm.give hB;clear hB
  refine gM rfl (gX rfl (gX rfl (gA rfl (gA rfl (gE (gS (gS (gR (gM rfl (gN rfl (gE (gsn 12 rfl (λaC=>?_) λaC=>?_))))))))))))
  ·exact gct rfl (gS (gR (gA rfl (gA rfl (gE (gRt (gr2 results9 rfl ⟨rfl,hm.below⟩)))))))
  exact gcf rfl (gSk (gS (gR (gM rfl (gC hm rfl call22 (ss _ aA.1 aB (hm.ow_rep 0 rfl) (hm.now hG0)) λaF aG w hm=>gX rfl (gX rfl (gA rfl (gA rfl (gE (gRt (gr2 results9 rfl ⟨rfl,hm.below⟩)))))))))))
theorem oN (w0:World) (s1:List Fn_) (v1:Value) (h1:GT.rep (hp w0) [v1] s1) (s2:List Fn_) (v2:Value) (h2:GT.rep (hp w0) [v2] s2) (eq:Fn_→Fn_→Option Bool) (fv1:Value) (hfn1:∀ (w:World) (y0:Fn_) (z1:Value) (_:GT.rep (hp w) [z1] y0.params) (z2:Value) (_:GT.rep (hp w) [z2] y0.body) (y1:Fn_) (z3:Value) (_:GT.rep (hp w) [z3] y1.params) (z4:Value) (_:GT.rep (hp w) [z4] y1.body) (r:Bool),Below w0.heap.size w0 w→eq y0 y1=some r→yR Tryz.prog fv1 [(.agg #[(tV y0.name),z1,z2]),(.agg #[(tV y1.name),z3,z4])] w (λv w'=>v=(.bool (r))∧Below w.heap.size w w')) :
    mE Tryz.prog 27 [v1,v2,fv1] w0 (lZ s1 s2 eq) λr v w'=>v=(.bool (r))∧Below w0.heap.size w0 w':=by
  unfold lZ
  refine mR func27 rfl λr=>?_
  have hm:=Mem.start w0
  refine gS (gR (gA rfl (gE (gS (gS (gR (gM rfl ?_)))))))
  obtain ⟨aI,aJ,rfl,ab⟩:=kT h1
  refine gY (yV nz rfl) (gM rfl ?_)
  obtain ⟨aK,aL,rfl,ac⟩:=kT h2
  refine gY (yV nz rfl) (gB rfl (gE (gsd 14 rfl (λaM=>?_) λaM=>?_)))
  ·exact gct rfl (gS (gR (gA rfl (gE (gRt (gr1 results27 rfl ⟨rfl,hm.below⟩))))))
  refine gcf rfl (gSk (gS (gS (gR (gM rfl (gY (yV nz rfl) (gM rfl (gE (gBk (gNf hm (λaA aD=>[(1,(.slice aK s2.length aL)),(2,fv1),(15,(.slice aI s1.length aJ)),(16,(nV ((s1.length:Int)))),(17,(nV aA))]) (λaA aD=>[]) [] rfl ?_ ?_))))))))))
  ·repeat clear hm
   intro ae aN aA aD w hm af ag ah aO
   refine gS (gR (gB rfl (gE (gS (go _ 18 rfl (decide_eq_true (by omega)) (gct rfl (gSk (gS (gBk (gS (gR (gM rfl (gg λaP aQ aB=>?_)))))))))))))
   obtain ⟨ai,aj,ak,he⟩:=lU h1 aB
   obtain ⟨rfl,_,rfl⟩:=sl3 he
   obtain ⟨aR,aS,aT,aE,aF⟩:=sH h1 aB
   refine gI nz aQ (lO aB) rfl (gY (yn (aT.mono hm.lez) isAgg45 sizeOf45 rfl) (gAl hm zeroValue45 rfl λal w hm=>gA rfl (gSN hm 0 sizeOf45 (kL rfl (kL (ki aE) (kL (ki aF) ke))) rfl λw hm=>gE (gS (gR (gM rfl (gM rfl (gg λaU aV aC=>?_))))))))
   obtain ⟨am,an,ao,he⟩:=lU h2 aC
   obtain ⟨rfl,_,rfl⟩:=sl3 he
   obtain ⟨aX,aY,aZ,aG,aH⟩:=sH h2 aC
   refine gI nz aV (lO aC) rfl (gY (yn (aZ.mono hm.lez) isAgg45 sizeOf45 rfl) (gAl hm zeroValue45 rfl λaq w hm=>gSN hm 0 sizeOf45 (kL rfl (kL (ki aG) (kL (ki aH) ke))) rfl λw hm=>gE (gS (gR (gM rfl (gY (yn (hm.blk_at 1 rfl) isAgg45 sizeOf45 rfl) (gY (yn (hm.blk_at 0 rfl) isAgg45 sizeOf45 rfl) (gb λar a8=>gf rfl (λa hf=>tn hf rfl rfl rfl (hfn1 _ aP aR (hm.now aE) aS (hm.now aF) aU aX (hm.now aG) aY (hm.now aH) _ hm.below a8)) ?_))))))))
   rintro au w ⟨rfl,hB⟩
   replace hm:=hm.below' hB;clear hB
   refine gN rfl (gE (gsn 30 rfl (λaa=>?_) λaa=>?_))
   ·exact gct rfl (gS (gR (gA rfl (gE (gRt (gLr aO aN (gr1 results27 rfl ⟨rfl,hm.below⟩)))))))
   exact gcf rfl (gSk (gR (gP (by omega) (by omega) rfl (gM rfl (gE (gze hm [] rfl))))))
  repeat clear hm
  intro av aw w hm ax ay
  exact gS (gR (gB rfl (gE (gS (go _ 18 rfl (decide_eq_false (by omega)) (gcf rfl (gXt (gHh (gS (gR (gA rfl (gE (gRt (gr1 results27 rfl ⟨rfl,hm.below⟩))))))))))))))
theorem rS (w0:World) (s1:List Str) (v1:Value) (h1:GT.rep (hp w0) [v1] s1) (s2:List Str) (v2:Value) (h2:GT.rep (hp w0) [v2] s2) :
    mE Tryz.prog 29 [v1,v2] w0 (nR s1 s2) λr v w'=>v=(.bool (r))∧Below w0.heap.size w0 w':=by
  unfold nR
  refine mR func29 rfl λr=>?_
  have hm:=Mem.start w0
  refine gS (gR (gA rfl (gE (gS (gS (gR (gM rfl ?_)))))))
  obtain ⟨aG,aH,rfl,aQ⟩:=kT h1
  refine gY (yV oG rfl) (gM rfl ?_)
  obtain ⟨aI,aJ,rfl,aR⟩:=kT h2
  refine gY (yV oG rfl) (gB rfl (gE (gsd 10 rfl (λaK=>?_) λaK=>?_)))
  ·exact gct rfl (gS (gR (gA rfl (gE (gRt (gr1 results29 rfl ⟨rfl,hm.below⟩))))))
  refine gcf rfl (gSk (gS (gS (gR (gM rfl (gY (yV oG rfl) (gM rfl (gE (gBk (gNf hm (λaA aD=>[(0,(.slice aG s1.length aH)),(1,(.slice aI s2.length aJ)),(12,(nV ((s1.length:Int)))),(13,(nV aA))]) (λaA aD=>[]) [] rfl ?_ ?_))))))))))
  ·repeat clear hm
   intro aS aL aA aD w hm aT aU aV aM
   refine gS (gR (gB rfl (gE (gS (go _ 14 rfl (decide_eq_true (by omega)) (gct rfl (gSk (gS (gBk (gS (gR (gM rfl (gA rfl (gE (gS (gW (.p 0 (.p 1 (.p 2 (.p 4 (.p 5 (.p 6 (.q 3 (.e 7 (.p 8 .fin) .nil)))))))) [7] [0,1,2,4,5,6,8] hm [] [] rfl mxo (by kernel_rfl) (λ_ _ _ h=>h.2) λw hm hS=>tP rfl (λw=>yM rfl) (tP rfl (λw=>yM rfl) (gg λaE aN aB=>?_))))))))))))))))))
   obtain ⟨aX,aY,aZ,he⟩:=nb h1 aB
   obtain ⟨rfl,_,rfl⟩:=sl3 he
   refine tP rfl (λw=>yI oG aN (lO aB) rfl) (tP rfl (λw=>yM rfl) (tP rfl (λw=>yM rfl) (gg λaF aO aC=>?_)))
   obtain ⟨a8,aa,ab,he⟩:=nb h2 aC
   obtain ⟨rfl,_,rfl⟩:=sl3 he
   refine tP rfl (λw=>yI oG aO (lO aC) rfl) (tQ rfl hS (λw hm=>yl isAgg9 ((lj (cs:=[(tV aE)]) (hm.now h1) aB rfl).cell (j:=0) rfl) rfl) (tO (tY rfl (yl isAgg9 ((lj (cs:=[(tV aF)]) (hm.now h2) aC rfl).cell (j:=0) rfl) rfl) (tAs hS (tP rfl (λw=>yG rfl (vp (p:=aE) (q:=aF) rfl rfl rfl)) (tE (gsd 24 rfl (λaP=>?_) λaP=>?_)))))))
   ·exact gct rfl (gS (gR (gA rfl (gE (gRt (gLr aM aL (gr1 results29 rfl ⟨rfl,hm.below⟩)))))))
   exact gcf rfl (gSk (gR (gP (by omega) (by omega) rfl (gM rfl (gE (gze hm [] rfl))))))
  repeat clear hm
  intro ac ae w hm af ag
  exact gS (gR (gB rfl (gE (gS (go _ 14 rfl (decide_eq_false (by omega)) (gcf rfl (gXt (gHh (gS (gR (gA rfl (gE (gRt (gr1 results29 rfl ⟨rfl,hm.below⟩))))))))))))))
theorem l0 (w0:World) (s1:List kN) (v1:Value) (h1:GT.rep (hp w0) [v1] s1) (s2:List kN) (v2:Value) (h2:GT.rep (hp w0) [v2] s2) (eq:kN→kN→Option Bool) (fv1:Value) (hfn1:∀ (w:World) (y0:kN) (z1:Value) (_:GT.rep (hp w) [z1] y0.args) (z2:Value) (_:GT.rep (hp w) [z2] y0.body) (z3:Value) (_:GT.rep (hp w) [z3] y0.else_) (y1:kN) (z4:Value) (_:GT.rep (hp w) [z4] y1.args) (z5:Value) (_:GT.rep (hp w) [z5] y1.body) (z6:Value) (_:GT.rep (hp w) [z6] y1.else_) (r:Bool),Below w0.heap.size w0 w→eq y0 y1=some r→yR Tryz.prog fv1 [(.agg #[nV y0.op,(tV y0.name),z1,z2,z3]),(.agg #[nV y1.op,(tV y1.name),z4,z5,z6])] w (λv w'=>v=(.bool (r))∧Below w.heap.size w w')) :
    mE Tryz.prog 30 [v1,v2,fv1] w0 (kd s1 s2 eq) λr v w'=>v=(.bool (r))∧Below w0.heap.size w0 w':=by
  unfold kd
  refine mR func30 rfl λr=>?_
  have hm:=Mem.start w0
  refine gS (gR (gA rfl (gE (gS (gS (gR (gM rfl ?_)))))))
  obtain ⟨aK,aL,rfl,ag⟩:=kT h1
  refine gY (yV pI rfl) (gM rfl ?_)
  obtain ⟨aM,aN,rfl,ah⟩:=kT h2
  refine gY (yV pI rfl) (gB rfl (gE (gsd 14 rfl (λaO=>?_) λaO=>?_)))
  ·exact gct rfl (gS (gR (gA rfl (gE (gRt (gr1 results30 rfl ⟨rfl,hm.below⟩))))))
  refine gcf rfl (gSk (gS (gS (gR (gM rfl (gY (yV pI rfl) (gM rfl (gE (gBk (gNf hm (λaA aD=>[(1,(.slice aM s2.length aN)),(2,fv1),(15,(.slice aK s1.length aL)),(16,(nV ((s1.length:Int)))),(17,(nV aA))]) (λaA aD=>[]) [] rfl ?_ ?_))))))))))
  ·repeat clear hm
   intro ai aP aA aD w hm aj ak al aQ
   refine gS (gR (gB rfl (gE (gS (go _ 18 rfl (decide_eq_true (by omega)) (gct rfl (gSk (gS (gBk (gS (gR (gM rfl (gg λaR aS aB=>?_)))))))))))))
   obtain ⟨am,an,ao,he⟩:=lU h1 aB
   obtain ⟨rfl,_,rfl⟩:=sl3 he
   obtain ⟨aT,aU,aV,aX,aE,aF,aG⟩:=rv h1 aB
   refine gI pI aS (lO aB) rfl (gY (yn (aX.mono hm.lez) isAgg61 sizeOf61 rfl) (gAl hm zeroValue61 rfl λaq w hm=>gA rfl (gSN hm 0 sizeOf61 (kL rfl (kL rfl (kL (ki aE) (kL (ki aF) (kL (ki aG) ke))))) rfl λw hm=>gE (gS (gR (gM rfl (gM rfl (gg λaY aZ aC=>?_))))))))
   obtain ⟨ar,au,av,he⟩:=lU h2 aC
   obtain ⟨rfl,_,rfl⟩:=sl3 he
   obtain ⟨a8,aa,ab,ac,aH,aI,aJ⟩:=rv h2 aC
   refine gI pI aZ (lO aC) rfl (gY (yn (ac.mono hm.lez) isAgg61 sizeOf61 rfl) (gAl hm zeroValue61 rfl λaw w hm=>gSN hm 0 sizeOf61 (kL rfl (kL rfl (kL (ki aH) (kL (ki aI) (kL (ki aJ) ke))))) rfl λw hm=>gE (gS (gR (gM rfl (gY (yn (hm.blk_at 1 rfl) isAgg61 sizeOf61 rfl) (gY (yn (hm.blk_at 0 rfl) isAgg61 sizeOf61 rfl) (gb λax ae=>gf rfl (λa hf=>tn hf rfl rfl rfl (hfn1 _ aR aT (hm.now aE) aU (hm.now aF) aV (hm.now aG) aY a8 (hm.now aH) aa (hm.now aI) ab (hm.now aJ) _ hm.below ae)) ?_))))))))
   rintro ay w ⟨rfl,hB⟩
   replace hm:=hm.below' hB;clear hB
   refine gN rfl (gE (gsn 30 rfl (λaf=>?_) λaf=>?_))
   ·exact gct rfl (gS (gR (gA rfl (gE (gRt (gLr aQ aP (gr1 results30 rfl ⟨rfl,hm.below⟩)))))))
   exact gcf rfl (gSk (gR (gP (by omega) (by omega) rfl (gM rfl (gE (gze hm [] rfl))))))
  repeat clear hm
  intro az bA w hm bB bC
  exact gS (gR (gB rfl (gE (gS (go _ 18 rfl (decide_eq_false (by omega)) (gcf rfl (gXt (gHh (gS (gR (gA rfl (gE (gRt (gr1 results30 rfl ⟨rfl,hm.below⟩))))))))))))))
theorem mF (w0:World) (s1:List kK) (v1:Value) (h1:GT.rep (hp w0) [v1] s1) (s2:List kK) (v2:Value) (h2:GT.rep (hp w0) [v2] s2) (eq:kK→kK→Option Bool) (fv1:Value) (hfn1:∀ (w:World) (y0:kK) (z1:Value) (_:GT.rep (hp w) [z1] y0.kids) (y1:kK) (z2:Value) (_:GT.rep (hp w) [z2] y1.kids) (r:Bool),Below w0.heap.size w0 w→eq y0 y1=some r→yR Tryz.prog fv1 [(.agg #[nV y0.op,nV y0.n_,(tV y0.name),z1]),(.agg #[nV y1.op,nV y1.n_,(tV y1.name),z2])] w (λv w'=>v=(.bool (r))∧Below w.heap.size w w')) :
    mE Tryz.prog 65 [v1,v2,fv1] w0 (kY s1 s2 eq) λr v w'=>v=(.bool (r))∧Below w0.heap.size w0 w':=by
  unfold kY
  refine mR func65 rfl λr=>?_
  have hm:=Mem.start w0
  refine gS (gR (gA rfl (gE (gS (gS (gR (gM rfl ?_)))))))
  obtain ⟨aG,aH,rfl,aY⟩:=kT h1
  refine gY (yV nL rfl) (gM rfl ?_)
  obtain ⟨aI,aJ,rfl,aZ⟩:=kT h2
  refine gY (yV nL rfl) (gB rfl (gE (gsd 14 rfl (λaK=>?_) λaK=>?_)))
  ·exact gct rfl (gS (gR (gA rfl (gE (gRt (gr1 results65 rfl ⟨rfl,hm.below⟩))))))
  refine gcf rfl (gSk (gS (gS (gR (gM rfl (gY (yV nL rfl) (gM rfl (gE (gBk (gNf hm (λaA aD=>[(1,(.slice aI s2.length aJ)),(2,fv1),(15,(.slice aG s1.length aH)),(16,(nV ((s1.length:Int)))),(17,(nV aA))]) (λaA aD=>[]) [] rfl ?_ ?_))))))))))
  ·repeat clear hm
   intro a8 aL aA aD w hm aa ab ac aM
   refine gS (gR (gB rfl (gE (gS (go _ 18 rfl (decide_eq_true (by omega)) (gct rfl (gSk (gS (gBk (gS (gR (gM rfl (gg λaN aO aB=>?_)))))))))))))
   obtain ⟨ae,af,ag,he⟩:=lU h1 aB
   obtain ⟨rfl,_,rfl⟩:=sl3 he
   obtain ⟨aP,aQ,aE⟩:=n0 h1 aB
   refine gI nL aO (lO aB) rfl (gY (yn (aQ.mono hm.lez) isAgg80 sizeOf80 rfl) (gAl hm zeroValue80 rfl λah w hm=>gA rfl (gSN hm 0 sizeOf80 (kL rfl (kL rfl (kL rfl (kL (ki aE) ke)))) rfl λw hm=>gE (gS (gR (gM rfl (gM rfl (gg λaR aS aC=>?_))))))))
   obtain ⟨ai,aj,ak,he⟩:=lU h2 aC
   obtain ⟨rfl,_,rfl⟩:=sl3 he
   obtain ⟨aT,aU,aF⟩:=n0 h2 aC
   refine gI nL aS (lO aC) rfl (gY (yn (aU.mono hm.lez) isAgg80 sizeOf80 rfl) (gAl hm zeroValue80 rfl λal w hm=>gSN hm 0 sizeOf80 (kL rfl (kL rfl (kL rfl (kL (ki aF) ke)))) rfl λw hm=>gE (gS (gR (gM rfl (gY (yn (hm.blk_at 1 rfl) isAgg80 sizeOf80 rfl) (gY (yn (hm.blk_at 0 rfl) isAgg80 sizeOf80 rfl) (gb λam aV=>gf rfl (λa hf=>tn hf rfl rfl rfl (hfn1 _ aN aP (hm.now aE) aR aT (hm.now aF) _ hm.below aV)) ?_))))))))
   rintro an w ⟨rfl,hB⟩
   replace hm:=hm.below' hB;clear hB
   refine gN rfl (gE (gsn 30 rfl (λaX=>?_) λaX=>?_))
   ·exact gct rfl (gS (gR (gA rfl (gE (gRt (gLr aM aL (gr1 results65 rfl ⟨rfl,hm.below⟩)))))))
   exact gcf rfl (gSk (gR (gP (by omega) (by omega) rfl (gM rfl (gE (gze hm [] rfl))))))
  repeat clear hm
  intro ao aq w hm ar au
  exact gS (gR (gB rfl (gE (gS (go _ 18 rfl (decide_eq_false (by omega)) (gcf rfl (gXt (gHh (gS (gR (gA rfl (gE (gRt (gr1 results65 rfl ⟨rfl,hm.below⟩))))))))))))))
theorem xU  : ∀ (a_:kK) (b_:kK) (r:Bool),nA a_ b_=some r→∀ (w0:World) (v1:Value) (h1:GT.rep (hp w0) [v1] a_.kids) (v2:Value) (h2:GT.rep (hp w0) [v2] b_.kids),Con Tryz.prog 66 [(.agg #[nV a_.op,nV a_.n_,(tV a_.name),v1]),(.agg #[nV b_.op,nV b_.n_,(tV b_.name),v2])] w0 (λv w'=>v=(.bool (r))∧Below w0.heap.size w0 w'):=by
  refine nA.partial_correctness  (motive:=λa_ b_ r=>∀ (w0:World) (v1:Value) (h1:GT.rep (hp w0) [v1] a_.kids) (v2:Value) (h2:GT.rep (hp w0) [v2] b_.kids),Con Tryz.prog 66 [(.agg #[nV a_.op,nV a_.n_,(tV a_.name),v1]),(.agg #[nV b_.op,nV b_.n_,(tV b_.name),v2])] w0 (λv w'=>v=(.bool (r))∧Below w0.heap.size w0 w')) ?_
  intro rec_ ih_ a_ b_ r hq w0 v1 h1 v2 h2
  have impl_SameExpr_rec:∀ (w0:World) (a_:kK) (v1:Value) (h1:GT.rep (hp w0) [v1] a_.kids) (b_:kK) (v2:Value) (h2:GT.rep (hp w0) [v2] b_.kids) (r:Bool) (hq:rec_ a_ b_=some r),Con Tryz.prog 66 [(.agg #[nV a_.op,nV a_.n_,(tV a_.name),v1]),(.agg #[nV b_.op,nV b_.n_,(tV b_.name),v2])] w0 (λv w'=>v=(.bool (r))∧Below w0.heap.size w0 w'):=λw0 a_ v1 h1 b_ v2 h2 r hq=>ih_ a_ b_ r hq w0 v1 h1 v2 h2
  refine pO (ρ:=Bool) (R:=λr v w'=>v=(.bool (r))∧Below w0.heap.size w0 w') func66 rfl hq ?_
  have hm:=Mem.start w0
  refine gS (gR (gBx hm rfl λaI w hm=>gBx hm rfl λaJ w hm=>gA rfl (gE (gS (gJ hm (λaA=>[(4,(.bool (aA)))]) (λaA=>[]) (λaA=>?_) ?_)))))
  ·refine gR (gF mP rfl (gL hm 1 isAgg3 rfl (gF mP rfl (gL hm 0 isAgg3 rfl (gB rfl (gM rfl (gsd 10 rfl (λaB=>?_) λaB=>?_)))))))
   ·refine gF qe rfl (gL hm 1 isAgg3 rfl (gF qe rfl (gL hm 0 isAgg3 rfl (gB rfl (gKt rfl (gM rfl (gsd 17 rfl (λaC=>?_) λaC=>?_)))))))
    ·refine gF q9 rfl (gL hm 1 isAgg9 rfl (gF q9 rfl (gL hm 0 isAgg9 rfl (gY (yG rfl (tG (p:=a_.name) (q:=b_.name) rfl rfl rfl)) (gKt rfl (gM rfl (gsd 24 rfl (λaD=>?_) λaD=>?_)))))))
     ·exact gF mJ rfl (gL hm 1 isAgg59 rfl (gF mJ rfl (gL hm 0 isAgg59 rfl (gC hm rfl call65 (mF _ a_.kids v1 (hm.now h1) b_.kids v2 (hm.now h2) (λy0 y1=>rec_ y0 y1) (.func (.func 66) #[] #[]) (λw y0 aE aF y1 aG aH r hB hq=>⟨66,[],rfl,call66,impl_SameExpr_rec w y0 aE aF y1 aG aH  r hq⟩)) λaK aL w hm=>gKt rfl (gA rfl (gE (gz hm [] rfl)))))))
     exact gO rfl (gO rfl (gO rfl (gO rfl (gO rfl (gKf rfl (gA rfl (gE (gz hm [] rfl))))))))
    exact gO rfl (gO rfl (gO rfl (gO rfl (gO rfl (gKf rfl (gM rfl (gO rfl (gO rfl (gO rfl (gO rfl (gO rfl (gKf rfl (gA rfl (gE (gz hm [] rfl)))))))))))))))
   exact gO rfl (gO rfl (gO rfl (gO rfl (gO rfl (gKf rfl (gM rfl (gO rfl (gO rfl (gO rfl (gO rfl (gO rfl (gKf rfl (gM rfl (gO rfl (gO rfl (gO rfl (gO rfl (gO rfl (gKf rfl (gA rfl (gE (gz hm [] rfl))))))))))))))))))))))
  repeat clear hm
  intro aA w hm
  exact gRt (gr1 results66 rfl ⟨rfl,hm.below⟩)
theorem xp (w0:World) (a_:kK) (v1:Value) (h1:GT.rep (hp w0) [v1] a_.kids) (b_:kK) (v2:Value) (h2:GT.rep (hp w0) [v2] b_.kids) (r:Bool) (hq:nA a_ b_=some r):Con Tryz.prog 66 [(.agg #[nV a_.op,nV a_.n_,(tV a_.name),v1]),(.agg #[nV b_.op,nV b_.n_,(tV b_.name),v2])] w0 (λv w'=>v=(.bool (r))∧Below w0.heap.size w0 w'):=xU a_ b_ r hq w0 v1 h1 v2 h2
theorem wh  : ∀ (a_:kN) (b_:kN) (r:Bool),np a_ b_=some r→∀ (w0:World) (v1:Value) (h1:GT.rep (hp w0) [v1] a_.args) (v2:Value) (h2:GT.rep (hp w0) [v2] a_.body) (v3:Value) (h3:GT.rep (hp w0) [v3] a_.else_) (v4:Value) (h4:GT.rep (hp w0) [v4] b_.args) (v5:Value) (h5:GT.rep (hp w0) [v5] b_.body) (v6:Value) (h6:GT.rep (hp w0) [v6] b_.else_),Con Tryz.prog 31 [(.agg #[nV a_.op,(tV a_.name),v1,v2,v3]),(.agg #[nV b_.op,(tV b_.name),v4,v5,v6])] w0 (λv w'=>v=(.bool (r))∧Below w0.heap.size w0 w'):=by
  refine np.partial_correctness  (motive:=λa_ b_ r=>∀ (w0:World) (v1:Value) (h1:GT.rep (hp w0) [v1] a_.args) (v2:Value) (h2:GT.rep (hp w0) [v2] a_.body) (v3:Value) (h3:GT.rep (hp w0) [v3] a_.else_) (v4:Value) (h4:GT.rep (hp w0) [v4] b_.args) (v5:Value) (h5:GT.rep (hp w0) [v5] b_.body) (v6:Value) (h6:GT.rep (hp w0) [v6] b_.else_),Con Tryz.prog 31 [(.agg #[nV a_.op,(tV a_.name),v1,v2,v3]),(.agg #[nV b_.op,(tV b_.name),v4,v5,v6])] w0 (λv w'=>v=(.bool (r))∧Below w0.heap.size w0 w')) ?_
  intro rec_ ih_ a_ b_ r hq w0 v1 h1 v2 h2 v3 h3 v4 h4 v5 h5 v6 h6
  have impl_sameStmt_rec:∀ (w0:World) (a_:kN) (v1:Value) (h1:GT.rep (hp w0) [v1] a_.args) (v2:Value) (h2:GT.rep (hp w0) [v2] a_.body) (v3:Value) (h3:GT.rep (hp w0) [v3] a_.else_) (b_:kN) (v4:Value) (h4:GT.rep (hp w0) [v4] b_.args) (v5:Value) (h5:GT.rep (hp w0) [v5] b_.body) (v6:Value) (h6:GT.rep (hp w0) [v6] b_.else_) (r:Bool) (hq:rec_ a_ b_=some r),Con Tryz.prog 31 [(.agg #[nV a_.op,(tV a_.name),v1,v2,v3]),(.agg #[nV b_.op,(tV b_.name),v4,v5,v6])] w0 (λv w'=>v=(.bool (r))∧Below w0.heap.size w0 w'):=λw0 a_ v1 h1 v2 h2 v3 h3 b_ v4 h4 v5 h5 v6 h6 r hq=>ih_ a_ b_ r hq w0 v1 h1 v2 h2 v3 h3 v4 h4 v5 h5 v6 h6
  refine pO (ρ:=Bool) (R:=λr v w'=>v=(.bool (r))∧Below w0.heap.size w0 w') func31 rfl hq ?_
  have hm:=Mem.start w0
  refine gS (gR (gBx hm rfl λaR w hm=>gBx hm rfl λaS w hm=>gA rfl (gE (gS (gJ hm (λaE=>[(4,(.bool (aE)))]) (λaE=>[]) (λaE=>?_) ?_)))))
  ·refine gR (gF oT rfl (gL hm 1 isAgg3 rfl (gF oT rfl (gL hm 0 isAgg3 rfl (gB rfl (gM rfl (gsd 10 rfl (λaN=>?_) λaN=>?_)))))))
   ·refine gF qd rfl (gL hm 1 isAgg9 rfl (gF qd rfl (gL hm 0 isAgg9 rfl (gY (yG rfl (tG (p:=a_.name) (q:=b_.name) rfl rfl rfl)) (gKt rfl (gM rfl (gsd 17 rfl (λaO=>?_) λaO=>?_)))))))
    ·refine gF ov rfl (gL hm 1 isAgg59 rfl (gF ov rfl (gL hm 0 isAgg59 rfl (gC hm rfl call65 (mF _ a_.args v1 (hm.now h1) b_.args v4 (hm.now h4) (λy0 y1=>nA y0 y1) (.func (.func 66) #[] #[]) (λw y0 aA aB y1 aC aD r hB hq=>⟨66,[],rfl,call66,xp w y0 aA aB y1 aC aD  r hq⟩)) λaT aU w hm=>gKt rfl (gM rfl (gs 24 rfl (λaP=>?_) λaP=>?_))))))
     ·refine gF qf rfl (gL hm 1 isAgg43 rfl (gF qf rfl (gL hm 0 isAgg43 rfl (gC hm rfl call30 (l0 _ a_.body v2 (hm.now h2) b_.body v5 (hm.now h5) (λy0 y1=>rec_ y0 y1) (.func (.func 31) #[] #[]) (λw y0 aA aB aF aG aH aI y1 aC aD aJ aK aL aM r hB hq=>⟨31,[],rfl,call31,impl_sameStmt_rec w y0 aA aB aF aG aH aI y1 aC aD aJ aK aL aM  r hq⟩)) λaV aX w hm=>gKt rfl (gM rfl (gs 31 rfl (λaQ=>?_) λaQ=>?_))))))
      ·exact gF qJ rfl (gL hm 1 isAgg43 rfl (gF qJ rfl (gL hm 0 isAgg43 rfl (gC hm rfl call30 (l0 _ a_.else_ v3 (hm.now h3) b_.else_ v6 (hm.now h6) (λy0 y1=>rec_ y0 y1) (.func (.func 31) #[] #[]) (λw y0 aA aB aF aG aH aI y1 aC aD aJ aK aL aM r hB hq=>⟨31,[],rfl,call31,impl_sameStmt_rec w y0 aA aB aF aG aH aI y1 aC aD aJ aK aL aM  r hq⟩)) λaY aZ w hm=>gKt rfl (gA rfl (gE (gz hm [] rfl)))))))
      exact gO rfl (gO rfl (gO rfl (gO rfl (gO rfl (gKf rfl (gA rfl (gE (gz hm [] rfl))))))))
     exact gO rfl (gO rfl (gO rfl (gO rfl (gO rfl (gKf rfl (gM rfl (gO rfl (gO rfl (gO rfl (gO rfl (gO rfl (gKf rfl (gA rfl (gE (gz hm [] rfl)))))))))))))))
    exact gO rfl (gO rfl (gO rfl (gO rfl (gO rfl (gKf rfl (gM rfl (gO rfl (gO rfl (gO rfl (gO rfl (gO rfl (gKf rfl (gM rfl (gO rfl (gO rfl (gO rfl (gO rfl (gO rfl (gKf rfl (gA rfl (gE (gz hm [] rfl))))))))))))))))))))))
   exact gO rfl (gO rfl (gO rfl (gO rfl (gO rfl (gKf rfl (gM rfl (gO rfl (gO rfl (gO rfl (gO rfl (gO rfl (gKf rfl (gM rfl (gO rfl (gO rfl (gO rfl (gO rfl (gO rfl (gKf rfl (gM rfl (gO rfl (gO rfl (gO rfl (gO rfl (gO rfl (gKf rfl (gA rfl (gE (gz hm [] rfl)))))))))))))))))))))))))))))
  repeat clear hm
  intro aE w hm
  exact gRt (gr1 results31 rfl ⟨rfl,hm.below⟩)
theorem xY (w0:World) (a_:kN) (v1:Value) (h1:GT.rep (hp w0) [v1] a_.args) (v2:Value) (h2:GT.rep (hp w0) [v2] a_.body) (v3:Value) (h3:GT.rep (hp w0) [v3] a_.else_) (b_:kN) (v4:Value) (h4:GT.rep (hp w0) [v4] b_.args) (v5:Value) (h5:GT.rep (hp w0) [v5] b_.body) (v6:Value) (h6:GT.rep (hp w0) [v6] b_.else_) (r:Bool) (hq:np a_ b_=some r):Con Tryz.prog 31 [(.agg #[nV a_.op,(tV a_.name),v1,v2,v3]),(.agg #[nV b_.op,(tV b_.name),v4,v5,v6])] w0 (λv w'=>v=(.bool (r))∧Below w0.heap.size w0 w'):=wh a_ b_ r hq w0 v1 h1 v2 h2 v3 h3 v4 h4 v5 h5 v6 h6
theorem tm (w0:World) (f:Fn_) (v1:Value) (h1:GT.rep (hp w0) [v1] f.params) (v2:Value) (h2:GT.rep (hp w0) [v2] f.body) (g:Fn_) (v3:Value) (h3:GT.rep (hp w0) [v3] g.params) (v4:Value) (h4:GT.rep (hp w0) [v4] g.body) :
    mE Tryz.prog 28 [(.agg #[(tV f.name),v1,v2]),(.agg #[(tV g.name),v3,v4])] w0 (oV f g) λr v w'=>v=(.bool (r))∧Below w0.heap.size w0 w':=by
  unfold oV
  refine mR func28 rfl λr=>?_
  have hm:=Mem.start w0
  refine gS (gR (gBx hm rfl λaP w hm=>gBx hm rfl λaQ w hm=>gA rfl (gE (gS (gJ hm (λaA=>[(4,(.bool (aA)))]) (λaA=>[]) (λaA=>?_) ?_)))))
  ·refine gR (gF sn rfl (gL hm 1 isAgg9 rfl (gF sn rfl (gL hm 0 isAgg9 rfl (gY (yG rfl (tG (p:=f.name) (q:=g.name) rfl rfl rfl)) (gM rfl (gsd 10 rfl (λaB=>?_) λaB=>?_)))))))
   ·refine gF o6 rfl (gL hm 1 isAgg42 rfl (gF o6 rfl (gL hm 0 isAgg42 rfl (gC hm rfl call29 (rS _ f.params v1 (hm.now h1) g.params v3 (hm.now h3)) λaR aS w hm=>gKt rfl (gM rfl (gs 17 rfl (λaC=>?_) λaC=>?_))))))
    ·exact gF oE rfl (gL hm 1 isAgg43 rfl (gF oE rfl (gL hm 0 isAgg43 rfl (gC hm rfl call30 (l0 _ f.body v2 (hm.now h2) g.body v4 (hm.now h4) (λy0 y1=>np y0 y1) (.func (.func 31) #[] #[]) (λw y0 aD aE aF aG aH aI y1 aJ aK aL aM aN aO r hB hq=>⟨31,[],rfl,call31,xY w y0 aD aE aF aG aH aI y1 aJ aK aL aM aN aO  r hq⟩)) λaT aU w hm=>gKt rfl (gA rfl (gE (gz hm [] rfl)))))))
    exact gO rfl (gO rfl (gO rfl (gO rfl (gO rfl (gKf rfl (gA rfl (gE (gz hm [] rfl))))))))
   exact gO rfl (gO rfl (gO rfl (gO rfl (gO rfl (gKf rfl (gM rfl (gO rfl (gO rfl (gO rfl (gO rfl (gO rfl (gKf rfl (gA rfl (gE (gz hm [] rfl)))))))))))))))
  repeat clear hm
  intro aA w hm
  exact gRt (gr1 results28 rfl ⟨rfl,hm.below⟩)
theorem vr (w0:World) (a_:kp) (v1:Value) (h1:GT.rep (hp w0) [v1] a_.fns) (b_:kp) (v2:Value) (h2:GT.rep (hp w0) [v2] b_.fns) :
    mE Tryz.prog 10 [(.agg #[v1]),(.agg #[v2])] w0 (oP a_ b_) λr v w'=>v=(.bool (r))∧Below w0.heap.size w0 w':=by
  unfold oP
  refine mR func10 rfl λr=>?_
  have hm:=Mem.start w0
  exact gS (gR (gBx hm rfl λaI w hm=>gBx hm rfl λaJ w hm=>gA rfl (gE (gS (gR (gF nu rfl (gL hm 1 isAgg23 rfl (gF nu rfl (gL hm 0 isAgg23 rfl (gC hm rfl call27 (oN _ a_.fns v1 (hm.now h1) b_.fns v2 (hm.now h2) (λy0 y1=>oV y0 y1) (.func (.func 28) #[] #[]) (λw y0 aA aB aC aD y1 aE aF aG aH r hB hq=>⟨28,[],rfl,call28,tm w y0 aA aB aC aD y1 aE aF aG aH  r hq⟩)) λaK aL w hm=>gA rfl (gE (gRt (gr1 results10 rfl ⟨rfl,hm.below⟩)))))))))))))
theorem ui (w0:World) (code:List UInt8) (v1:Value) (h1:GT.rep (hp w0) [v1] code) (hG0:GT.rep (hp w0) [.slice (some ⟨0,0,none⟩) 9 9] k7) (hG1:GT.rep (hp w0) [.slice (some ⟨1,0,none⟩) 1 1] [kO]) (hG2:GT.rep (hp w0) [.slice (some ⟨2,0,none⟩) 1 1] [kz]) (hG6:GT.rep (hp w0) [.pointer (some ⟨6,0,none⟩)] lB) :
    mE Tryz.prog 3 [v1] w0 (ph code) λr v w'=>v=(.bool (r))∧Below w0.heap.size w0 w':=by
  unfold ph
  refine mR func3 rfl λr=>?_
  have hm:=Mem.start w0
  refine gS (gR (gA rfl (gE (gS (gS (gR (gM rfl ?_)))))))
  obtain ⟨aM,aN,rfl,ac⟩:=kT h1
  refine gY (yV vm rfl) (gB rfl (gE (gsd 16 rfl (λaO=>?_) λaO=>?_)))
  ·exact gct rfl (gS (gR (gA rfl (gE (gRt (gr1 results3 rfl ⟨rfl,hm.below⟩))))))
  refine gcf rfl (gSk (gS (gR (gM rfl (gCg rfl call5 (tW _ _ hm.lez code (.slice aM code.length aN) h1 ) ?_)))))
  rintro aI ae af w ⟨aC,ag,rfl,aA,aD,hB⟩
  replace hm:=Mem.giveA hm aA hB;clear hB
  refine gAl hm zeroValue25 rfl λaL w hm=>gSN hm 0 sizeOf25 (kL (ki aD) ke) rfl λw hm=>gE (gS (gR (gY (yn (hm.blk_at 0 rfl) isAgg25 sizeOf25 rfl) (gC hm rfl call6 (sJ _ aI aC (hm.now aD) (hm.now (GT.mono aA hG0)) (hm.now (GT.mono aA hG1)) (hm.now (GT.mono aA hG6))) λaB ah w hm=>gM rfl (gX rfl (gX rfl (gA rfl (gA rfl (gE (gS (gR (gY (yn (hm.blk_at 0 rfl) isAgg25 sizeOf25 rfl) (gC hm rfl call7 (wO _ aI aC (hm.now aD)) λaE ai w hm=>gM rfl (gX rfl (gX rfl (gA rfl (gA rfl (gE (gS (gS (gJ hm (λaF=>[(3,(pV aL)),(4,(tV aB.1)),(5,(.bool (aB.2))),(6,(tV aE.1)),(7,(.bool (aE.2))),(40,(.bool (aF)))]) (λaF=>[blk aL [aC] 25]) (λaF=>?_) ?_)))))))))))))))))))))
  ·refine gR (gM rfl (gM rfl (gY (yG rfl (vp (p:=aB.1) (q:=aE.1) rfl rfl rfl)) (gM rfl (gsd 32 rfl (λaP=>?_) λaP=>?_)))))
   ·exact gO rfl (gO rfl (gO rfl (gKt rfl (gM rfl (gO rfl (gO rfl (gKt rfl (gE (gz hm [0] rfl)))))))))
   refine gM rfl (gM rfl (gY (yG rfl (ao6 underlying4 rfl rfl rfl)) (gKf rfl (gM rfl (gsd 37 rfl (λaQ=>?_) λaQ=>?_)))))
   ·exact gO rfl (gO rfl (gKt rfl (gE (gz hm [0] rfl))))
   exact gM rfl (gN rfl (gKf rfl (gE (gz hm [0] rfl))))
  repeat clear hm
  intro aF w hm
  refine gs 40 rfl (λaR=>?_) λaR=>?_
  ·refine gct rfl (gS (gJ hm (λaG=>[(2,(.bool (aG)))]) (λaG=>[]) (λaG=>?_) ?_))
   ·refine gR (gM rfl (gM rfl (gY (yG rfl (tG (p:=aB.1) (q:=aE.1) rfl rfl rfl)) (gM rfl (gsd 44 rfl (λaS=>?_) λaS=>?_)))))
    ·refine gM rfl (gM rfl (gY (yG rfl (bu9 underlying4 rfl rfl rfl)) (gKt rfl (gM rfl (gsd 49 rfl (λaT=>?_) λaT=>?_)))))
     ·exact gM rfl (gY (yG rfl (tG (p:=aB.1) (q:=(mkS [])) rfl rfl rfl)) (gKt rfl (gA rfl (gE (gz hm [] rfl)))))
     exact gO rfl (gO rfl (gKf rfl (gA rfl (gE (gz hm [] rfl)))))
    exact gO rfl (gO rfl (gO rfl (gKf rfl (gM rfl (gO rfl (gO rfl (gKf rfl (gA rfl (gE (gz hm [] rfl))))))))))
   repeat clear hm
   intro aG w hm
   refine gRt ?_
   replace hm:=hm.thaw aA
   exact gr1 results3 rfl ⟨rfl,hm.below⟩
  refine gcf rfl (gSk (gS (gR (gM rfl (gCg rfl call8 (wM _ aB.1 (hm.now (GT.mono aA hG0)) (hm.now (GT.mono aA hG1)) (hm.now (GT.mono aA hG2))) ?_)))))
  rintro aJ aj ak w ⟨aK,rfl,hB⟩
  replace hm:=hm.give hB;clear hB
  refine gM rfl (gX rfl (gX rfl (gAl hm zeroValue25 rfl λal w hm=>gSN hm 0 sizeOf25 (kL (ki (hm.ow_rep 1 rfl)) ke) rfl λw hm=>gA rfl (gE (gS (gR (gM rfl (gC hm rfl call9 (xM _ aB.1 (hm.now (GT.mono aA hG0))) λaU am w hm=>gM rfl (gX rfl (gX rfl (gA rfl (gA rfl (gE (gS (gR (gY (yn (hm.blk_at 0 rfl) isAgg25 sizeOf25 rfl) (gC hm rfl call6 (sJ _ aJ.1 aK (hm.ow_rep 1 rfl) (hm.now (GT.mono aA hG0)) (hm.now (GT.mono aA hG1)) (hm.now (GT.mono aA hG6))) λaV an w hm=>gM rfl (gX rfl (gX rfl (gA rfl (gA rfl (gE (gS (gJ hm (λaH=>[(2,(.bool (aH)))]) (λaH=>[]) (λaH=>?_) ?_))))))))))))))))))))))))
  ·refine gR (gM rfl (gM rfl (gs 69 rfl (λaX=>?_) λaX=>?_)))
   ·refine gM rfl (gKt rfl (gM rfl (gs 72 rfl (λaY=>?_) λaY=>?_)))
    ·refine gM rfl (gKt rfl (gM rfl (gs 75 rfl (λaZ=>?_) λaZ=>?_)))
     ·refine gM rfl (gM rfl (gY (yG rfl (tG (p:=aU.1) (q:=aB.1) rfl rfl rfl)) (gKt rfl (gM rfl (gsd 80 rfl (λa8=>?_) λa8=>?_)))))
      ·refine gM rfl (gM rfl (gY (yG rfl (tG (p:=aV.1) (q:=aB.1) rfl rfl rfl)) (gKt rfl (gM rfl (gsd 85 rfl (λaa=>?_) λaa=>?_)))))
       ·refine gY (yn (hm.blk_at 0 rfl) isAgg25 sizeOf25 rfl) (gY (yn (hm.blk_at 2 rfl) isAgg25 sizeOf25 rfl) (gC hm rfl call10 (vr _ aJ.1 aK (hm.ow_rep 1 rfl) aI aC (hm.now aD)) λao aq w hm=>gKt rfl (gM rfl (gs 90 rfl (λab=>?_) λab=>?_))))
        ·exact gY (yn (hm.blk_at 0 rfl) isAgg25 sizeOf25 rfl) (gC hm rfl call11 (qZ _ aJ.1 aK (hm.ow_rep 1 rfl) (hm.now (GT.mono aA hG0)) (hm.now (GT.mono aA hG1))) λar au w hm=>gKt rfl (gA rfl (gE (gz hm [] rfl))))
        exact gO rfl (gO rfl (gKf rfl (gA rfl (gE (gz hm [] rfl)))))
       exact gO rfl (gO rfl (gO rfl (gKf rfl (gM rfl (gO rfl (gO rfl (gKf rfl (gA rfl (gE (gz hm [] rfl))))))))))
      exact gO rfl (gO rfl (gO rfl (gKf rfl (gM rfl (gO rfl (gO rfl (gO rfl (gKf rfl (gM rfl (gO rfl (gO rfl (gKf rfl (gA rfl (gE (gz hm [] rfl)))))))))))))))
     exact gO rfl (gO rfl (gO rfl (gKf rfl (gM rfl (gO rfl (gO rfl (gO rfl (gKf rfl (gM rfl (gO rfl (gO rfl (gO rfl (gKf rfl (gM rfl (gO rfl (gO rfl (gKf rfl (gA rfl (gE (gz hm [] rfl))))))))))))))))))))
    exact gO rfl (gKf rfl (gM rfl (gO rfl (gO rfl (gO rfl (gKf rfl (gM rfl (gO rfl (gO rfl (gO rfl (gKf rfl (gM rfl (gO rfl (gO rfl (gO rfl (gKf rfl (gM rfl (gO rfl (gO rfl (gKf rfl (gA rfl (gE (gz hm [] rfl)))))))))))))))))))))))
   exact gO rfl (gKf rfl (gM rfl (gO rfl (gKf rfl (gM rfl (gO rfl (gO rfl (gO rfl (gKf rfl (gM rfl (gO rfl (gO rfl (gO rfl (gKf rfl (gM rfl (gO rfl (gO rfl (gO rfl (gKf rfl (gM rfl (gO rfl (gO rfl (gKf rfl (gA rfl (gE (gz hm [] rfl))))))))))))))))))))))))))
  repeat clear hm
  intro aH w hm
  refine gRt ?_
  replace hm:=hm.thaw aA
  exact gr1 results3 rfl ⟨rfl,hm.below⟩
end Go.Proofs.YtkopacpickeojaaGreatDoor
