/- A part of the proof of FnProgramBackCardSaid. -/
import Derived.Test.YtkopacpickeojaaGreatDoorPbWalksA
namespace Go.Proofs.YtkopacpickeojaaGreatDoor
open Go Go.Wk Go.RowKit
set_option maxRecDepth 4000
set_option maxHeartbeats 4000000
open Tryz
abbrev ux:Go.Wk.Ord:=(.e 11 (.e 13 .fin .nil) .nil)
abbrev ap9:Go.Wk.Ord:=(.e 11 (.e 12 (.e 13 .fin .nil) .nil) (.e 12 ux .nil))
abbrev ae2:Go.Wk.Ord:=(.e 8 ap9 (.e 12 (.e 8 ux .nil) .nil))
abbrev ae7:Go.Wk.Ord:=(.e 8 (.e 10 ux .nil) (.e 10 (.e 8 ux .nil) .nil))
abbrev xk:Go.Wk.Ord:=(.p 7 (.e 8 ux .nil))
abbrev ao7:Go.Wk.Ord:=(.p 7 (.e 8 (.e 10 ap9 (.e 12 (.e 10 ux .nil) .nil)) (.e 10 ae2 (.e 12 ae7 .nil))))
abbrev ae1:Go.Wk.Ord:=(.e 5 (.p 6 xk) .nil)
abbrev an2:Go.Wk.Ord:=(.e 1 (.p 7 ae2) (.e 12 (.e 1 xk .nil) .nil))
abbrev an1:Go.Wk.Ord:=(.e 1 (.p 7 ae7) (.e 10 (.e 1 xk .nil) .nil))
abbrev ad9:Go.Wk.Ord:=(.e 5 (.p 6 (.p 7 ae2)) (.e 12 ae1 .nil))
abbrev ae5:Go.Wk.Ord:=(.e 5 (.p 6 (.p 7 ae7)) (.e 10 ae1 .nil))
abbrev ag0:Go.Wk.Ord:=(.e 1 ae1 (.e 5 (.p 6 (.e 1 xk .nil)) .nil))
abbrev u9:Go.Wk.Ord:=(.e 8 (.p 9 (.e 11 .fin .nil)) .nil)
abbrev ar7:Go.Wk.Ord:=(.e 8 (.p 9 (.e 10 (.e 11 .fin .nil) .nil)) (.e 10 u9 .nil))
abbrev ar9:Go.Wk.Ord:=(.e 5 ar7 (.e 10 (.e 5 u9 .nil) .nil))
abbrev aq9:Go.Wk.Ord:=(.e 5 (.e 7 u9 .nil) (.e 7 (.e 5 u9 .nil) .nil))
abbrev as5:Go.Wk.Ord:=(.e 0 (.e 5 u9 .nil) .nil)
theorem zf (w0:World) (hz:kX) (r_:kR) (bp0:Nat) (v1p:Value) (h1p:GT.rep hz [v1p] r_.b) (hm0:Mem w0 hz w0 [blk bp0 [v1p,nV r_.p] 86]) :
    mE Tryz.prog 38 [(pV bp0)] w0 (rD r_) λr v w'=>∃ (x1:Value),v=(.agg #[x1])∧Mem w0 hz w' [blk bp0 [v1p,nV r.2.p] 86,ow [x1] r.1.fns]:=by
  unfold rD
  refine mR func38 rfl λr=>?_
  have hm:=hm0
  refine gS (gR (gAl hm zeroValue25 rfl λaC w hm=>gE (gS (gR (gM rfl (gM rfl (gf rfl (λa hf=>kS (vs:=#[(0,(nV 14)),(1,(nV 20)),(2,(nV 8)),(3,(nV 26))]) (cs:=[nV 14,nV 20,nV 8,nV 26]) rp hf hm rfl rfl (by kernel_rfl) rfl rfl) ?_)))))))
  rintro _ w ⟨cA,rfl,hm⟩
  replace hm:=hm.lit (xs:=([14,20,8,26]:List Int)) 0 rfl rfl rfl rfl
  obtain ⟨cC,hle,hm1,hsub,cD⟩:=hm.take2 (L1:=[_]) (L2:=[_,_]) [2] [0,1] (by decide) rfl rfl
  refine gCg rfl call53 (lA _ cC r_ bp0 v1p (GT.mono hle h1p) ([14,20,8,26]:List Int) (sV cA 0 4 4) (mY (hsub 0 _ rfl)) hm1 ) ?_
  rintro bT d8 d9 w ⟨rfl,hB⟩
  replace hm:=cD _ _ hB;clear hB
  refine gY (yG rfl (kr (vs:=[(0,(pV bp0)),(4,(nV bT.1))]) (cs:=#[(pV bp0),.slice none 0 0,.slice none 0 0,nV 0,nV bT.1]) rfl rfl (by kernel_rfl))) (gBx hm rfl λaB w hm=>?_)
  replace hm:=hm.opt_new (.slice none 0 0) ([]:List Str)
  refine gA rfl (gE (gS (gS (gR (gM rfl (gf rfl (λa hf=>kS (vs:=#[(0,(nV 0)),(1,(nV 1)),(2,(nV 1)),(3,(nV 2))]) (cs:=[nV 0,nV 1,nV 1,nV 2]) rp hf hm rfl rfl (by kernel_rfl) rfl rfl) ?_))))))
  rintro _ w ⟨cE,rfl,hm⟩
  replace hm:=hm.lit (xs:=([0,1,1,2]:List Int)) 0 rfl rfl rfl rfl
  obtain ⟨cF,hle,hm1,hsub,cG⟩:=hm.take2 (L1:=[_]) (L2:=[_,_,_,_,_]) [3] [0,1,2,4,5] (by decide) rfl rfl
  refine gCg rfl call53 (lA _ cF (⟨r_.b,bT.2.p⟩:kR) bp0 v1p (GT.mono hle h1p) ([0,1,1,2]:List Int) (sV cE 0 4 4) (mY (hsub 0 _ rfl)) hm1 ) ?_
  rintro da db dc w ⟨rfl,hB⟩
  replace hm:=cG _ _ hB;clear hB
  refine gA rfl (gE (gJg (λaI a w=>∃ (aw ax:Value),St 69 [(0,(pV bp0)),(2,(pV aC)),(3,(pV aB))] w0 hz [blk bp0 [v1p,nV aI.1] 86,blk aC [.slice none 0 0] 25,blk aB [(pV bp0),aw,ax,nV aI.2.2.2.1,nV aI.2.2.2.2] 109,ow [aw] aI.2.1,opt (.slice none 0 0) ([]:List Str) ax aI.2.2.1] a w) (λaI=>?_) ?_))
  ·refine gBk ?_
   replace hm:=hm.nilow (α:=Fn_)
   refine gMg (λaA a w=>∃ (ae aE:Value),St 69 [(0,(pV bp0)),(2,(pV aC)),(3,(pV aB)),(4,(nV aA.2.2.2.2.2))] w0 hz [blk bp0 [v1p,nV aA.1] 86,blk aC [.slice none 0 0] 25,blk aB [(pV bp0),ae,aE,nV aA.2.2.2.1,nV aA.2.2.2.2.1] 109,ow [ae] aA.2.1,opt (.slice none 0 0) ([]:List Str) aE aA.2.2.1] a w) (λa hf=>⟨.slice none 0 0,.slice none 0 0,hf.sb rfl,hm.pk [1,6,4,0,3] rfl rfl⟩) ?_
   repeat clear hm
   rintro dd cH aA a w ⟨ae,aE,hf,hm⟩ de cI
   refine gv hf (gS (gS (gR (gM rfl (gB rfl (gE (gsd 18 rfl (λcJ=>?_) λcJ=>?_)))))))
   ·refine gct rfl (gSk (gS (gBk (gS (gJg (λaH a w=>∃ (af:Value) (bU:Nat) (aV aX:Value),St 69 [(0,(pV bp0)),(2,(pV aC)),(3,(pV aB)),(4,(nV aA.2.2.2.2.2)),(5,(pV bU))] w0 hz [blk bp0 [v1p,nV aH.1] 86,blk aC [.slice none 0 0] 25,blk aB [(pV bp0),ae,af,nV aH.2.2.1,nV aH.2.2.2.1] 109,ow [ae] aA.2.1,opt (.slice none 0 0) ([]:List Str) af aH.2.1,blk bU [(tV aH.2.2.2.2.1),aV,aX] 45,ow [aV] aH.2.2.2.2.2.1,ow [aX] aH.2.2.2.2.2.2] a w) (λaH=>?_) ?_)))))
    ·obtain ⟨aF,aG,rfl,df⟩:=kT (hm.ow_rep 3 rfl)
     refine gW (.p 0 (.p 2 (.p 3 (.p 4 (.p 9 (.e 1 (.e 5 (.p 6 ao7) (.e 10 ad9 (.e 12 ae5 .nil))) (.e 5 (.p 6 (.e 1 ao7 (.e 10 an2 (.e 12 an1 .nil)))) (.e 10 (.e 1 ad9 (.e 5 (.p 6 an2) (.e 12 ag0 .nil))) (.e 12 (.e 1 ae5 (.e 5 (.p 6 an1) (.e 10 ag0 .nil))) .nil))))))))) [] [0,2,3,4,6,7,9] hm [0,1,2,3,4] [_,_,_,_,_] rfl mxo (by kernel_rfl) (λ_ _ _ h=>h.2) λw hm hS=>tP rfl (λw=>yM rfl) (tP rfl (λw=>yM rfl) (tP rfl (λw=>yG rfl (kj rfl rfl)) (tP rfl (λw=>yF rn rfl) (tP rfl (λw=>yM rfl) (gb λaO ay=>gb λaJ aS=>gb λaY bs=>tSh ((.e 13 .fin .nil)) (λa w=>∃ (az:Value) (bA:Nat) (bB bC:Value),St 69 [(0,(pV bp0)),(2,(pV aC)),(3,(pV aB)),(4,(nV aA.2.2.2.2.2)),(5,(pV bA)),(32,(.agg #[(tV aY.1.name),bB,bC]))] w0 hz [blk bp0 [v1p,nV aY.2.2.p] 86,blk aC [.slice none 0 0] 25,blk aB [(pV bp0),.slice aF aA.2.1.length aG,az,nV aY.2.1.next_,nV aY.2.1.left] 109,ow [.slice aF aA.2.1.length aG] aA.2.1,opt (.slice none 0 0) ([]:List Str) az aY.2.1.vars,blk bA [(tV (mkS [])),.slice none 0 0,.slice none 0 0] 45,ow [bB] aY.1.params,ow [bC] aY.1.body] a w) ?_ λhT4_1=>?_)))))
     ·rintro a w ⟨az,bA,bB,bC,hf,hm⟩
      refine gv hf (tO (tf0 rfl rfl (λa hf=>nH 5 hf hm rfl sizeOf45 rfl rfl rfl (kL rfl (kL (ki (hm.ow_rep 6 rfl)) (kL (ki (hm.ow_rep 7 rfl)) ke))) rfl rfl) ?_))
      rintro _ w hm
      exact tAn rfl (tE (gZ λa hf=>⟨az,bA,bB,bC,hf.sb rfl,hm.pk [0,1,2,3,4,5,6,7] rfl rfl⟩))
     refine tSh (ux) (λa w=>∃ (bD:Nat),St 69 [(0,(pV bp0)),(2,(pV aC)),(3,(pV aB)),(4,(nV aA.2.2.2.2.2)),(5,(pV bD)),(21,(pV aB)),(29,(tV aO)),(31,(nV aJ.1))] w0 hz [blk bp0 [v1p,nV aJ.2.p] 86,blk aC [.slice none 0 0] 25,blk aB [(pV bp0),.slice aF aA.2.1.length aG,aE,nV aA.2.2.2.1,nV aA.2.2.2.2.1] 109,ow [.slice aF aA.2.1.length aG] aA.2.1,opt (.slice none 0 0) ([]:List Str) aE aA.2.2.1,blk bD [(tV (mkS [])),.slice none 0 0,.slice none 0 0] 45] a w) ?_ λhT4_2=>?_
     ·rintro a w ⟨bD,hf,hm⟩
      refine gv hf (tO ?_)
      obtain ⟨aP,hle,hm1,hsub,aQ⟩:=hm.take2 (L1:=[_,_]) (L2:=[_,_,_,_]) [2,0] [1,3,4,5] (by decide) rfl rfl
      refine tf rfl rfl (λa hf=>lK hf rfl call76 rfl (qv _ aP (⟨aA.2.1,aA.2.2.1,aA.2.2.2.1,aA.2.2.2.2.1⟩:lG) bp0 aB (.slice aF aA.2.1.length aG) (mY (hsub 1 _ rfl)) aE (tr hle pU (hsub 2 _ rfl)) (⟨r_.b,aJ.2.p⟩:kR) v1p (GT.mono hle h1p) aO aJ.1 hm1  _ bs)) ?_
      rintro aZ w ⟨ai,aj,bE,rfl,hB⟩
      replace hm:=aQ _ _ hB;clear hB
      replace hm:=(hm.opt_comp 7 4 (by decide) rfl rfl).pk (L':=[_,_,_,_,_,_,_,_]) [0,1,2,3,5,6,7,8] rfl rfl
      exact tAn rfl (oF hT4_1 λa hf=>⟨bE,bD,ai,aj,hf.sb rfl,hm.pk [1,4,0,5,6,7,2,3] rfl rfl⟩)
     refine tSh ((.e 10 ux .nil)) (λa w=>∃ (bF:Nat),St 69 [(0,(pV bp0)),(2,(pV aC)),(3,(pV aB)),(4,(nV aA.2.2.2.2.2)),(5,(pV bF)),(21,(pV aB)),(29,(tV aO)),(30,(pV bp0))] w0 hz [blk bp0 [v1p,nV aA.1] 86,blk aC [.slice none 0 0] 25,blk aB [(pV bp0),.slice aF aA.2.1.length aG,aE,nV aA.2.2.2.1,nV aA.2.2.2.2.1] 109,ow [.slice aF aA.2.1.length aG] aA.2.1,opt (.slice none 0 0) ([]:List Str) aE aA.2.2.1,blk bF [(tV (mkS [])),.slice none 0 0,.slice none 0 0] 45] a w) ?_ λhT4_3=>?_
     ·rintro a w ⟨bF,hf,hm⟩
      refine gv hf (tO ?_)
      obtain ⟨aP,hle,hm1,hsub,aQ⟩:=hm.take2 (L1:=[_]) (L2:=[_,_,_,_,_]) [0] [1,2,3,4,5] (by decide) rfl rfl
      refine tf rfl rfl (λa hf=>lK hf rfl call39 rfl (ka _ aP (⟨r_.b,aA.1⟩:kR) bp0 v1p (GT.mono hle h1p) 3 hm1  _ aS)) ?_
      rintro aZ w ⟨rfl,hB⟩
      replace hm:=aQ _ _ hB;clear hB
      exact tAn rfl (oF hT4_2 λa hf=>⟨bF,hf.sb rfl,hm.pk [0,1,2,3,4,5] rfl rfl⟩)
     refine tSh (ap9) (λa w=>St 69 [(0,(pV bp0)),(2,(pV aC)),(3,(pV aB)),(4,(nV aA.2.2.2.2.2)),(21,(pV aB)),(29,(tV aO)),(31,(nV aJ.1))] w0 hz [blk bp0 [v1p,nV aJ.2.p] 86,blk aC [.slice none 0 0] 25,blk aB [(pV bp0),.slice aF aA.2.1.length aG,aE,nV aA.2.2.2.1,nV aA.2.2.2.2.1] 109,ow [.slice aF aA.2.1.length aG] aA.2.1,opt (.slice none 0 0) ([]:List Str) aE aA.2.2.1] a w) ?_ λhT4_4=>?_
     ·rintro a w ⟨hf,hm⟩
      refine gv hf (tMo ?_ ?_)
      ·obtain ⟨aP, hle, hm1, hsub, aQ⟩ := hm.take2 (L1 := [_, _]) (L2 := [_, _, _]) [2, 0] [1, 3, 4] (by decide) rfl rfl
       refine tf rfl rfl (λa hf=>lK hf rfl call76 rfl (qv _ aP (⟨aA.2.1,aA.2.2.1,aA.2.2.2.1,aA.2.2.2.2.1⟩:lG) bp0 aB (.slice aF aA.2.1.length aG) (mY (hsub 1 _ rfl)) aE (tr hle pU (hsub 2 _ rfl)) (⟨r_.b,aJ.2.p⟩:kR) v1p (GT.mono hle h1p) aO aJ.1 hm1  _ bs)) ?_
       rintro aZ w ⟨ai,aj,bE,rfl,hB⟩
       replace hm:=aQ _ _ hB;clear hB
       replace hm:=(hm.opt_comp 7 4 (by decide) rfl rfl).pk (L':=[_,_,_,_,_,_,_]) [0,1,2,3,5,6,7] rfl rfl
       refine tAn rfl (tO (tf rfl rfl (λa hf=>mb hm zeroValue45 rfl rfl) ?_))
       rintro _ w ⟨aL,rfl,hm⟩
       exact tAn rfl (oF hT4_1 λa hf=>⟨bE,aL,ai,aj,hf.sb rfl,hm.pk [2,5,1,6,7,0,3,4] rfl rfl⟩)
      refine tO (tf rfl rfl (λa hf=>mb hm zeroValue45 rfl rfl) ?_)
      rintro _ w ⟨aU,rfl,hm⟩
      exact tAn rfl (oF hT4_2 λa hf=>⟨aU,hf.sb rfl,hm.pk [1,2,3,4,5,0] rfl rfl⟩)
     refine tSh (xk) (λa w=>∃ (bG:Nat) (bV:Value),0≤(aA.2.1.length:Int)∧(aA.2.1.length:Int)≤140737488355328∧St 69 [(0,(pV bp0)),(2,(pV aC)),(3,(pV aB)),(4,(nV aA.2.2.2.2.2)),(5,(pV bG)),(21,(pV aB)),(22,bV),(27,(nV ((aA.2.1.length:Int)))),(31,(nV aJ.1))] w0 hz [blk bp0 [v1p,nV aJ.2.p] 86,blk aC [.slice none 0 0] 25,blk aB [(pV bp0),.slice aF aA.2.1.length aG,aE,nV aA.2.2.2.1,nV aA.2.2.2.2.1] 109,ow [.slice aF aA.2.1.length aG] aA.2.1,opt (.slice none 0 0) ([]:List Str) aE aA.2.2.1,blk bG [(tV (mkS [])),.slice none 0 0,.slice none 0 0] 45,ow [bV] ([(mkS [102]),(mkS [103]),(mkS [104])]:List Str)] a w) ?_ λhT4_5=>?_
     ·rintro a w ⟨bG,bV,ag,ah,hf,hm⟩
      refine gv hf ?_
      obtain ⟨a8,aK⟩:=rB.1 ay
      obtain ⟨aL,bW,bX,he⟩:=nb (hm.ow_rep 6 rfl) aK
      subst he
      exact tP rfl (λw=>yI oG a8 (lO aK) rfl) (tO (tY rfl (yl isAgg9 ((lj (cs:=[(tV aO)]) (hm.ow_rep 6 rfl) aK rfl).cell (j:=0) rfl) rfl) (tAn rfl (oF hT4_2 λa hf=>⟨bG,hf.sb rfl,hm.pk [0,1,2,3,4,5] rfl rfl⟩))))
     refine tSh ((.e 1 xk .nil)) (λa w=>∃ (bH:Nat),0≤(aA.2.1.length:Int)∧(aA.2.1.length:Int)≤140737488355328∧St 69 [(0,(pV bp0)),(2,(pV aC)),(3,(pV aB)),(4,(nV aA.2.2.2.2.2)),(5,(pV bH)),(21,(pV aB)),(27,(nV ((aA.2.1.length:Int)))),(31,(nV aJ.1))] w0 hz [blk bp0 [v1p,nV aJ.2.p] 86,blk aC [.slice none 0 0] 25,blk aB [(pV bp0),.slice aF aA.2.1.length aG,aE,nV aA.2.2.2.1,nV aA.2.2.2.2.1] 109,ow [.slice aF aA.2.1.length aG] aA.2.1,opt (.slice none 0 0) ([]:List Str) aE aA.2.2.1,blk bH [(tV (mkS [])),.slice none 0 0,.slice none 0 0] 45] a w) ?_ λhT4_6=>?_
     ·rintro a w ⟨bH,ag,ah,hf,hm⟩
      refine gv hf (tO (tf rfl rfl (λa hf=>kS (vs:=#[(0,(tV (mkS [102]))),(1,(tV (mkS [103]))),(2,(tV (mkS [104])))]) (cs:=[(tV (mkS [102])),(tV (mkS [103])),(tV (mkS [104]))]) ox hf hm rfl rfl (by kernel_rfl) rfl rfl) ?_))
      rintro _ w ⟨aL,rfl,hm⟩
      replace hm:=hm.lit (xs:=([(mkS [102]),(mkS [103]),(mkS [104])]:List Str)) 0 rfl rfl rfl rfl
      exact tAn rfl (oF hT4_5 λa hf=>⟨bH,sV aL 0 3 3,(by first | omega | (dsimp only;omega)),(by first | omega | (dsimp only;omega)),hf.sb rfl,hm.pk [1,2,3,4,5,6,0] rfl rfl⟩)
     refine tSh ((.p 7 ae7)) (λa w=>∃ (ak:Nat) (bY:Value),0≤(aA.2.1.length:Int)∧(aA.2.1.length:Int)≤140737488355328∧St 69 [(0,(pV bp0)),(2,(pV aC)),(3,(pV aB)),(4,(nV aA.2.2.2.2.2)),(5,(pV ak)),(21,(pV aB)),(22,bY),(27,(nV ((aA.2.1.length:Int)))),(30,(pV bp0))] w0 hz [blk bp0 [v1p,nV aA.1] 86,blk aC [.slice none 0 0] 25,blk aB [(pV bp0),.slice aF aA.2.1.length aG,aE,nV aA.2.2.2.1,nV aA.2.2.2.2.1] 109,ow [.slice aF aA.2.1.length aG] aA.2.1,opt (.slice none 0 0) ([]:List Str) aE aA.2.2.1,blk ak [(tV (mkS [])),.slice none 0 0,.slice none 0 0] 45,ow [bY] ([(mkS [102]),(mkS [103]),(mkS [104])]:List Str)] a w) ?_ λhT4_7=>?_
     ·rintro a w ⟨ak,bY,ag,ah,hf,hm⟩
      refine gv hf ?_
      obtain ⟨a8,aK⟩:=rB.1 ay
      obtain ⟨aL,bW,bX,he⟩:=nb (hm.ow_rep 6 rfl) aK
      subst he
      refine tP rfl (λw=>yI oG a8 (lO aK) rfl) (tMo ?_ ?_)
      ·exact tY rfl (yl isAgg9 ((lj (cs:=[(tV aO)]) (hm.ow_rep 6 rfl) aK rfl).cell (j:=0) rfl) rfl) (tAn rfl (oF hT4_3 λa hf=>⟨ak,hf.sb rfl,hm.pk [0,1,2,3,4,5] rfl rfl⟩))
      refine tO ?_
      obtain ⟨aP,hle,hm1,hsub,aQ⟩:=hm.take2 (L1:=[_]) (L2:=[_,_,_,_,_,_]) [0] [1,2,3,4,5,6] (by decide) rfl rfl
      refine tf rfl rfl (λa hf=>lK hf rfl call39 rfl (ka _ aP (⟨r_.b,aA.1⟩:kR) bp0 v1p (GT.mono hle h1p) 3 hm1  _ aS)) ?_
      rintro aZ w ⟨rfl,hB⟩
      replace hm:=aQ _ _ hB;clear hB
      exact tAn rfl (tO (tY rfl (yl isAgg9 ((lj (cs:=[(tV aO)]) (hm.ow_rep 6 rfl) aK rfl).cell (j:=0) rfl) rfl) (tAn rfl (oF hT4_2 λa hf=>⟨ak,hf.sb rfl,hm.pk [0,1,2,3,4,5] rfl rfl⟩))))
     refine tSh ((.p 7 ae2)) (λa w=>∃ (bZ:Value),0≤(aA.2.1.length:Int)∧(aA.2.1.length:Int)≤140737488355328∧St 69 [(0,(pV bp0)),(2,(pV aC)),(3,(pV aB)),(4,(nV aA.2.2.2.2.2)),(21,(pV aB)),(22,bZ),(27,(nV ((aA.2.1.length:Int)))),(31,(nV aJ.1))] w0 hz [blk bp0 [v1p,nV aJ.2.p] 86,blk aC [.slice none 0 0] 25,blk aB [(pV bp0),.slice aF aA.2.1.length aG,aE,nV aA.2.2.2.1,nV aA.2.2.2.2.1] 109,ow [.slice aF aA.2.1.length aG] aA.2.1,opt (.slice none 0 0) ([]:List Str) aE aA.2.2.1,ow [bZ] ([(mkS [102]),(mkS [103]),(mkS [104])]:List Str)] a w) ?_ λhT4_8=>?_
     ·rintro a w ⟨bZ,ag,ah,hf,hm⟩
      refine gv hf ?_
      obtain ⟨a8,aK⟩:=rB.1 ay
      obtain ⟨aL,bW,bX,he⟩:=nb (hm.ow_rep 5 rfl) aK
      subst he
      refine tP rfl (λw=>yI oG a8 (lO aK) rfl) (tMo ?_ ?_)
      ·exact tY rfl (yl isAgg9 ((lj (cs:=[(tV aO)]) (hm.ow_rep 5 rfl) aK rfl).cell (j:=0) rfl) rfl) (tAn rfl (oF hT4_4 λa hf=>⟨hf.sb rfl,hm.pk [0,1,2,3,4] rfl rfl⟩))
      refine tO (tf rfl rfl (λa hf=>mb hm zeroValue45 rfl rfl) ?_)
      rintro _ w ⟨aU,rfl,hm⟩
      exact tAn rfl (tO (tY rfl (yl isAgg9 ((lj (cs:=[(tV aO)]) (hm.ow_rep 6 rfl) aK rfl).cell (j:=0) rfl) rfl) (tAn rfl (oF hT4_2 λa hf=>⟨aU,hf.sb rfl,hm.pk [1,2,3,4,5,0] rfl rfl⟩))))
     refine tSh (an1) (λa w=>∃ (al:Nat),0≤(aA.2.1.length:Int)∧(aA.2.1.length:Int)≤140737488355328∧St 69 [(0,(pV bp0)),(2,(pV aC)),(3,(pV aB)),(4,(nV aA.2.2.2.2.2)),(5,(pV al)),(21,(pV aB)),(27,(nV ((aA.2.1.length:Int)))),(30,(pV bp0))] w0 hz [blk bp0 [v1p,nV aA.1] 86,blk aC [.slice none 0 0] 25,blk aB [(pV bp0),.slice aF aA.2.1.length aG,aE,nV aA.2.2.2.1,nV aA.2.2.2.2.1] 109,ow [.slice aF aA.2.1.length aG] aA.2.1,opt (.slice none 0 0) ([]:List Str) aE aA.2.2.1,blk al [(tV (mkS [])),.slice none 0 0,.slice none 0 0] 45] a w) ?_ λhT4_9=>?_
     ·rintro a w ⟨al,ag,ah,hf,hm⟩
      refine gv hf (tMo ?_ ?_)
      ·refine tf rfl rfl (fun a hf => kS (vs := #[(0, (tV (mkS [102]))), (1, (tV (mkS [103]))), (2, (tV (mkS [104])))]) (cs := [(tV (mkS [102])), (tV (mkS [103])), (tV (mkS [104]))]) ox hf hm rfl rfl (by kernel_rfl) rfl rfl) ?_
       rintro _ w ⟨aL,rfl,hm⟩
       replace hm:=hm.lit (xs:=([(mkS [102]),(mkS [103]),(mkS [104])]:List Str)) 0 rfl rfl rfl rfl
       exact tAn rfl (oF hT4_7 λa hf=>⟨al,sV aL 0 3 3,(by first | omega | (dsimp only;omega)),(by first | omega | (dsimp only;omega)),hf.sb rfl,hm.pk [1,2,3,4,5,6,0] rfl rfl⟩)
      refine tO ?_
      obtain ⟨aP,hle,hm1,hsub,aQ⟩:=hm.take2 (L1:=[_]) (L2:=[_,_,_,_,_]) [0] [1,2,3,4,5] (by decide) rfl rfl
      refine tf rfl rfl (λa hf=>lK hf rfl call39 rfl (ka _ aP (⟨r_.b,aA.1⟩:kR) bp0 v1p (GT.mono hle h1p) 3 hm1  _ aS)) ?_
      rintro aZ w ⟨rfl,hB⟩
      replace hm:=aQ _ _ hB;clear hB
      exact tAn rfl (oF hT4_6 λa hf=>⟨al,(by first | omega | (dsimp only;omega)),(by first | omega | (dsimp only;omega)),hf.sb rfl,hm.pk [0,1,2,3,4,5] rfl rfl⟩)
     refine tSh (an2) (λa w=>0≤(aA.2.1.length:Int)∧(aA.2.1.length:Int)≤140737488355328∧St 69 [(0,(pV bp0)),(2,(pV aC)),(3,(pV aB)),(4,(nV aA.2.2.2.2.2)),(21,(pV aB)),(27,(nV ((aA.2.1.length:Int)))),(31,(nV aJ.1))] w0 hz [blk bp0 [v1p,nV aJ.2.p] 86,blk aC [.slice none 0 0] 25,blk aB [(pV bp0),.slice aF aA.2.1.length aG,aE,nV aA.2.2.2.1,nV aA.2.2.2.2.1] 109,ow [.slice aF aA.2.1.length aG] aA.2.1,opt (.slice none 0 0) ([]:List Str) aE aA.2.2.1] a w) ?_ λhT4_10=>?_
     ·rintro a w ⟨ag,ah,hf,hm⟩
      refine gv hf (tMo ?_ ?_)
      ·refine tf rfl rfl (fun a hf => kS (vs := #[(0, (tV (mkS [102]))), (1, (tV (mkS [103]))), (2, (tV (mkS [104])))]) (cs := [(tV (mkS [102])), (tV (mkS [103])), (tV (mkS [104]))]) ox hf hm rfl rfl (by kernel_rfl) rfl rfl) ?_
       rintro _ w ⟨aL,rfl,hm⟩
       replace hm:=hm.lit (xs:=([(mkS [102]),(mkS [103]),(mkS [104])]:List Str)) 0 rfl rfl rfl rfl
       exact tAn rfl (oF hT4_8 λa hf=>⟨sV aL 0 3 3,(by first | omega | (dsimp only;omega)),(by first | omega | (dsimp only;omega)),hf.sb rfl,hm.pk [1,2,3,4,5,0] rfl rfl⟩)
      refine tO (tf rfl rfl (λa hf=>mb hm zeroValue45 rfl rfl) ?_)
      rintro _ w ⟨aU,rfl,hm⟩
      exact tAn rfl (oF hT4_6 λa hf=>⟨aU,(by first | omega | (dsimp only;omega)),(by first | omega | (dsimp only;omega)),hf.sb rfl,hm.pk [1,2,3,4,5,0] rfl rfl⟩)
     refine tSh (ae1) (λa w=>∃ (bJ:Nat) (bK:Value),St 69 [(0,(pV bp0)),(2,(pV aC)),(3,(pV aB)),(4,(nV aA.2.2.2.2.2)),(5,(pV bJ)),(21,(pV aB)),(22,bK),(25,(.pointer (some ⟨aB,1,none⟩))),(31,(nV aJ.1))] w0 hz [blk bp0 [v1p,nV aJ.2.p] 86,blk aC [.slice none 0 0] 25,blk aB [(pV bp0),.slice aF aA.2.1.length aG,aE,nV aA.2.2.2.1,nV aA.2.2.2.2.1] 109,ow [.slice aF aA.2.1.length aG] aA.2.1,opt (.slice none 0 0) ([]:List Str) aE aA.2.2.1,blk bJ [(tV (mkS [])),.slice none 0 0,.slice none 0 0] 45,ow [bK] ([(mkS [102]),(mkS [103]),(mkS [104])]:List Str)] a w) ?_ λhT4_11=>?_
     ·rintro a w ⟨bJ,bK,hf,hm⟩
      exact gv hf (tO (tY rfl (yL hm 2 isAgg23 rfl) (tAn rfl (tP rfl (λw=>yV nz rfl) (oF hT4_5 λa hf=>⟨bJ,bK,(by first | omega | (dsimp only;omega)),(by first | omega | (dsimp only;omega)),hf.sb rfl,hm.pk [0,1,2,3,4,5,6] rfl rfl⟩)))))
     refine tSh (ao7) (λa w=>∃ (b8:Value),0≤(aA.2.1.length:Int)∧(aA.2.1.length:Int)≤140737488355328∧St 69 [(0,(pV bp0)),(2,(pV aC)),(3,(pV aB)),(4,(nV aA.2.2.2.2.2)),(21,(pV aB)),(22,b8),(27,(nV ((aA.2.1.length:Int)))),(30,(pV bp0))] w0 hz [blk bp0 [v1p,nV aA.1] 86,blk aC [.slice none 0 0] 25,blk aB [(pV bp0),.slice aF aA.2.1.length aG,aE,nV aA.2.2.2.1,nV aA.2.2.2.2.1] 109,ow [.slice aF aA.2.1.length aG] aA.2.1,opt (.slice none 0 0) ([]:List Str) aE aA.2.2.1,ow [b8] ([(mkS [102]),(mkS [103]),(mkS [104])]:List Str)] a w) ?_ λhT4_12=>?_
     ·rintro a w ⟨b8,ag,ah,hf,hm⟩
      refine gv hf ?_
      obtain ⟨a8,aK⟩:=rB.1 ay
      obtain ⟨aL,bW,bX,he⟩:=nb (hm.ow_rep 5 rfl) aK
      subst he
      refine tP rfl (λw=>yI oG a8 (lO aK) rfl) (tMo ?_ ?_)
      ·refine tY rfl (yl isAgg9 ((lj (cs:=[(tV aO)]) (hm.ow_rep 5 rfl) aK rfl).cell (j:=0) rfl) rfl) (tAn rfl (tMo ?_ ?_))
       ·obtain ⟨aP, hle, hm1, hsub, aQ⟩ := hm.take2 (L1 := [_]) (L2 := [_, _, _, _, _]) [0] [1, 2, 3, 4, 5] (by decide) rfl rfl
        refine tf rfl rfl (λa hf=>lK hf rfl call39 rfl (ka _ aP (⟨r_.b,aA.1⟩:kR) bp0 v1p (GT.mono hle h1p) 3 hm1  _ aS)) ?_
        rintro aZ w ⟨rfl,hB⟩
        replace hm:=aQ _ _ hB;clear hB
        exact tAn rfl (oF hT4_4 λa hf=>⟨hf.sb rfl,hm.pk [0,1,2,3,4] rfl rfl⟩)
       refine tO (tf rfl rfl (λa hf=>mb hm zeroValue45 rfl rfl) ?_)
       rintro _ w ⟨aU,rfl,hm⟩
       exact tAn rfl (oF hT4_3 λa hf=>⟨aU,hf.sb rfl,hm.pk [1,2,3,4,5,0] rfl rfl⟩)
      refine tMo ?_ ?_
      ·obtain ⟨b9, hle, hm1, hsub, ba⟩ := hm.take2 (L1 := [_]) (L2 := [_, _, _, _, _]) [0] [1, 2, 3, 4, 5] (by decide) rfl rfl
       refine tf rfl rfl (λa hf=>lK hf rfl call39 rfl (ka _ b9 (⟨r_.b,aA.1⟩:kR) bp0 v1p (GT.mono hle h1p) 3 hm1  _ aS)) ?_
       rintro ai w ⟨rfl,hB⟩
       replace hm:=ba _ _ hB;clear hB
       refine tAn rfl (tMo ?_ ?_)
       ·exact tY rfl (yl isAgg9 ((lj (cs:=[(tV aO)]) (hm.ow_rep 5 rfl) aK rfl).cell (j:=0) rfl) rfl) (tAn rfl (oF hT4_4 λa hf=>⟨hf.sb rfl,hm.pk [0,1,2,3,4] rfl rfl⟩))
       refine tO (tf rfl rfl (λa hf=>mb hm zeroValue45 rfl rfl) ?_)
       rintro _ w ⟨bb,rfl,hm⟩
       exact tAn rfl (tO (tY rfl (yl isAgg9 ((lj (cs:=[(tV aO)]) (hm.ow_rep 6 rfl) aK rfl).cell (j:=0) rfl) rfl) (tAn rfl (oF hT4_2 λa hf=>⟨bb,hf.sb rfl,hm.pk [1,2,3,4,5,0] rfl rfl⟩))))
      refine tO (tf rfl rfl (λa hf=>mb hm zeroValue45 rfl rfl) ?_)
      rintro _ w ⟨bL,rfl,hm⟩
      refine tAn rfl (tMo ?_ ?_)
      ·exact tY rfl (yl isAgg9 ((lj (cs:=[(tV aO)]) (hm.ow_rep 6 rfl) aK rfl).cell (j:=0) rfl) rfl) (tAn rfl (oF hT4_3 λa hf=>⟨bL,hf.sb rfl,hm.pk [1,2,3,4,5,0] rfl rfl⟩))
      refine tO ?_
      obtain ⟨bc,hle,hm1,hsub,bd⟩:=hm.take2 (L1:=[_]) (L2:=[_,_,_,_,_,_]) [1] [0,2,3,4,5,6] (by decide) rfl rfl
      refine tf rfl rfl (λa hf=>lK hf rfl call39 rfl (ka _ bc (⟨r_.b,aA.1⟩:kR) bp0 v1p (GT.mono hle h1p) 3 hm1  _ aS)) ?_
      rintro aj w ⟨rfl,hB⟩
      replace hm:=bd _ _ hB;clear hB
      exact tAn rfl (tO (tY rfl (yl isAgg9 ((lj (cs:=[(tV aO)]) (hm.ow_rep 6 rfl) aK rfl).cell (j:=0) rfl) rfl) (tAn rfl (oF hT4_2 λa hf=>⟨bL,hf.sb rfl,hm.pk [0,2,3,4,5,1] rfl rfl⟩))))
     refine tSh (ag0) (λa w=>∃ (am:Nat),St 69 [(0,(pV bp0)),(2,(pV aC)),(3,(pV aB)),(4,(nV aA.2.2.2.2.2)),(5,(pV am)),(21,(pV aB)),(25,(.pointer (some ⟨aB,1,none⟩))),(31,(nV aJ.1))] w0 hz [blk bp0 [v1p,nV aJ.2.p] 86,blk aC [.slice none 0 0] 25,blk aB [(pV bp0),.slice aF aA.2.1.length aG,aE,nV aA.2.2.2.1,nV aA.2.2.2.2.1] 109,ow [.slice aF aA.2.1.length aG] aA.2.1,opt (.slice none 0 0) ([]:List Str) aE aA.2.2.1,blk am [(tV (mkS [])),.slice none 0 0,.slice none 0 0] 45] a w) ?_ λhT4_13=>?_
     ·rintro a w ⟨am,hf,hm⟩
      refine gv hf (tMo ?_ ?_)
      ·refine tf rfl rfl (fun a hf => kS (vs := #[(0, (tV (mkS [102]))), (1, (tV (mkS [103]))), (2, (tV (mkS [104])))]) (cs := [(tV (mkS [102])), (tV (mkS [103])), (tV (mkS [104]))]) ox hf hm rfl rfl (by kernel_rfl) rfl rfl) ?_
       rintro _ w ⟨aL,rfl,hm⟩
       replace hm:=hm.lit (xs:=([(mkS [102]),(mkS [103]),(mkS [104])]:List Str)) 0 rfl rfl rfl rfl
       exact tAn rfl (oF hT4_11 λa hf=>⟨am,sV aL 0 3 3,hf.sb rfl,hm.pk [1,2,3,4,5,6,0] rfl rfl⟩)
      exact tO (tY rfl (yL hm 2 isAgg23 rfl) (tAn rfl (tP rfl (λw=>yV nz rfl) (oF hT4_6 λa hf=>⟨am,(by first | omega | (dsimp only;omega)),(by first | omega | (dsimp only;omega)),hf.sb rfl,hm.pk [0,1,2,3,4,5] rfl rfl⟩))))
     refine tSh (ae5) (λa w=>∃ (an:Nat) (ao:Value),St 69 [(0,(pV bp0)),(2,(pV aC)),(3,(pV aB)),(4,(nV aA.2.2.2.2.2)),(5,(pV an)),(21,(pV aB)),(22,ao),(25,(.pointer (some ⟨aB,1,none⟩))),(30,(pV bp0))] w0 hz [blk bp0 [v1p,nV aA.1] 86,blk aC [.slice none 0 0] 25,blk aB [(pV bp0),.slice aF aA.2.1.length aG,aE,nV aA.2.2.2.1,nV aA.2.2.2.2.1] 109,ow [.slice aF aA.2.1.length aG] aA.2.1,opt (.slice none 0 0) ([]:List Str) aE aA.2.2.1,blk an [(tV (mkS [])),.slice none 0 0,.slice none 0 0] 45,ow [ao] ([(mkS [102]),(mkS [103]),(mkS [104])]:List Str)] a w) ?_ λhT4_14=>?_
     ·rintro a w ⟨an,ao,hf,hm⟩
      refine gv hf (tMo ?_ ?_)
      ·exact tY rfl (yL hm 2 isAgg23 rfl) (tAn rfl (tP rfl (λw=>yV nz rfl) (oF hT4_7 λa hf=>⟨an,ao,(by first | omega | (dsimp only;omega)),(by first | omega | (dsimp only;omega)),hf.sb rfl,hm.pk [0,1,2,3,4,5,6] rfl rfl⟩)))
      refine tO ?_
      obtain ⟨aP,hle,hm1,hsub,aQ⟩:=hm.take2 (L1:=[_]) (L2:=[_,_,_,_,_,_]) [0] [1,2,3,4,5,6] (by decide) rfl rfl
      refine tf rfl rfl (λa hf=>lK hf rfl call39 rfl (ka _ aP (⟨r_.b,aA.1⟩:kR) bp0 v1p (GT.mono hle h1p) 3 hm1  _ aS)) ?_
      rintro aZ w ⟨rfl,hB⟩
      replace hm:=aQ _ _ hB;clear hB
      exact tAn rfl (oF hT4_11 λa hf=>⟨an,ao,hf.sb rfl,hm.pk [0,1,2,3,4,5,6] rfl rfl⟩)
     refine tSh (ad9) (λa w=>∃ (aq:Value),St 69 [(0,(pV bp0)),(2,(pV aC)),(3,(pV aB)),(4,(nV aA.2.2.2.2.2)),(21,(pV aB)),(22,aq),(25,(.pointer (some ⟨aB,1,none⟩))),(31,(nV aJ.1))] w0 hz [blk bp0 [v1p,nV aJ.2.p] 86,blk aC [.slice none 0 0] 25,blk aB [(pV bp0),.slice aF aA.2.1.length aG,aE,nV aA.2.2.2.1,nV aA.2.2.2.2.1] 109,ow [.slice aF aA.2.1.length aG] aA.2.1,opt (.slice none 0 0) ([]:List Str) aE aA.2.2.1,ow [aq] ([(mkS [102]),(mkS [103]),(mkS [104])]:List Str)] a w) ?_ λhT4_15=>?_
     ·rintro a w ⟨aq,hf,hm⟩
      refine gv hf (tMo ?_ ?_)
      ·exact tY rfl (yL hm 2 isAgg23 rfl) (tAn rfl (tP rfl (λw=>yV nz rfl) (oF hT4_8 λa hf=>⟨aq,(by first | omega | (dsimp only;omega)),(by first | omega | (dsimp only;omega)),hf.sb rfl,hm.pk [0,1,2,3,4,5] rfl rfl⟩)))
      refine tO (tf rfl rfl (λa hf=>mb hm zeroValue45 rfl rfl) ?_)
      rintro _ w ⟨aL,rfl,hm⟩
      exact tAn rfl (oF hT4_11 λa hf=>⟨aL,aq,hf.sb rfl,hm.pk [1,2,3,4,5,0,6] rfl rfl⟩)
     refine tMo ?_ ?_
     ·refine tf rfl rfl (fun a hf => kS (vs := #[(0, (tV (mkS [102]))), (1, (tV (mkS [103]))), (2, (tV (mkS [104])))]) (cs := [(tV (mkS [102])), (tV (mkS [103])), (tV (mkS [104]))]) ox hf hm rfl rfl (by kernel_rfl) rfl rfl) ?_
      rintro _ w ⟨aL,rfl,hm⟩
      replace hm:=hm.lit (xs:=([(mkS [102]),(mkS [103]),(mkS [104])]:List Str)) 0 rfl rfl rfl rfl
      refine tAn rfl (tMo ?_ ?_)
      ·exact tY rfl (yL hm 3 isAgg23 rfl) (tAn rfl (tP rfl (λw=>yV nz rfl) (oF hT4_12 λa hf=>⟨sV aL 0 3 3,(by first | omega | (dsimp only;omega)),(by first | omega | (dsimp only;omega)),hf.sb rfl,hm.pk [1,2,3,4,5,0] rfl rfl⟩)))
      refine tMo ?_ ?_
      ·obtain ⟨aP, hle, hm1, hsub, aQ⟩ := hm.take2 (L1 := [_]) (L2 := [_, _, _, _, _]) [1] [0, 2, 3, 4, 5] (by decide) rfl rfl
       refine tf rfl rfl (λa hf=>lK hf rfl call39 rfl (ka _ aP (⟨r_.b,aA.1⟩:kR) bp0 v1p (GT.mono hle h1p) 3 hm1  _ aS)) ?_
       rintro aZ w ⟨rfl,hB⟩
       replace hm:=aQ _ _ hB;clear hB
       exact tAn rfl (oF hT4_15 λa hf=>⟨sV aL 0 3 3,hf.sb rfl,hm.pk [0,2,3,4,5,1] rfl rfl⟩)
      refine tO (tf rfl rfl (λa hf=>mb hm zeroValue45 rfl rfl) ?_)
      rintro _ w ⟨aU,rfl,hm⟩
      exact tAn rfl (oF hT4_14 λa hf=>⟨aU,sV aL 0 3 3,hf.sb rfl,hm.pk [2,3,4,5,6,0,1] rfl rfl⟩)
     refine tMo ?_ ?_
     ·refine tY rfl (yL hm 2 isAgg23 rfl) (tAn rfl (tP rfl (λw=>yV nz rfl) (tMo ?_ ?_)))
      ·refine tf rfl rfl (fun a hf => kS (vs := #[(0, (tV (mkS [102]))), (1, (tV (mkS [103]))), (2, (tV (mkS [104])))]) (cs := [(tV (mkS [102])), (tV (mkS [103])), (tV (mkS [104]))]) ox hf hm rfl rfl (by kernel_rfl) rfl rfl) ?_
       rintro _ w ⟨bb,rfl,hm⟩
       replace hm:=hm.lit (xs:=([(mkS [102]),(mkS [103]),(mkS [104])]:List Str)) 0 rfl rfl rfl rfl
       exact tAn rfl (oF hT4_12 λa hf=>⟨sV bb 0 3 3,(by first | omega | (dsimp only;omega)),(by first | omega | (dsimp only;omega)),hf.sb rfl,hm.pk [1,2,3,4,5,0] rfl rfl⟩)
      refine tMo ?_ ?_
      ·obtain ⟨b9, hle, hm1, hsub, ba⟩ := hm.take2 (L1 := [_]) (L2 := [_, _, _, _]) [0] [1, 2, 3, 4] (by decide) rfl rfl
       refine tf rfl rfl (λa hf=>lK hf rfl call39 rfl (ka _ b9 (⟨r_.b,aA.1⟩:kR) bp0 v1p (GT.mono hle h1p) 3 hm1  _ aS)) ?_
       rintro ai w ⟨rfl,hB⟩
       replace hm:=ba _ _ hB;clear hB
       exact tAn rfl (oF hT4_10 λa hf=>⟨(by first | omega | (dsimp only;omega)),(by first | omega | (dsimp only;omega)),hf.sb rfl,hm.pk [0,1,2,3,4] rfl rfl⟩)
      refine tO (tf rfl rfl (λa hf=>mb hm zeroValue45 rfl rfl) ?_)
      rintro _ w ⟨bL,rfl,hm⟩
      exact tAn rfl (oF hT4_9 λa hf=>⟨bL,(by first | omega | (dsimp only;omega)),(by first | omega | (dsimp only;omega)),hf.sb rfl,hm.pk [1,2,3,4,5,0] rfl rfl⟩)
     refine tMo ?_ ?_
     ·obtain ⟨bc, hle, hm1, hsub, bd⟩ := hm.take2 (L1 := [_]) (L2 := [_, _, _, _]) [0] [1, 2, 3, 4] (by decide) rfl rfl
      refine tf rfl rfl (λa hf=>lK hf rfl call39 rfl (ka _ bc (⟨r_.b,aA.1⟩:kR) bp0 v1p (GT.mono hle h1p) 3 hm1  _ aS)) ?_
      rintro aj w ⟨rfl,hB⟩
      replace hm:=bd _ _ hB;clear hB
      refine tAn rfl (tMo ?_ ?_)
      ·refine tf rfl rfl (fun a hf => kS (vs := #[(0, (tV (mkS [102]))), (1, (tV (mkS [103]))), (2, (tV (mkS [104])))]) (cs := [(tV (mkS [102])), (tV (mkS [103])), (tV (mkS [104]))]) ox hf hm rfl rfl (by kernel_rfl) rfl rfl) ?_
       rintro _ w ⟨cK,rfl,hm⟩
       replace hm:=hm.lit (xs:=([(mkS [102]),(mkS [103]),(mkS [104])]:List Str)) 0 rfl rfl rfl rfl
       exact tAn rfl (oF hT4_15 λa hf=>⟨sV cK 0 3 3,hf.sb rfl,hm.pk [1,2,3,4,5,0] rfl rfl⟩)
      refine tMo ?_ ?_
      ·exact tY rfl (yL hm 2 isAgg23 rfl) (tAn rfl (tP rfl (λw=>yV nz rfl) (oF hT4_10 λa hf=>⟨(by first | omega | (dsimp only;omega)),(by first | omega | (dsimp only;omega)),hf.sb rfl,hm.pk [0,1,2,3,4] rfl rfl⟩)))
      refine tO (tf rfl rfl (λa hf=>mb hm zeroValue45 rfl rfl) ?_)
      rintro _ w ⟨cL,rfl,hm⟩
      exact tAn rfl (oF hT4_13 λa hf=>⟨cL,hf.sb rfl,hm.pk [1,2,3,4,5,0] rfl rfl⟩)
     refine tO (tf rfl rfl (λa hf=>mb hm zeroValue45 rfl rfl) ?_)
     rintro _ w ⟨be,rfl,hm⟩
     refine tAn rfl (tMo ?_ ?_)
     ·refine tf rfl rfl (fun a hf => kS (vs := #[(0, (tV (mkS [102]))), (1, (tV (mkS [103]))), (2, (tV (mkS [104])))]) (cs := [(tV (mkS [102])), (tV (mkS [103])), (tV (mkS [104]))]) ox hf hm rfl rfl (by kernel_rfl) rfl rfl) ?_
      rintro _ w ⟨cN,rfl,hm⟩
      replace hm:=hm.lit (xs:=([(mkS [102]),(mkS [103]),(mkS [104])]:List Str)) 0 rfl rfl rfl rfl
      exact tAn rfl (oF hT4_14 λa hf=>⟨be,sV cN 0 3 3,hf.sb rfl,hm.pk [2,3,4,5,6,1,0] rfl rfl⟩)
     refine tMo ?_ ?_
     ·exact tY rfl (yL hm 3 isAgg23 rfl) (tAn rfl (tP rfl (λw=>yV nz rfl) (oF hT4_9 λa hf=>⟨be,(by first | omega | (dsimp only;omega)),(by first | omega | (dsimp only;omega)),hf.sb rfl,hm.pk [1,2,3,4,5,0] rfl rfl⟩)))
     refine tO ?_
     obtain ⟨cO,hle,hm1,hsub,cP⟩:=hm.take2 (L1:=[_]) (L2:=[_,_,_,_,_]) [1] [0,2,3,4,5] (by decide) rfl rfl
     refine tf rfl rfl (λa hf=>lK hf rfl call39 rfl (ka _ cO (⟨r_.b,aA.1⟩:kR) bp0 v1p (GT.mono hle h1p) 3 hm1  _ aS)) ?_
     rintro bE w ⟨rfl,hB⟩
     replace hm:=cP _ _ hB;clear hB
     exact tAn rfl (oF hT4_13 λa hf=>⟨be,hf.sb rfl,hm.pk [0,2,3,4,5,1] rfl rfl⟩)
    repeat clear hm
    rintro aH a w ⟨af,bU,aV,aX,hf,hm⟩
    refine gv hf (gJg (λbf a w=>∃ (bM:Value),St 69 [(0,(pV bp0)),(2,(pV aC)),(3,(pV aB)),(4,(nV aA.2.2.2.2.2))] w0 hz [blk bp0 [v1p,nV aH.1] 86,blk aC [.slice none 0 0] 25,blk aB [(pV bp0),bM,af,nV aH.2.2.1,nV aH.2.2.2.1] 109,ow [bM] bf,opt (.slice none 0 0) ([]:List Str) af aH.2.1] a w) (λbf=>?_) ?_)
    ·refine gW (.p 0 (.p 1 (.p 2 (.p 3 (.q 5 (.e 4 (.e 6 (.e 7 (.p 8 (.p 9 (.e 10 .fin .nil))) .nil) .nil) (.e 6 (.e 4 (.e 7 (.p 8 (.p 9 (.e 10 .fin .nil))) .nil) .nil) .nil))))))) [4] [0, 1, 2, 3, 8, 9] hm [0, 1, 2, 3, 4, 5] [_, _, _, _, _, _] rfl mxo (by kernel_rfl) (fun _ _ _ h => h.2) fun w hm hS => tP rfl (fun w => yM rfl) (tP rfl (fun w => yM rfl) (tP rfl (fun w => yG rfl (kj rfl rfl)) (tP rfl (fun w => yF rn rfl) (tQ rfl hS (fun w hm => yn (hm.blk_at 5 rfl) isAgg45 sizeOf45 rfl) (gb fun dg bt => tMo ?_ ?_)))))
     ·refine tY rfl (yL hm 2 isAgg23 rfl) (tAs hS (tO (tf rfl rfl (fun a hf => kS (vs := #[(0, (.agg #[(tV aH.2.2.2.2.1), aV, aX]))]) (cs := [(tV aH.2.2.2.2.1), aV, aX]) mn hf hm rfl rfl (by kernel_rfl) rfl rfl) ?_)))
      rintro _ w ⟨dh,rfl,hm⟩
      replace hm:=hm.els_nil (α:=Fn_)
      replace hm:=(rY aH.2.2.2.2.1 hm 8 9 rfl).pk (L':=[_,_,_,_,_,_,_,_,_]) [0,1,2,3,4,5,6,7,8] rfl rfl
      replace hm:=(hm.els_cons 0 8 (by decide) rfl rfl).pk (L':=[_,_,_,_,_,_,_,_]) [0,1,2,3,4,5,6,7] rfl rfl
      replace hm:=(hm.lit_els 1 0 (by decide) rfl rfl rfl rfl).pk (L':=[_,_,_,_,_,_,_]) [1,2,3,4,5,6,7] rfl rfl
      refine tAn rfl (tO ?_)
      obtain ⟨cQ,cR⟩:=kb.1 bt
      replace hm:=(hm.both 4 0 (by decide) rfl rfl).pk (L':=[_,_,_,_,_,_]) [1,2,3,4,5,6] rfl rfl
      refine tf rfl rfl (λa hf=>lp (xs:=aA.2.1) (ys:=([(⟨aH.2.2.2.2.1,aH.2.2.2.2.2.1,aH.2.2.2.2.2.2⟩:Fn_)]:List Fn_)) 3 mn hf hm rfl rfl rfl rfl cQ) ?_
      rintro cS w hm
      rw [cR] at hm
      refine tAn rfl (tP rfl (λw=>yG rfl (kj rfl rfl)) (tP rfl (λw=>yF rn rfl) (tO (tf0 rfl rfl (λa hf=>nP 2 hf hm rfl sizeOf23 rfl rfl rfl (ki (hm.ow_rep 3 rfl)) rfl) ?_))))
      rintro _ w hm
      exact tAn rfl (tE (gZ λa hf=>⟨cS,hf.sb rfl,hm.pk [0,1,2,3,4] rfl rfl⟩))
     refine tO (tf rfl rfl (λa hf=>kS (vs:=#[(0,(.agg #[(tV aH.2.2.2.2.1),aV,aX]))]) (cs:=[(tV aH.2.2.2.2.1),aV,aX]) mn hf hm rfl rfl (by kernel_rfl) rfl rfl) ?_)
     rintro _ w ⟨di,rfl,hm⟩
     replace hm:=hm.els_nil (α:=Fn_)
     replace hm:=(rY aH.2.2.2.2.1 hm 8 9 rfl).pk (L':=[_,_,_,_,_,_,_,_,_]) [0,1,2,3,4,5,6,7,8] rfl rfl
     replace hm:=(hm.els_cons 0 8 (by decide) rfl rfl).pk (L':=[_,_,_,_,_,_,_,_]) [0,1,2,3,4,5,6,7] rfl rfl
     replace hm:=(hm.lit_els 1 0 (by decide) rfl rfl rfl rfl).pk (L':=[_,_,_,_,_,_,_]) [1,2,3,4,5,6,7] rfl rfl
     refine tAn rfl (tO (tY rfl (yL hm 3 isAgg23 rfl) (tAk hm [1,2,3,4,5,6] rfl λhS=>tO ?_)))
     obtain ⟨cT,cU⟩:=kb.1 bt
     replace hm:=(hm.both 4 0 (by decide) rfl rfl).pk (L':=[_,_,_,_,_,_]) [1,2,3,4,5,6] rfl rfl
     refine tf rfl rfl (λa hf=>lp (xs:=aA.2.1) (ys:=([(⟨aH.2.2.2.2.1,aH.2.2.2.2.2.1,aH.2.2.2.2.2.2⟩:Fn_)]:List Fn_)) 3 mn hf hm rfl rfl rfl rfl cT) ?_
     rintro cV w hm
     rw [cU] at hm
     refine tAn rfl (tP rfl (λw=>yG rfl (kj rfl rfl)) (tP rfl (λw=>yF rn rfl) (tO (tf0 rfl rfl (λa hf=>nP 2 hf hm rfl sizeOf23 rfl rfl rfl (ki (hm.ow_rep 3 rfl)) rfl) ?_))))
     rintro _ w hm
     exact tAn rfl (tE (gZ λa hf=>⟨cV,hf.sb rfl,hm.pk [0,1,2,3,4] rfl rfl⟩))
    repeat clear hm
    rintro bf a w ⟨bM,hf,hm⟩
    exact gv hf (gR (gM rfl (gB rfl (gA rfl (gE (gZe λa hf=>⟨bM,af,hf.sb rfl,hm.pk [0,1,2,3,4] rfl rfl⟩))))))
   exact gcf rfl (gXt (gHh (gLp cI cH (gZ λa hf=>⟨ae,aE,hf.sb rfl,hm.pk [0,1,2,3,4] rfl rfl⟩))))
  repeat clear hm
  rintro aI a w ⟨aw,ax,hf,hm⟩
  refine gv hf (gS (gR (gM rfl (gM rfl (gf rfl (λa hf=>kS (vs:=#[(0,(nV 0)),(1,(nV 1)),(2,(nV 2)),(3,(nV 1))]) (cs:=[nV 0,nV 1,nV 2,nV 1]) rp hf hm rfl rfl (by kernel_rfl) rfl rfl) ?_)))))
  rintro _ w ⟨cW,rfl,hm⟩
  replace hm:=hm.lit (xs:=([0,1,2,1]:List Int)) 0 rfl rfl rfl rfl
  obtain ⟨cX,hle,hm1,hsub,cY⟩:=hm.take2 (L1:=[_]) (L2:=[_,_,_,_,_]) [1] [0,2,3,4,5] (by decide) rfl rfl
  refine gCg rfl call53 (lA _ cX (⟨r_.b,aI.1⟩:kR) bp0 v1p (GT.mono hle h1p) ([0,1,2,1]:List Int) (sV cW 0 4 4) (mY (hsub 0 _ rfl)) hm1 ) ?_
  rintro bu dk dl w ⟨rfl,hB⟩
  replace hm:=cY _ _ hB;clear hB
  obtain ⟨cZ,hle,hm1,hsub,c8⟩:=hm.take2 (L1:=[_,_]) (L2:=[_,_,_,_]) [3,0] [1,2,4,5] (by decide) rfl rfl
  refine gCg rfl call76 (qv _ cZ (⟨aI.2.1,aI.2.2.1,aI.2.2.2.1,aI.2.2.2.2⟩:lG) bp0 aB aw (mY (hsub 2 _ rfl)) ax (tr hle pU (hsub 3 _ rfl)) (⟨r_.b,bu.2.p⟩:kR) v1p (GT.mono hle h1p) (mkS [109]) bu.1 hm1 ) ?_
  rintro aD dm dp w ⟨aM,aN,dq,rfl,hB⟩
  replace hm:=c8 _ _ hB;clear hB
  replace hm:=(hm.opt_comp 8 4 (by decide) rfl rfl).pk (L':=[_,_,_,_,_,_,_,_]) [0,1,2,3,5,6,7,8] rfl rfl
  refine gAl hm zeroValue45 rfl λdr w hm=>gSN hm 0 sizeOf45 (kL rfl (kL (ki (hm.ow_rep 3 rfl)) (kL (ki (hm.ow_rep 4 rfl)) ke))) rfl λw hm=>gE (gS (gJg (λar a w=>∃ (bN:Nat) (aa:Value),St 69 [(2,(pV aC)),(7,(pV bN))] w0 hz [blk aC [.slice none 0 0] 25,blk bN [aa] 25,ow [aa] ar,blk bp0 [v1p,nV aD.2.2.p] 86] a w) (λar=>?_) ?_))
  ·refine gW (.p 1 (.p 2 (.p 3 (.q 4 (.q 6 (.e 0 (.e 5 (.e 7 ar7 (.e 10 (.e 7 u9 .nil) .nil)) (.e 7 ar9 (.e 10 aq9 .nil))) (.e 7 (.e 0 ar9 (.e 10 as5 .nil)) (.e 10 (.e 0 aq9 (.e 7 as5 .nil)) .nil)))))))) [0, 4, 5, 6, 7, 10] [1, 2, 3, 9] hm [0, 1, 2, 5, 6, 8] [_, _, _, _, _, _] rfl mxo (by kernel_rfl) (fun _ _ _ h => h.2) fun w hm hS => tP rfl (fun w => yM rfl) (tP rfl (fun w => yG rfl (kj rfl rfl)) (tP rfl (fun w => yF rn rfl) (tQ rfl hS (fun w hm => yL hm 1 isAgg23 rfl) (tQ rfl hS (fun w hm => yn (hm.blk_at 0 rfl) isAgg45 sizeOf45 rfl) (gb fun au aT => gb fun aR bO => tSh ((.e 11 .fin .nil)) (fun a w => ∃ (bP : Nat) (bQ : Value), St 69 [(2, (pV aC)), (7, (pV bP)), (57, (.agg #[bQ]))] w0 hz [blk aC [.slice none 0 0] 25, blk bP [.slice none 0 0] 25, ow [bQ] aR, blk bp0 [v1p, nV aD.2.2.p] 86] a w) ?_ fun hT2_1 => ?_)))))
   ·rintro a w ⟨bP,bQ,hf,hm⟩
    refine gv hf (tO (tf0 rfl rfl (λa hf=>nH 1 hf hm rfl sizeOf25 rfl rfl rfl (kL (ki (hm.ow_rep 2 rfl)) ke) rfl rfl) ?_))
    rintro _ w hm
    exact tAn rfl (tE (gZ λa hf=>⟨bP,bQ,hf.sb rfl,hm.pk [0,1,2,3] rfl rfl⟩))
   refine tSh (u9) (λa w=>∃ (bR:Nat) (bg bh:Value),St 69 [(2,(pV aC)),(7,(pV bR)),(53,bg),(55,bh)] w0 hz [blk aC [.slice none 0 0] 25,blk bR [.slice none 0 0] 25,ow [bg] au,ow [bh] ([aD.1]:List Fn_),blk bp0 [v1p,nV aD.2.2.p] 86] a w) ?_ λhT2_2=>?_
   ·rintro a w ⟨bR,bg,bh,hf,hm⟩
    refine gv hf (tO ?_)
    obtain ⟨bi,bj⟩:=kb.1 bO
    replace hm:=(hm.both 2 3 (by decide) rfl rfl).pk (L':=[_,_,_,_]) [0,1,2,4] rfl rfl
    refine tf rfl rfl (λa hf=>lp (xs:=au) (ys:=([aD.1]:List Fn_)) 2 mn hf hm rfl rfl rfl rfl bi) ?_
    rintro c9 w hm
    rw [bj] at hm
    refine tAn rfl ?_
    obtain ⟨ab,ac,rfl,ca⟩:=kT (hm.ow_rep 2 rfl)
    exact tP rfl (λw=>yG rfl (kr (vs:=[(0,(.slice ab aR.length ac))]) (cs:=#[.slice ab aR.length ac]) rfl rfl (by kernel_rfl))) (oF hT2_1 λa hf=>⟨bR,.slice ab aR.length ac,hf.sb rfl,hm.pk [0,1,2,3] rfl rfl⟩)
   refine tMo ?_ ?_
   ·refine tf rfl rfl (λa hf=>nZ (α:=Fn_) mn hm rfl) ?_
    rintro c9 w hm
    refine tAk hm [1,2,3,6,7,9] rfl λhS=>tMo ?_ ?_
    ·obtain ⟨bi,bj⟩:=kb.1 aT
     replace hm:=(hm.both 0 8 (by decide) rfl rfl).pk (L':=[_,_,_,_,_,_,_,_,_]) [0,1,2,3,4,5,6,7,9] rfl rfl
     refine tf rfl rfl (λa hf=>lp (xs:=([]:List Fn_)) (ys:=aI.2.1) 0 mn hf hm rfl rfl rfl rfl bi) ?_
     rintro bv w hm
     rw [bj] at hm
     refine tAk hm [1,2,3,6,7,8] rfl λhS=>tMo ?_ ?_
     ·refine tf rfl rfl (fun a hf => kS (vs := #[(0, (.agg #[(tV aD.1.name), aM, aN]))]) (cs := [(tV aD.1.name), aM, aN]) mn hf hm rfl rfl (by kernel_rfl) rfl rfl) ?_
      rintro _ w ⟨cb,rfl,hm⟩
      replace hm:=hm.els_nil (α:=Fn_)
      replace hm:=(rY aD.1.name hm 6 7 rfl).pk (L':=[_,_,_,_,_,_,_,_,_,_]) [0,1,2,3,4,5,6,8,9,10] rfl rfl
      replace hm:=(hm.els_cons 0 6 (by decide) rfl rfl).pk (L':=[_,_,_,_,_,_,_,_,_]) [0,1,2,3,4,5,7,8,9] rfl rfl
      replace hm:=(hm.lit_els 1 0 (by decide) rfl rfl rfl rfl).pk (L':=[_,_,_,_,_,_,_,_]) [1,2,3,4,5,6,7,8] rfl rfl
      refine tAk hm [2,3,4,5,6,7] rfl λhS=>tMo ?_ ?_
      ·obtain ⟨cc,cd⟩:=kb.1 bO
       replace hm:=(hm.both 1 0 (by decide) rfl rfl).pk (L':=[_,_,_,_,_,_,_]) [1,2,3,4,5,6,7] rfl rfl
       refine tf rfl rfl (λa hf=>lp (xs:=au) (ys:=([aD.1]:List Fn_)) 0 mn hf hm rfl rfl rfl rfl cc) ?_
       rintro dt w hm
       rw [cd] at hm
       refine tAn rfl ?_
       obtain ⟨ab,ac,rfl,ca⟩:=kT (hm.ow_rep 0 rfl)
       refine tP rfl (λw=>yG rfl (kr (vs:=[(0,(.slice ab aR.length ac))]) (cs:=#[.slice ab aR.length ac]) rfl rfl (by kernel_rfl))) (tO (tf rfl rfl (λa hf=>mb hm zeroValue25 rfl rfl) ?_))
       rintro _ w ⟨ce,rfl,hm⟩
       exact tAk hm [2,3,4,5,6,7] rfl λhS=>oF hT2_1 λa hf=>⟨ce,.slice ab aR.length ac,hf.sb rfl,hm.pk [6,0,1,4] rfl rfl⟩
      refine tO (tf rfl rfl (λa hf=>mb hm zeroValue25 rfl rfl) ?_)
      rintro _ w ⟨cf,rfl,hm⟩
      exact tAk hm [3,4,5,6,7,8] rfl λhS=>oF hT2_2 λa hf=>⟨cf,bv,sV cb 0 1 1,hf.sb rfl,hm.pk [7,0,2,1,5] rfl rfl⟩
     refine tO (tf rfl rfl (λa hf=>mb hm zeroValue25 rfl rfl) ?_)
     rintro _ w ⟨cg,rfl,hm⟩
     refine tAk hm [2,3,4,7,8,9] rfl λhS=>tO (tf rfl rfl (λa hf=>kS (vs:=#[(0,(.agg #[(tV aD.1.name),aM,aN]))]) (cs:=[(tV aD.1.name),aM,aN]) mn hf hm rfl rfl (by kernel_rfl) rfl rfl) ?_)
     rintro _ w ⟨cj,rfl,hm⟩
     replace hm:=hm.els_nil (α:=Fn_)
     replace hm:=(rY aD.1.name hm 7 8 rfl).pk (L':=[_,_,_,_,_,_,_,_,_,_,_]) [0,1,2,3,4,5,6,7,9,10,11] rfl rfl
     replace hm:=(hm.els_cons 0 7 (by decide) rfl rfl).pk (L':=[_,_,_,_,_,_,_,_,_,_]) [0,1,2,3,4,5,6,8,9,10] rfl rfl
     replace hm:=(hm.lit_els 1 0 (by decide) rfl rfl rfl rfl).pk (L':=[_,_,_,_,_,_,_,_,_]) [1,2,3,4,5,6,7,8,9] rfl rfl
     exact tAk hm [3,4,5,6,7,8] rfl λhS=>oF hT2_2 λa hf=>⟨cg,bv,sV cj 0 1 1,hf.sb rfl,hm.pk [7,1,2,0,5] rfl rfl⟩
    refine tMo ?_ ?_
    ·refine tf rfl rfl (fun a hf => kS (vs := #[(0, (.agg #[(tV aD.1.name), aM, aN]))]) (cs := [(tV aD.1.name), aM, aN]) mn hf hm rfl rfl (by kernel_rfl) rfl rfl) ?_
     rintro _ w ⟨bw,rfl,hm⟩
     replace hm:=hm.els_nil (α:=Fn_)
     replace hm:=(rY aD.1.name hm 6 7 rfl).pk (L':=[_,_,_,_,_,_,_,_,_,_,_]) [0,1,2,3,4,5,6,8,9,10,11] rfl rfl
     replace hm:=(hm.els_cons 0 6 (by decide) rfl rfl).pk (L':=[_,_,_,_,_,_,_,_,_,_]) [0,1,2,3,4,5,7,8,9,10] rfl rfl
     replace hm:=(hm.lit_els 1 0 (by decide) rfl rfl rfl rfl).pk (L':=[_,_,_,_,_,_,_,_,_]) [1,2,3,4,5,6,7,8,9] rfl rfl
     refine tAk hm [2,3,4,5,6,8] rfl λhS=>tMo ?_ ?_
     ·obtain ⟨ck,cl⟩:=kb.1 aT
      replace hm:=(hm.both 1 7 (by decide) rfl rfl).pk (L':=[_,_,_,_,_,_,_,_]) [0,1,2,3,4,5,6,8] rfl rfl
      refine tf rfl rfl (λa hf=>lp (xs:=([]:List Fn_)) (ys:=aI.2.1) 1 mn hf hm rfl rfl rfl rfl ck) ?_
      rintro cm w hm
      rw [cl] at hm
      refine tAk hm [2,3,4,5,6,7] rfl λhS=>tMo ?_ ?_
      ·obtain ⟨cn,co⟩:=kb.1 bO
       replace hm:=(hm.both 1 0 (by decide) rfl rfl).pk (L':=[_,_,_,_,_,_,_]) [1,2,3,4,5,6,7] rfl rfl
       refine tf rfl rfl (λa hf=>lp (xs:=au) (ys:=([aD.1]:List Fn_)) 0 mn hf hm rfl rfl rfl rfl cn) ?_
       rintro du w hm
       rw [co] at hm
       refine tAn rfl ?_
       obtain ⟨bk,bl,rfl,dv⟩:=kT (hm.ow_rep 0 rfl)
       refine tP rfl (λw=>yG rfl (kr (vs:=[(0,(.slice bk aR.length bl))]) (cs:=#[.slice bk aR.length bl]) rfl rfl (by kernel_rfl))) (tO (tf rfl rfl (λa hf=>mb hm zeroValue25 rfl rfl) ?_))
       rintro _ w ⟨cq,rfl,hm⟩
       exact tAk hm [2,3,4,5,6,7] rfl λhS=>oF hT2_1 λa hf=>⟨cq,.slice bk aR.length bl,hf.sb rfl,hm.pk [6,0,1,4] rfl rfl⟩
      refine tO (tf rfl rfl (λa hf=>mb hm zeroValue25 rfl rfl) ?_)
      rintro _ w ⟨cr,rfl,hm⟩
      exact tAk hm [3,4,5,6,7,8] rfl λhS=>oF hT2_2 λa hf=>⟨cr,cm,sV bw 0 1 1,hf.sb rfl,hm.pk [7,0,2,1,5] rfl rfl⟩
     refine tO (tf rfl rfl (λa hf=>mb hm zeroValue25 rfl rfl) ?_)
     rintro _ w ⟨ct,rfl,hm⟩
     refine tAk hm [3,4,5,6,7,9] rfl λhS=>tO ?_
     obtain ⟨cu,cv⟩:=kb.1 aT
     replace hm:=(hm.both 2 8 (by decide) rfl rfl).pk (L':=[_,_,_,_,_,_,_,_,_]) [0,1,2,3,4,5,6,7,9] rfl rfl
     refine tf rfl rfl (λa hf=>lp (xs:=([]:List Fn_)) (ys:=aI.2.1) 2 mn hf hm rfl rfl rfl rfl cu) ?_
     rintro cw w hm
     rw [cv] at hm
     exact tAk hm [3,4,5,6,7,8] rfl λhS=>oF hT2_2 λa hf=>⟨ct,cw,sV bw 0 1 1,hf.sb rfl,hm.pk [7,0,2,1,5] rfl rfl⟩
    refine tO (tf rfl rfl (λa hf=>mb hm zeroValue25 rfl rfl) ?_)
    rintro _ w ⟨bz,rfl,hm⟩
    refine tAk hm [2,3,4,7,8,10] rfl λhS=>tMo ?_ ?_
    ·obtain ⟨cx,cy⟩:=kb.1 aT
     replace hm:=(hm.both 1 9 (by decide) rfl rfl).pk (L':=[_,_,_,_,_,_,_,_,_,_]) [0,1,2,3,4,5,6,7,8,10] rfl rfl
     refine tf rfl rfl (λa hf=>lp (xs:=([]:List Fn_)) (ys:=aI.2.1) 1 mn hf hm rfl rfl rfl rfl cx) ?_
     rintro cz w hm
     rw [cy] at hm
     refine tAk hm [2,3,4,7,8,9] rfl λhS=>tO (tf rfl rfl (λa hf=>kS (vs:=#[(0,(.agg #[(tV aD.1.name),aM,aN]))]) (cs:=[(tV aD.1.name),aM,aN]) mn hf hm rfl rfl (by kernel_rfl) rfl rfl) ?_)
     rintro _ w ⟨dA,rfl,hm⟩
     replace hm:=hm.els_nil (α:=Fn_)
     replace hm:=(rY aD.1.name hm 7 8 rfl).pk (L':=[_,_,_,_,_,_,_,_,_,_,_]) [0,1,2,3,4,5,6,7,9,10,11] rfl rfl
     replace hm:=(hm.els_cons 0 7 (by decide) rfl rfl).pk (L':=[_,_,_,_,_,_,_,_,_,_]) [0,1,2,3,4,5,6,8,9,10] rfl rfl
     replace hm:=(hm.lit_els 1 0 (by decide) rfl rfl rfl rfl).pk (L':=[_,_,_,_,_,_,_,_,_]) [1,2,3,4,5,6,7,8,9] rfl rfl
     exact tAk hm [3,4,5,6,7,8] rfl λhS=>oF hT2_2 λa hf=>⟨bz,cz,sV dA 0 1 1,hf.sb rfl,hm.pk [7,1,2,0,5] rfl rfl⟩
    refine tO (tf rfl rfl (λa hf=>kS (vs:=#[(0,(.agg #[(tV aD.1.name),aM,aN]))]) (cs:=[(tV aD.1.name),aM,aN]) mn hf hm rfl rfl (by kernel_rfl) rfl rfl) ?_)
    rintro _ w ⟨dB,rfl,hm⟩
    replace hm:=hm.els_nil (α:=Fn_)
    replace hm:=(rY aD.1.name hm 7 8 rfl).pk (L':=[_,_,_,_,_,_,_,_,_,_,_,_]) [0,1,2,3,4,5,6,7,9,10,11,12] rfl rfl
    replace hm:=(hm.els_cons 0 7 (by decide) rfl rfl).pk (L':=[_,_,_,_,_,_,_,_,_,_,_]) [0,1,2,3,4,5,6,8,9,10,11] rfl rfl
    replace hm:=(hm.lit_els 1 0 (by decide) rfl rfl rfl rfl).pk (L':=[_,_,_,_,_,_,_,_,_,_]) [1,2,3,4,5,6,7,8,9,10] rfl rfl
    refine tAk hm [3,4,5,6,7,9] rfl λhS=>tO ?_
    obtain ⟨dC,dD⟩:=kb.1 aT
    replace hm:=(hm.both 2 8 (by decide) rfl rfl).pk (L':=[_,_,_,_,_,_,_,_,_]) [0,1,2,3,4,5,6,7,9] rfl rfl
    refine tf rfl rfl (λa hf=>lp (xs:=([]:List Fn_)) (ys:=aI.2.1) 2 mn hf hm rfl rfl rfl rfl dC) ?_
    rintro dE w hm
    rw [dD] at hm
    exact tAk hm [3,4,5,6,7,8] rfl λhS=>oF hT2_2 λa hf=>⟨bz,dE,sV dB 0 1 1,hf.sb rfl,hm.pk [7,1,2,0,5] rfl rfl⟩
   refine tMo ?_ ?_
   ·refine tf rfl rfl (fun a hf => kS (vs := #[(0, (.agg #[(tV aD.1.name), aM, aN]))]) (cs := [(tV aD.1.name), aM, aN]) mn hf hm rfl rfl (by kernel_rfl) rfl rfl) ?_
    rintro _ w ⟨bm,rfl,hm⟩
    replace hm:=hm.els_nil (α:=Fn_)
    replace hm:=(rY aD.1.name hm 5 6 rfl).pk (L':=[_,_,_,_,_,_,_,_,_,_]) [0,1,2,3,4,5,7,8,9,10] rfl rfl
    replace hm:=(hm.els_cons 0 5 (by decide) rfl rfl).pk (L':=[_,_,_,_,_,_,_,_,_]) [0,1,2,3,4,6,7,8,9] rfl rfl
    replace hm:=(hm.lit_els 1 0 (by decide) rfl rfl rfl rfl).pk (L':=[_,_,_,_,_,_,_,_]) [1,2,3,4,5,6,7,8] rfl rfl
    refine tAk hm [1,2,3,4,5,7] rfl λhS=>tMo ?_ ?_
    ·refine tf rfl rfl (λa hf=>nZ (α:=Fn_) mn hm rfl) ?_
     rintro dw w hm
     refine tAk hm [2,3,4,5,6,8] rfl λhS=>tMo ?_ ?_
     ·obtain ⟨dF,dG⟩:=kb.1 aT
      replace hm:=(hm.both 0 7 (by decide) rfl rfl).pk (L':=[_,_,_,_,_,_,_,_]) [0,1,2,3,4,5,6,8] rfl rfl
      refine tf rfl rfl (λa hf=>lp (xs:=([]:List Fn_)) (ys:=aI.2.1) 0 mn hf hm rfl rfl rfl rfl dF) ?_
      rintro dH w hm
      rw [dG] at hm
      refine tAk hm [2,3,4,5,6,7] rfl λhS=>tMo ?_ ?_
      ·obtain ⟨dI,dJ⟩:=kb.1 bO
       replace hm:=(hm.both 0 1 (by decide) rfl rfl).pk (L':=[_,_,_,_,_,_,_]) [0,2,3,4,5,6,7] rfl rfl
       refine tf rfl rfl (λa hf=>lp (xs:=au) (ys:=([aD.1]:List Fn_)) 0 mn hf hm rfl rfl rfl rfl dI) ?_
       rintro dx w hm
       rw [dJ] at hm
       refine tAn rfl ?_
       obtain ⟨bo,bp,rfl,dy⟩:=kT (hm.ow_rep 0 rfl)
       refine tP rfl (λw=>yG rfl (kr (vs:=[(0,(.slice bo aR.length bp))]) (cs:=#[.slice bo aR.length bp]) rfl rfl (by kernel_rfl))) (tO (tf rfl rfl (λa hf=>mb hm zeroValue25 rfl rfl) ?_))
       rintro _ w ⟨dK,rfl,hm⟩
       exact tAk hm [2,3,4,5,6,7] rfl λhS=>oF hT2_1 λa hf=>⟨dK,.slice bo aR.length bp,hf.sb rfl,hm.pk [6,0,1,4] rfl rfl⟩
      refine tO (tf rfl rfl (λa hf=>mb hm zeroValue25 rfl rfl) ?_)
      rintro _ w ⟨dL,rfl,hm⟩
      exact tAk hm [3,4,5,6,7,8] rfl λhS=>oF hT2_2 λa hf=>⟨dL,dH,sV bm 0 1 1,hf.sb rfl,hm.pk [7,0,1,2,5] rfl rfl⟩
     refine tO (tf rfl rfl (λa hf=>mb hm zeroValue25 rfl rfl) ?_)
     rintro _ w ⟨dM,rfl,hm⟩
     refine tAk hm [3,4,5,6,7,9] rfl λhS=>tO ?_
     obtain ⟨dN,dO⟩:=kb.1 aT
     replace hm:=(hm.both 1 8 (by decide) rfl rfl).pk (L':=[_,_,_,_,_,_,_,_,_]) [0,1,2,3,4,5,6,7,9] rfl rfl
     refine tf rfl rfl (λa hf=>lp (xs:=([]:List Fn_)) (ys:=aI.2.1) 1 mn hf hm rfl rfl rfl rfl dN) ?_
     rintro dP w hm
     rw [dO] at hm
     exact tAk hm [3,4,5,6,7,8] rfl λhS=>oF hT2_2 λa hf=>⟨dM,dP,sV bm 0 1 1,hf.sb rfl,hm.pk [7,0,1,2,5] rfl rfl⟩
    refine tO (tf rfl rfl (λa hf=>mb hm zeroValue25 rfl rfl) ?_)
    rintro _ w ⟨dQ,rfl,hm⟩
    refine tAk hm [2,3,4,5,6,8] rfl λhS=>tO (tf rfl rfl (λa hf=>nZ (α:=Fn_) mn hm rfl) ?_)
    rintro dz w hm
    refine tAk hm [3,4,5,6,7,9] rfl λhS=>tO ?_
    obtain ⟨dR,dS⟩:=kb.1 aT
    replace hm:=(hm.both 0 8 (by decide) rfl rfl).pk (L':=[_,_,_,_,_,_,_,_,_]) [0,1,2,3,4,5,6,7,9] rfl rfl
    refine tf rfl rfl (λa hf=>lp (xs:=([]:List Fn_)) (ys:=aI.2.1) 0 mn hf hm rfl rfl rfl rfl dR) ?_
    rintro dT w hm
    rw [dS] at hm
    exact tAk hm [3,4,5,6,7,8] rfl λhS=>oF hT2_2 λa hf=>⟨dQ,dT,sV bm 0 1 1,hf.sb rfl,hm.pk [7,1,0,2,5] rfl rfl⟩
   refine tO (tf rfl rfl (λa hf=>mb hm zeroValue25 rfl rfl) ?_)
   rintro _ w ⟨bq,rfl,hm⟩
   refine tAk hm [1,2,3,6,7,9] rfl λhS=>tMo ?_ ?_
   ·refine tf rfl rfl (λa hf=>nZ (α:=Fn_) mn hm rfl) ?_
    rintro eA w hm
    refine tAk hm [2,3,4,7,8,10] rfl λhS=>tMo ?_ ?_
    ·obtain ⟨dU,dV⟩:=kb.1 aT
     replace hm:=(hm.both 0 9 (by decide) rfl rfl).pk (L':=[_,_,_,_,_,_,_,_,_,_]) [0,1,2,3,4,5,6,7,8,10] rfl rfl
     refine tf rfl rfl (λa hf=>lp (xs:=([]:List Fn_)) (ys:=aI.2.1) 0 mn hf hm rfl rfl rfl rfl dU) ?_
     rintro dW w hm
     rw [dV] at hm
     refine tAk hm [2,3,4,7,8,9] rfl λhS=>tO (tf rfl rfl (λa hf=>kS (vs:=#[(0,(.agg #[(tV aD.1.name),aM,aN]))]) (cs:=[(tV aD.1.name),aM,aN]) mn hf hm rfl rfl (by kernel_rfl) rfl rfl) ?_)
     rintro _ w ⟨dX,rfl,hm⟩
     replace hm:=hm.els_nil (α:=Fn_)
     replace hm:=(rY aD.1.name hm 7 8 rfl).pk (L':=[_,_,_,_,_,_,_,_,_,_,_]) [0,1,2,3,4,5,6,7,9,10,11] rfl rfl
     replace hm:=(hm.els_cons 0 7 (by decide) rfl rfl).pk (L':=[_,_,_,_,_,_,_,_,_,_]) [0,1,2,3,4,5,6,8,9,10] rfl rfl
     replace hm:=(hm.lit_els 1 0 (by decide) rfl rfl rfl rfl).pk (L':=[_,_,_,_,_,_,_,_,_]) [1,2,3,4,5,6,7,8,9] rfl rfl
     exact tAk hm [3,4,5,6,7,8] rfl λhS=>oF hT2_2 λa hf=>⟨bq,dW,sV dX 0 1 1,hf.sb rfl,hm.pk [7,2,1,0,5] rfl rfl⟩
    refine tO (tf rfl rfl (λa hf=>kS (vs:=#[(0,(.agg #[(tV aD.1.name),aM,aN]))]) (cs:=[(tV aD.1.name),aM,aN]) mn hf hm rfl rfl (by kernel_rfl) rfl rfl) ?_)
    rintro _ w ⟨dY,rfl,hm⟩
    replace hm:=hm.els_nil (α:=Fn_)
    replace hm:=(rY aD.1.name hm 7 8 rfl).pk (L':=[_,_,_,_,_,_,_,_,_,_,_,_]) [0,1,2,3,4,5,6,7,9,10,11,12] rfl rfl
    replace hm:=(hm.els_cons 0 7 (by decide) rfl rfl).pk (L':=[_,_,_,_,_,_,_,_,_,_,_]) [0,1,2,3,4,5,6,8,9,10,11] rfl rfl
    replace hm:=(hm.lit_els 1 0 (by decide) rfl rfl rfl rfl).pk (L':=[_,_,_,_,_,_,_,_,_,_]) [1,2,3,4,5,6,7,8,9,10] rfl rfl
    refine tAk hm [3,4,5,6,7,9] rfl λhS=>tO ?_
    obtain ⟨dZ,d1⟩:=kb.1 aT
    replace hm:=(hm.both 1 8 (by decide) rfl rfl).pk (L':=[_,_,_,_,_,_,_,_,_]) [0,1,2,3,4,5,6,7,9] rfl rfl
    refine tf rfl rfl (λa hf=>lp (xs:=([]:List Fn_)) (ys:=aI.2.1) 1 mn hf hm rfl rfl rfl rfl dZ) ?_
    rintro d2 w hm
    rw [d1] at hm
    exact tAk hm [3,4,5,6,7,8] rfl λhS=>oF hT2_2 λa hf=>⟨bq,d2,sV dY 0 1 1,hf.sb rfl,hm.pk [7,2,1,0,5] rfl rfl⟩
   refine tO (tf rfl rfl (λa hf=>kS (vs:=#[(0,(.agg #[(tV aD.1.name),aM,aN]))]) (cs:=[(tV aD.1.name),aM,aN]) mn hf hm rfl rfl (by kernel_rfl) rfl rfl) ?_)
   rintro _ w ⟨d3,rfl,hm⟩
   replace hm:=hm.els_nil (α:=Fn_)
   replace hm:=(rY aD.1.name hm 6 7 rfl).pk (L':=[_,_,_,_,_,_,_,_,_,_,_]) [0,1,2,3,4,5,6,8,9,10,11] rfl rfl
   replace hm:=(hm.els_cons 0 6 (by decide) rfl rfl).pk (L':=[_,_,_,_,_,_,_,_,_,_]) [0,1,2,3,4,5,7,8,9,10] rfl rfl
   replace hm:=(hm.lit_els 1 0 (by decide) rfl rfl rfl rfl).pk (L':=[_,_,_,_,_,_,_,_,_]) [1,2,3,4,5,6,7,8,9] rfl rfl
   refine tAk hm [2,3,4,5,6,8] rfl λhS=>tO (tf rfl rfl (λa hf=>nZ (α:=Fn_) mn hm rfl) ?_)
   rintro eD w hm
   refine tAk hm [3,4,5,6,7,9] rfl λhS=>tO ?_
   obtain ⟨d4,d5⟩:=kb.1 aT
   replace hm:=(hm.both 0 8 (by decide) rfl rfl).pk (L':=[_,_,_,_,_,_,_,_,_]) [0,1,2,3,4,5,6,7,9] rfl rfl
   refine tf rfl rfl (λa hf=>lp (xs:=([]:List Fn_)) (ys:=aI.2.1) 0 mn hf hm rfl rfl rfl rfl d4) ?_
   rintro d6 w hm
   rw [d5] at hm
   exact tAk hm [3,4,5,6,7,8] rfl λhS=>oF hT2_2 λa hf=>⟨bq,d6,sV d3 0 1 1,hf.sb rfl,hm.pk [7,2,0,1,5] rfl rfl⟩
  repeat clear hm
  rintro ar a w ⟨bN,aa,hf,hm⟩
  refine gv hf (gS (gS (gR (gY (yn (hm.blk_at 1 rfl) isAgg25 sizeOf25 rfl) (gC hm rfl call23 (sE _ (⟨ar⟩:kp) aa (hm.ow_rep 2 rfl)) λeF eG w hm=>gN rfl (gE (gsn 60 rfl (λd7=>?_) λd7=>?_)))))))
  ·refine gct rfl (gS (gR (gY (yG rfl (kr (vs := [(0, (nV 1)), (1, (nV 1))]) (cs := #[nV 1, nV 1, (tV (mkS [])), .slice none 0 0]) rfl rfl (by kernel_rfl))) (gf rfl (fun a hf => kS (vs := #[(0, (.agg #[nV 1, nV 1, (tV (mkS [])), .slice none 0 0]))]) (cs := [nV 1, nV 1, (tV (mkS [])), .slice none 0 0]) na hf hm rfl rfl (by kernel_rfl) rfl rfl) ?_))))
   rintro _ w ⟨av,rfl,hm⟩
   replace hm:=hm.els_nil (α:=kK)
   replace hm:=hm.nilow (α:=kK)
   replace hm:Mem w0 hz _ [ow [nV 1,nV 1,(tV (mkS [])),.slice none 0 0] ((⟨1,1,(mkS []),[]⟩:kK):kK),els [] ([]:List kK),blk av [nV 1,nV 1,(tV (mkS [])),.slice none 0 0] 80,blk aC [.slice none 0 0] 25,blk bN [aa] 25,ow [aa] ar,blk bp0 [v1p,nV aD.2.2.p] 86]:=oY 1 1 (mkS []) hm 0 rfl
   replace hm:=(hm.els_cons 1 0 (by decide) rfl rfl).pk (L':=[_,_,_,_,_,_]) [1,2,3,4,5,6] rfl rfl
   replace hm:=(hm.lit_els 1 0 (by decide) rfl rfl rfl rfl).pk (L':=[_,_,_,_,_]) [1,2,3,4,5] rfl rfl
   refine gY (yG rfl (kr (vs:=[(0,(nV 3)),(2,(sV av 0 1 1))]) (cs:=#[nV 3,(tV (mkS [])),sV av 0 1 1,.slice none 0 0,.slice none 0 0]) rfl rfl (by kernel_rfl))) (gf rfl (λa hf=>kS (vs:=#[(0,(.agg #[nV 3,(tV (mkS [])),sV av 0 1 1,.slice none 0 0,.slice none 0 0]))]) (cs:=[nV 3,(tV (mkS [])),sV av 0 1 1,.slice none 0 0,.slice none 0 0]) mZ hf hm rfl rfl (by kernel_rfl) rfl rfl) ?_)
   rintro _ w ⟨bS,rfl,hm⟩
   replace hm:=hm.els_nil (α:=kN)
   replace hm:=hm.nilow (α:=kN)
   replace hm:=hm.nilow (α:=kN)
   replace hm:=(oX 3 (mkS []) hm 4 1 0 rfl).pk (L':=[_,_,_,_,_,_,_]) [2,3,4,5,6,7,8] rfl rfl
   replace hm:=(hm.els_cons 0 2 (by decide) rfl rfl).pk (L':=[_,_,_,_,_,_]) [0,1,3,4,5,6] rfl rfl
   replace hm:=(hm.lit_els 1 0 (by decide) rfl rfl rfl rfl).pk (L':=[_,_,_,_,_]) [1,2,3,4,5] rfl rfl
   refine gY (yG rfl (kr (vs:=[(0,(tV (mkS [109]))),(2,(sV bS 0 1 1))]) (cs:=#[(tV (mkS [109])),.slice none 0 0,sV bS 0 1 1]) rfl rfl (by kernel_rfl))) (gf rfl (λa hf=>kS (vs:=#[(0,(.agg #[(tV (mkS [109])),.slice none 0 0,sV bS 0 1 1]))]) (cs:=[(tV (mkS [109])),.slice none 0 0,sV bS 0 1 1]) mn hf hm rfl rfl (by kernel_rfl) rfl rfl) ?_)
   rintro _ w ⟨br,rfl,hm⟩
   replace hm:=hm.els_nil (α:=Fn_)
   replace hm:=hm.nilow (α:=Str)
   replace hm:=(rY (mkS [109]) hm 0 3 rfl).pk (L':=[_,_,_,_,_,_,_]) [0,1,2,4,5,6,7] rfl rfl
   replace hm:=(hm.els_cons 1 0 (by decide) rfl rfl).pk (L':=[_,_,_,_,_,_]) [1,2,3,4,5,6] rfl rfl
   replace hm:=(hm.lit_els 1 0 (by decide) rfl rfl rfl rfl).pk (L':=[_,_,_,_,_]) [1,2,3,4,5] rfl rfl
   exact gY (yG rfl (kr (vs:=[(0,(sV br 0 1 1))]) (cs:=#[sV br 0 1 1]) rfl rfl (by kernel_rfl))) (gSN hm 1 sizeOf25 (kL rfl ke) rfl λw hm=>gE (gRt (grc 1 results38 hm rfl isAgg25 sizeOf25 ⟨sV br 0 1 1,rfl,hm.pk [4,0] rfl rfl⟩)))
  exact gcf rfl (gSk (gS (gR (gY (yn (hm.blk_at 1 rfl) isAgg25 sizeOf25 rfl) (gSN hm 0 sizeOf25 (kL (ki (hm.ow_rep 2 rfl)) ke) rfl λw hm=>gE (gRt (grc 0 results38 hm rfl isAgg25 sizeOf25 ⟨aa,rfl,hm.pk [3,2] rfl rfl⟩)))))))
theorem tB (w0:World) (hz:kX) (r_:kR) (bp0:Nat) (v1p:Value) (h1p:GT.rep hz [v1p] r_.b) (deep:Int) (hm0:Mem w0 hz w0 [blk bp0 [v1p,nV r_.p] 86]) :
    mE Tryz.prog 52 [(pV bp0),nV deep] w0 (pj r_ deep) λr v w'=>∃ (x1:Value),v=(.agg #[nV r.1.op,nV r.1.n_,(tV r.1.name),x1])∧Mem w0 hz w' [blk bp0 [v1p,nV r.2.p] 86,ow [x1] r.1.kids]:=by
  unfold pj
  refine mR func52 rfl λr=>?_
  have hm:=hm0
  refine gS (gR (gAl hm zeroValue80 rfl λaG w hm=>gE (gS (gR (gM rfl (gf rfl (λa hf=>kS (vs:=#[(0,(tV (mkS [97]))),(1,(tV (mkS [98]))),(2,(tV (mkS [120]))),(3,(tV (mkS [103,111])))]) (cs:=[(tV (mkS [97])),(tV (mkS [98])),(tV (mkS [120])),(tV (mkS [103,111]))]) ox hf hm rfl rfl (by kernel_rfl) rfl rfl) ?_))))))
  rintro _ w ⟨aQ,rfl,hm⟩
  replace hm:=hm.lit (xs:=([(mkS [97]),(mkS [98]),(mkS [120]),(mkS [103,111])]:List Str)) 0 rfl rfl rfl rfl
  refine gM rfl ?_
  obtain ⟨aR,hle,hm1,hsub,aS⟩:=hm.take2 (L1:=[_]) (L2:=[_,_]) [2] [0,1] (by decide) rfl rfl
  refine gCg rfl call91 (p7 _ aR r_ bp0 v1p (GT.mono hle h1p) ([(mkS [97]),(mkS [98]),(mkS [120]),(mkS [103,111])]:List Str) (sV aQ 0 4 4) (mY (hsub 0 _ rfl)) deep hm1 ) ?_
  rintro aA av aw w ⟨aT,rfl,hB⟩
  replace hm:=aS _ _ hB;clear hB
  refine gAl hm zeroValue80 rfl λaH w hm=>gSN hm 0 sizeOf80 (kL rfl (kL rfl (kL rfl (kL (ki (hm.ow_rep 2 rfl)) ke)))) rfl λw hm=>gE (gS (gS (gR (gM rfl ?_))))
  obtain ⟨aU,hle,hm1,hsub,aV⟩:=hm.take2 (L1:=[_]) (L2:=[_,_,_,_]) [1] [0,2,3,4] (by decide) rfl rfl
  refine gCg rfl call39 (ka _ aU (⟨r_.b,aA.2.p⟩:kR) bp0 v1p (GT.mono hle h1p) 3 hm1 ) ?_
  rintro aX ax ay w ⟨rfl,hB⟩
  replace hm:=aV _ _ hB;clear hB
  refine gB rfl (gE (gsd 14 rfl (λaY=>?_) λaY=>?_))
  ·exact gct rfl (gS (gR (gY (yn (hm.blk_at 1 rfl) isAgg80 sizeOf80 rfl) (gSN hm 4 sizeOf80 (kL rfl (kL rfl (kL rfl (kL (ki (hm.ow_rep 2 rfl)) ke)))) rfl λw hm=>gE (gRt (grc 4 results52 hm rfl isAgg80 sizeOf80 ⟨aT,rfl,hm.pk [0,2] rfl rfl⟩))))))
  refine gcf rfl (gSk (gS (gR (gM rfl (gf rfl (λa hf=>kS (vs:=#[(0,(tV (mkS [102]))),(1,(tV (mkS [103]))),(2,(tV (mkS [97])))]) (cs:=[(tV (mkS [102])),(tV (mkS [103])),(tV (mkS [97]))]) ox hf hm rfl rfl (by kernel_rfl) rfl rfl) ?_)))))
  rintro _ w ⟨aZ,rfl,hm⟩
  replace hm:=hm.lit (xs:=([(mkS [102]),(mkS [103]),(mkS [97])]:List Str)) 0 rfl rfl rfl rfl
  obtain ⟨a8,hle,hm1,hsub,aa⟩:=hm.take2 (L1:=[_]) (L2:=[_,_,_,_,_]) [1] [0,2,3,4,5] (by decide) rfl rfl
  refine gCg rfl call40 (mv _ a8 (⟨r_.b,aX.2.p⟩:kR) bp0 v1p (GT.mono hle h1p) ([(mkS [102]),(mkS [103]),(mkS [97])]:List Str) (sV aZ 0 3 3) (mY (hsub 0 _ rfl)) hm1 ) ?_
  rintro aB az bA w ⟨rfl,hB⟩
  replace hm:=aa _ _ hB;clear hB
  refine gY (yG rfl (kr (vs:=[(0,(nV 13)),(2,(tV aB.1))]) (cs:=#[nV 13,nV 0,(tV aB.1),.slice none 0 0]) rfl rfl (by kernel_rfl))) (gAl hm zeroValue80 rfl λaI w hm=>gSN hm 0 sizeOf80 (kL rfl (kL rfl (kL rfl (kL rfl ke)))) rfl λw hm=>gE (gS (gS (gR (gM rfl ?_)))))
  obtain ⟨ab,hle,hm1,hsub,ac⟩:=hm.take2 (L1:=[_]) (L2:=[_,_,_,_,_,_]) [1] [0,2,3,4,5,6] (by decide) rfl rfl
  refine gCg rfl call39 (ka _ ab (⟨r_.b,aB.2.p⟩:kR) bp0 v1p (GT.mono hle h1p) 4 hm1 ) ?_
  rintro bB bC bD w ⟨rfl,hB⟩
  replace hm:=ac _ _ hB;clear hB
  refine gA rfl (gE ?_)
  obtain ⟨aC,aD,rfl,bE⟩:=kT (hm.ow_rep 4 rfl)
  refine gJg (λaL a w=>∃ (aF:Value),St 42 [(0,(pV bp0)),(4,(pV aG)),(5,(pV aH)),(6,(pV aI))] w0 hz [blk bp0 [v1p,nV aL.1] 86,blk aG [nV 0,nV 0,(tV (mkS [])),.slice none 0 0] 80,blk aH [nV aA.1.op,nV aA.1.n_,(tV aA.1.name),.slice aC aA.1.kids.length aD] 80,ow [.slice aC aA.1.kids.length aD] aA.1.kids,blk aI [nV 13,nV 0,(tV aB.1),aF] 80,ow [aF] aL.2] a w) (λaL=>?_) ?_
  ·refine gBk ?_
   replace hm:=hm.nilow (α:=kK)
   refine gMg (λaJ a w=>∃ (aK:Value),St 42 [(0,(pV bp0)),(4,(pV aG)),(5,(pV aH)),(6,(pV aI)),(7,(nV aJ.2.2))] w0 hz [blk bp0 [v1p,nV aJ.1] 86,blk aG [nV 0,nV 0,(tV (mkS [])),.slice none 0 0] 80,blk aH [nV aA.1.op,nV aA.1.n_,(tV aA.1.name),.slice aC aA.1.kids.length aD] 80,ow [.slice aC aA.1.kids.length aD] aA.1.kids,blk aI [nV 13,nV 0,(tV aB.1),aK] 80,ow [aK] aJ.2.1] a w) (λa hf=>⟨.slice none 0 0,hf.sb rfl,hm.pk [1,7,4,5,2,0] rfl rfl⟩) ?_
   repeat clear hm
   rintro bF ae aJ a w ⟨aK,hf,hm⟩ bG af
   refine gv hf (gS (gS (gR (gM rfl (gB rfl (gE (gsd 23 rfl (λag=>?_) λag=>?_)))))))
   ·refine gct rfl (gSk (gS (gBk (gW (.p 0 (.p 2 (.q 1 (.e 3 (.e 4 (.e 5 (.e 6 (.p 7 (.e 8 .fin .nil)) .nil) .nil) .nil) .nil)))) [3, 4, 5] [0, 2, 7] hm [1, 2, 3, 4, 5] [blk aG [nV 0, nV 0, (tV (mkS [])), .slice none 0 0] 80, blk aH [nV aA.1.op, nV aA.1.n_, (tV aA.1.name), .slice aC aA.1.kids.length aD] 80, ow [.slice aC aA.1.kids.length aD] aA.1.kids, blk aI [nV 13, nV 0, (tV aB.1), aK] 80, ow [aK] aJ.2.1] rfl mxo (by kernel_rfl) (fun _ _ _ h => h.2) fun w hm hS => tP rfl (fun w => yF mJ rfl) (tP rfl (fun w => yM rfl) (tQ rfl hS (fun w hm => yL hm 3 isAgg59 rfl) (tO (tf rfl rfl (fun a hf => kS (vs := #[(0, (tV (mkS [97]))), (1, (tV (mkS [98])))]) (cs := [(tV (mkS [97])), (tV (mkS [98]))]) ox hf hm rfl rfl (by kernel_rfl) rfl rfl) ?_))))))))
    rintro _ w ⟨aO,rfl,hm⟩
    replace hm:=hm.lit (xs:=([(mkS [97]),(mkS [98])]:List Str)) 0 rfl rfl rfl rfl
    refine tAk hm [2,3,4,5,6] rfl λhS=>tO (gb λaE ah=>?_)
    obtain ⟨ai,hle,hm1,hsub,aj⟩:=hm.take2 (L1:=[_]) (L2:=[_,_,_,_,_,_]) [1] [0,2,3,4,5,6] (by decide) rfl rfl
    refine tf rfl rfl (λa hf=>lK hf rfl call91 rfl (p7 _ ai (⟨r_.b,aJ.1⟩:kR) bp0 v1p (GT.mono hle h1p) ([(mkS [97]),(mkS [98])]:List Str) (sV aO 0 2 2) (mY (hsub 0 _ rfl)) 2 hm1  _ ah)) ?_
    rintro bH w ⟨aN,rfl,hB⟩
    replace hm:=aj _ _ hB;clear hB
    refine tAk hm [3,4,5,6,7] rfl λhS=>tO (tf rfl rfl (λa hf=>kS (vs:=#[(0,(.agg #[nV aE.1.op,nV aE.1.n_,(tV aE.1.name),aN]))]) (cs:=[nV aE.1.op,nV aE.1.n_,(tV aE.1.name),aN]) na hf hm rfl rfl (by kernel_rfl) rfl rfl) ?_)
    rintro _ w ⟨ak,rfl,hm⟩
    replace hm:=hm.els_nil (α:=kK)
    replace hm:Mem w0 hz _ [els [] ([]:List kK),blk ak [nV aE.1.op,nV aE.1.n_,(tV aE.1.name),aN] 80,blk bp0 [v1p,nV aE.2.p] 86,ow [nV aE.1.op,nV aE.1.n_,(tV aE.1.name),aN] (aE.1:kK),ow [sV aO 0 2 2] ([(mkS [97]),(mkS [98])]:List Str),blk aG [nV 0,nV 0,(tV (mkS [])),.slice none 0 0] 80,blk aH [nV aA.1.op,nV aA.1.n_,(tV aA.1.name),.slice aC aA.1.kids.length aD] 80,ow [.slice aC aA.1.kids.length aD] aA.1.kids,blk aI [nV 13,nV 0,(tV aB.1),aK] 80,ow [aK] aJ.2.1]:=ly aE.1 hm 3 rfl
    replace hm:=(hm.els_cons 0 3 (by decide) rfl rfl).pk (L':=[_,_,_,_,_,_,_,_,_]) [0,1,2,4,5,6,7,8,9] rfl rfl
    replace hm:=(hm.lit_els 1 0 (by decide) rfl rfl rfl rfl).pk (L':=[_,_,_,_,_,_,_,_]) [1,2,3,4,5,6,7,8] rfl rfl
    refine tAk hm [3,4,5,6,7] rfl λhS=>tO (gb λbJ al=>?_)
    obtain ⟨am,an⟩:=kb.1 al
    replace hm:=(hm.both 7 0 (by decide) rfl rfl).pk (L':=[_,_,_,_,_,_,_]) [1,2,3,4,5,6,7] rfl rfl
    refine tf rfl rfl (λa hf=>lp (xs:=aJ.2.1) (ys:=([aE.1]:List kK)) 6 na hf hm rfl rfl rfl rfl am) ?_
    rintro ao w hm
    rw [an] at hm
    refine tAn rfl (tP rfl (λw=>yF mJ rfl) (tO (tf0 rfl rfl (λa hf=>nP 5 hf hm rfl sizeOf59 rfl rfl rfl (ki (hm.ow_rep 6 rfl)) rfl) ?_)))
    rintro _ w hm
    exact tAn rfl (tE (gR (gM rfl (gB rfl (gA rfl (gE (gZe λa hf=>⟨ao,hf.sb rfl,hm.pk [0,2,3,4,5,6] rfl rfl⟩)))))))
   exact gcf rfl (gXt (gHh (gLp af ae (gZ λa hf=>⟨aK,hf.sb rfl,hm.pk [0,1,2,3,4,5] rfl rfl⟩))))
  repeat clear hm
  rintro aL a w ⟨aF,hf,hm⟩
  refine gv hf (gS (gS (gR (gM rfl ?_))))
  obtain ⟨aq,hle,hm1,hsub,ar⟩:=hm.take2 (L1:=[_]) (L2:=[_,_,_,_,_]) [0] [1,2,3,4,5] (by decide) rfl rfl
  refine gCg rfl call39 (ka _ aq (⟨r_.b,aL.1⟩:kR) bp0 v1p (GT.mono hle h1p) 2 hm1 ) ?_
  rintro aP bK bL w ⟨rfl,hB⟩
  replace hm:=ar _ _ hB;clear hB
  refine gB rfl (gE (gsd 36 rfl (λau=>?_) λau=>?_))
  ·exact gct rfl (gS (gR (gY (yn (hm.blk_at 4 rfl) isAgg80 sizeOf80 rfl) (gSN hm 1 sizeOf80 (kL rfl (kL rfl (kL rfl (kL (ki (hm.ow_rep 5 rfl)) ke)))) rfl λw hm=>gE (gRt (grc 1 results52 hm rfl isAgg80 sizeOf80 ⟨aF,rfl,hm.pk [0,5] rfl rfl⟩))))))
  refine gcf rfl (gSk (gS (gR (gY (yn (hm.blk_at 2 rfl) isAgg80 sizeOf80 rfl) (gY (yn (hm.blk_at 4 rfl) isAgg80 sizeOf80 rfl) (gf rfl (λa hf=>kS (vs:=#[(0,(.agg #[nV aA.1.op,nV aA.1.n_,(tV aA.1.name),.slice aC aA.1.kids.length aD])),(1,(.agg #[nV 13,nV 0,(tV aB.1),aF]))]) (cs:=[nV aA.1.op,nV aA.1.n_,(tV aA.1.name),.slice aC aA.1.kids.length aD,nV 13,nV 0,(tV aB.1),aF]) na hf hm rfl rfl (by kernel_rfl) rfl rfl) ?_))))))
  rintro _ w ⟨aM,rfl,hm⟩
  replace hm:=hm.els_nil (α:=kK)
  replace hm:Mem w0 hz _ [els [] ([]:List kK),blk aM [nV aA.1.op,nV aA.1.n_,(tV aA.1.name),.slice aC aA.1.kids.length aD,nV 13,nV 0,(tV aB.1),aF] 80,blk bp0 [v1p,nV aP.2.p] 86,blk aG [nV 0,nV 0,(tV (mkS [])),.slice none 0 0] 80,blk aH [nV aA.1.op,nV aA.1.n_,(tV aA.1.name),.slice aC aA.1.kids.length aD] 80,ow [.slice aC aA.1.kids.length aD] aA.1.kids,blk aI [nV 13,nV 0,(tV aB.1),aF] 80,ow [nV 13,nV 0,(tV aB.1),aF] ((⟨13,0,aB.1,aL.2⟩:kK):kK)]:=oY 13 0 aB.1 hm 7 rfl
  replace hm:=(hm.els_cons 0 7 (by decide) rfl rfl).pk (L':=[_,_,_,_,_,_,_]) [0,1,2,3,4,5,6] rfl rfl
  replace hm:Mem w0 hz _ [els [nV 13,nV 0,(tV aB.1),aF] ([(⟨13,0,aB.1,aL.2⟩:kK)]:List kK),blk aM [nV aA.1.op,nV aA.1.n_,(tV aA.1.name),.slice aC aA.1.kids.length aD,nV 13,nV 0,(tV aB.1),aF] 80,blk bp0 [v1p,nV aP.2.p] 86,blk aG [nV 0,nV 0,(tV (mkS [])),.slice none 0 0] 80,blk aH [nV aA.1.op,nV aA.1.n_,(tV aA.1.name),.slice aC aA.1.kids.length aD] 80,ow [nV aA.1.op,nV aA.1.n_,(tV aA.1.name),.slice aC aA.1.kids.length aD] (aA.1:kK),blk aI [nV 13,nV 0,(tV aB.1),aF] 80]:=ly aA.1 hm 5 rfl
  replace hm:=(hm.els_cons 0 5 (by decide) rfl rfl).pk (L':=[_,_,_,_,_,_]) [0,1,2,3,4,6] rfl rfl
  replace hm:=(hm.lit_els 1 0 (by decide) rfl rfl rfl rfl).pk (L':=[_,_,_,_,_]) [1,2,3,4,5] rfl rfl
  exact gY (yG rfl (kr (vs:=[(0,(nV 3)),(3,(sV aM 0 2 2))]) (cs:=#[nV 3,nV 0,(tV (mkS [])),sV aM 0 2 2]) rfl rfl (by kernel_rfl))) (gSN hm 2 sizeOf80 (kL rfl (kL rfl (kL rfl (kL rfl ke)))) rfl λw hm=>gE (gRt (grc 2 results52 hm rfl isAgg80 sizeOf80 ⟨sV aM 0 2 2,rfl,hm.pk [1,0] rfl rfl⟩)))
theorem zo (w0:World) (hz:kX) (r_:kR) (bp0:Nat) (v1p:Value) (h1p:GT.rep hz [v1p] r_.b) (hm0:Mem w0 hz w0 [blk bp0 [v1p,nV r_.p] 86]) :
    mE Tryz.prog 51 [(pV bp0)] w0 (rj r_) λr v w'=>∃ (x1:Value),v=(.agg #[nV r.1.op,nV r.1.n_,(tV r.1.name),x1])∧Mem w0 hz w' [blk bp0 [v1p,nV r.2.p] 86,ow [x1] r.1.kids]:=by
  unfold rj
  refine mR func51 rfl λr=>?_
  have hm:=hm0
  refine gS (gR (gAl hm zeroValue80 rfl λaB w hm=>gE (gS (gR (gM rfl ?_)))))
  obtain ⟨aT,hle,hm1,hsub,aU⟩:=hm.take2 (L1:=[_]) (L2:=[_]) [1] [0] (by decide) rfl rfl
  refine gCg rfl call52 (tB _ aT r_ bp0 v1p (GT.mono hle h1p) 4 hm1 ) ?_
  rintro aD bA bB w ⟨aE,rfl,hB⟩
  replace hm:=aU _ _ hB;clear hB
  refine gAl hm zeroValue80 rfl λaC w hm=>gSN hm 0 sizeOf80 (kL rfl (kL rfl (kL rfl (kL (ki (hm.ow_rep 2 rfl)) ke)))) rfl λw hm=>gE (gS (gS (gR (gM rfl ?_))))
  obtain ⟨aV,hle,hm1,hsub,aX⟩:=hm.take2 (L1:=[_]) (L2:=[_,_,_]) [1] [0,2,3] (by decide) rfl rfl
  refine gCg rfl call39 (ka _ aV (⟨r_.b,aD.2.p⟩:kR) bp0 v1p (GT.mono hle h1p) 20 hm1 ) ?_
  rintro aL bC bD w ⟨rfl,hB⟩
  replace hm:=aX _ _ hB;clear hB
  refine gE (gJg (λaF a w=>∃ (aM:Value),St 40 [(2,(pV aB)),(3,(pV aC))] w0 hz [blk aB [nV 0,nV 0,(tV (mkS [])),.slice none 0 0] 80,blk aC [nV aF.1,nV aF.2.1,(tV aF.2.2.1),aM] 80,ow [aM] aF.2.2.2.1,blk bp0 [v1p,nV aF.2.2.2.2] 86] a w) (λaF=>?_) ?_)
  ·refine gBk (gS (gR (gB rfl (gA rfl (gE (gJg (λaG a w=>∃ (aN:Value),St 40 [(2,(pV aB)),(3,(pV aC))] w0 hz [blk aB [nV 0,nV 0,(tV (mkS [])),.slice none 0 0] 80,blk aC [nV aG.1,nV aG.2.1,(tV aG.2.2.1),aN] 80,ow [aN] aG.2.2.2.1,blk bp0 [v1p,nV aG.2.2.2.2] 86] a w) (λaG=>?_) ?_))))))
   ·refine gsd 8 rfl (λaY=>?_) λaY=>?_
    ·refine gct rfl (gR (gM rfl (gf rfl (fun a hf => kS (vs := #[(0, (nV (-1))), (1, (nV 256)), (2, (nV 3))]) (cs := [nV (-1), nV 256, nV 3]) rp hf hm rfl rfl (by kernel_rfl) rfl rfl) ?_)))
     rintro _ w ⟨aZ,rfl,hm⟩
     replace hm:=hm.lit (xs:=([-1,256,3]:List Int)) 0 rfl rfl rfl rfl
     obtain ⟨a8,hle,hm1,hsub,aa⟩:=hm.take2 (L1:=[_]) (L2:=[_,_,_,_]) [1] [0,2,3,4] (by decide) rfl rfl
     refine gCg rfl call53 (lA _ a8 (⟨r_.b,aL.2.p⟩:kR) bp0 v1p (GT.mono hle h1p) ([-1,256,3]:List Int) (sV aZ 0 3 3) (mY (hsub 0 _ rfl)) hm1 ) ?_
     rintro bE bF bG w ⟨rfl,hB⟩
     replace hm:=aa _ _ hB;clear hB
     exact gF qe rfl (gS1 hm 2 sizeOf3 rfl rfl λw hm=>gE (gZ λa hf=>⟨aE,hf.sb rfl,hm.pk [4,2,3,0] rfl rfl⟩))
    refine gcf rfl (gS (gR (gB rfl (gA rfl (gE (gJg (λaH a w=>∃ (aO:Value),St 40 [(2,(pV aB)),(3,(pV aC))] w0 hz [blk aB [nV 0,nV 0,(tV (mkS [])),.slice none 0 0] 80,blk aC [nV aH.1,nV aH.2.1,(tV aH.2.2.1),aO] 80,ow [aO] aH.2.2.2.1,blk bp0 [v1p,nV aH.2.2.2.2] 86] a w) (λaH=>?_) ?_))))))
    ·refine gsd 14 rfl (λab=>?_) λab=>?_
     ·refine gct rfl (gR (gM rfl (gf rfl (fun a hf => kS (vs := #[(0, (tV (mkS []))), (1, (tV (mkS [100, 111]))), (2, (tV (mkS [65]))), (3, (tV (mkS [97, 98, 99, 100, 101]))), (4, (tV (mkS [113])))]) (cs := [(tV (mkS [])), (tV (mkS [100, 111])), (tV (mkS [65])), (tV (mkS [97, 98, 99, 100, 101])), (tV (mkS [113]))]) ox hf hm rfl rfl (by kernel_rfl) rfl rfl) ?_)))
      rintro _ w ⟨ac,rfl,hm⟩
      replace hm:=hm.lit (xs:=([(mkS []),(mkS [100,111]),(mkS [65]),(mkS [97,98,99,100,101]),(mkS [113])]:List Str)) 0 rfl rfl rfl rfl
      obtain ⟨ae,hle,hm1,hsub,af⟩:=hm.take2 (L1:=[_]) (L2:=[_,_,_,_]) [1] [0,2,3,4] (by decide) rfl rfl
      refine gCg rfl call40 (mv _ ae (⟨r_.b,aL.2.p⟩:kR) bp0 v1p (GT.mono hle h1p) ([(mkS []),(mkS [100,111]),(mkS [65]),(mkS [97,98,99,100,101]),(mkS [113])]:List Str) (sV ac 0 5 5) (mY (hsub 0 _ rfl)) hm1 ) ?_
      rintro bH bJ bK w ⟨rfl,hB⟩
      replace hm:=af _ _ hB;clear hB
      exact gF q9 rfl (gS1 hm 2 sizeOf9 rfl rfl λw hm=>gE (gZ λa hf=>⟨aE,hf.sb rfl,hm.pk [4,2,3,0] rfl rfl⟩))
     refine gcf rfl (gS (gR (gB rfl (gA rfl (gE (gJg (λaI a w=>∃ (aP:Value),St 40 [(2,(pV aB)),(3,(pV aC))] w0 hz [blk aB [nV 0,nV 0,(tV (mkS [])),.slice none 0 0] 80,blk aC [nV aI.1,nV aI.2.1,(tV aI.2.2.1),aP] 80,ow [aP] aI.2.2.2.1,blk bp0 [v1p,nV aI.2.2.2.2] 86] a w) (λaI=>?_) ?_))))))
     ·refine gsd 20 rfl (λag=>?_) λag=>?_
      ·refine gct rfl (gR (gM rfl (gf rfl (fun a hf => kS (vs := #[(0, (nV 0)), (1, (nV 14)), (2, (nV (-1))), (3, (nV 5)), (4, (nV 11))]) (cs := [nV 0, nV 14, nV (-1), nV 5, nV 11]) rp hf hm rfl rfl (by kernel_rfl) rfl rfl) ?_)))
       rintro _ w ⟨ah,rfl,hm⟩
       replace hm:=hm.lit (xs:=([0,14,-1,5,11]:List Int)) 0 rfl rfl rfl rfl
       obtain ⟨ai,hle,hm1,hsub,aj⟩:=hm.take2 (L1:=[_]) (L2:=[_,_,_,_]) [1] [0,2,3,4] (by decide) rfl rfl
       refine gCg rfl call53 (lA _ ai (⟨r_.b,aL.2.p⟩:kR) bp0 v1p (GT.mono hle h1p) ([0,14,-1,5,11]:List Int) (sV ah 0 5 5) (mY (hsub 0 _ rfl)) hm1 ) ?_
       rintro bL bM bN w ⟨rfl,hB⟩
       replace hm:=aj _ _ hB;clear hB
       exact gF mP rfl (gS1 hm 2 sizeOf3 rfl rfl λw hm=>gE (gZ λa hf=>⟨aE,hf.sb rfl,hm.pk [4,2,3,0] rfl rfl⟩))
      refine gcf rfl (gS (gR (gB rfl (gA rfl (gE (gJg (λaJ a w=>∃ (aQ:Value),St 40 [(2,(pV aB)),(3,(pV aC))] w0 hz [blk aB [nV 0,nV 0,(tV (mkS [])),.slice none 0 0] 80,blk aC [nV aJ.1,nV aJ.2.1,(tV aJ.2.2.1),aQ] 80,ow [aQ] aJ.2.2.2.1,blk bp0 [v1p,nV aJ.2.2.2.2] 86] a w) (λaJ=>?_) ?_))))))
      ·refine gsd 26 rfl (λak=>?_) λak=>?_
       ·refine gct rfl (gW (.p 0 (.p 2 (.q 1 (.e 3 (.e 4 (.e 5 (.p 6 (.e 7 .fin .nil)) .nil) .nil) .nil)))) [3, 4] [0, 2, 6] hm [1, 2, 3] [blk aC [nV aD.1.op, nV aD.1.n_, (tV aD.1.name), aE] 80, ow [aE] aD.1.kids, blk aB [nV 0, nV 0, (tV (mkS [])), .slice none 0 0] 80] rfl mxo (by kernel_rfl) (fun _ _ _ h => h.2) fun w hm hS => tP rfl (fun w => yF mJ rfl) (tP rfl (fun w => yM rfl) (tQ rfl hS (fun w hm => yL hm 0 isAgg59 rfl) (tO (gb fun aA al => ?_)))))
        obtain ⟨am,hle,hm1,hsub,an⟩:=hm.take2 (L1:=[_]) (L2:=[_,_,_]) [0] [1,2,3] (by decide) rfl rfl
        refine tf rfl rfl (λa hf=>lK hf rfl call90 rfl (v7 _ am (⟨r_.b,aL.2.p⟩:kR) bp0 v1p (GT.mono hle h1p) [] (.slice none 0 0) pU hm1  _ al)) ?_
        rintro bO w ⟨aR,rfl,hB⟩
        replace hm:=an _ _ hB;clear hB
        refine tAk hm [2,3,4] rfl λhS=>tO (tf rfl rfl (λa hf=>kS (vs:=#[(0,(.agg #[nV aA.1.op,nV aA.1.n_,(tV aA.1.name),aR]))]) (cs:=[nV aA.1.op,nV aA.1.n_,(tV aA.1.name),aR]) na hf hm rfl rfl (by kernel_rfl) rfl rfl) ?_)
        rintro _ w ⟨ao,rfl,hm⟩
        replace hm:=hm.els_nil (α:=kK)
        replace hm:Mem w0 hz _ [els [] ([]:List kK),blk ao [nV aA.1.op,nV aA.1.n_,(tV aA.1.name),aR] 80,blk bp0 [v1p,nV aA.2.p] 86,ow [nV aA.1.op,nV aA.1.n_,(tV aA.1.name),aR] (aA.1:kK),blk aC [nV aD.1.op,nV aD.1.n_,(tV aD.1.name),aE] 80,ow [aE] aD.1.kids,blk aB [nV 0,nV 0,(tV (mkS [])),.slice none 0 0] 80]:=ly aA.1 hm 3 rfl
        replace hm:=(hm.els_cons 0 3 (by decide) rfl rfl).pk (L':=[_,_,_,_,_,_]) [0,1,2,4,5,6] rfl rfl
        replace hm:=(hm.lit_els 1 0 (by decide) rfl rfl rfl rfl).pk (L':=[_,_,_,_,_]) [1,2,3,4,5] rfl rfl
        refine tAk hm [2,3,4] rfl λhS=>tO (gb λbP aq=>?_)
        obtain ⟨ar,au⟩:=kb.1 aq
        replace hm:=(hm.both 3 0 (by decide) rfl rfl).pk (L':=[_,_,_,_]) [1,2,3,4] rfl rfl
        refine tf rfl rfl (λa hf=>lp (xs:=aD.1.kids) (ys:=([aA.1]:List kK)) 2 na hf hm rfl rfl rfl rfl ar) ?_
        rintro av w hm
        rw [au] at hm
        refine tAn rfl (tP rfl (λw=>yF mJ rfl) (tO (tf0 rfl rfl (λa hf=>nP 1 hf hm rfl sizeOf59 rfl rfl rfl (ki (hm.ow_rep 2 rfl)) rfl) ?_)))
        rintro _ w hm
        exact tAn rfl (tE (gZ λa hf=>⟨av,hf.sb rfl,hm.pk [3,1,2,0] rfl rfl⟩))
       refine gcf rfl (gS (gR (gB rfl (gA rfl (gE (gJg (λaK a w=>∃ (aS:Value),St 40 [(2,(pV aB)),(3,(pV aC))] w0 hz [blk aB [nV 0,nV 0,(tV (mkS [])),.slice none 0 0] 80,blk aC [nV aK.1,nV aK.2.1,(tV aK.2.2.1),aS] 80,ow [aS] aK.2.2.2.1,blk bp0 [v1p,nV aK.2.2.2.2] 86] a w) (λaK=>?_) ?_))))))
       ·refine gsd 35 rfl (λaw=>?_) λaw=>?_
        ·refine gct rfl (gR (gM rfl ?_))
         obtain ⟨ax,hle,hm1,hsub,ay⟩:=hm.take2 (L1:=[_]) (L2:=[_,_,_]) [0] [1,2,3] (by decide) rfl rfl
         refine gCg rfl call52 (tB _ ax (⟨r_.b,aL.2.p⟩:kR) bp0 v1p (GT.mono hle h1p) 7 hm1 ) ?_
         rintro bQ bR bS w ⟨az,rfl,hB⟩
         replace hm:=ay _ _ hB;clear hB
         exact gSN hm 2 sizeOf80 (kL rfl (kL rfl (kL rfl (kL (ki (hm.ow_rep 1 rfl)) ke)))) rfl λw hm=>gE (gZ λa hf=>⟨az,hf.sb rfl,hm.pk [4,2,1,0] rfl rfl⟩)
        exact gcf rfl (gSk (gZ λa hf=>⟨aE,hf.sb rfl,hm.pk [3,1,2,0] rfl rfl⟩))
       repeat clear hm
       rintro aK a w ⟨aS,hf,hm⟩
       exact gv hf (gZ λa hf=>⟨aS,hf.sb rfl,hm.pk [0,1,2,3] rfl rfl⟩)
      repeat clear hm
      rintro aJ a w ⟨aQ,hf,hm⟩
      exact gv hf (gZ λa hf=>⟨aQ,hf.sb rfl,hm.pk [0,1,2,3] rfl rfl⟩)
     repeat clear hm
     rintro aI a w ⟨aP,hf,hm⟩
     exact gv hf (gZ λa hf=>⟨aP,hf.sb rfl,hm.pk [0,1,2,3] rfl rfl⟩)
    repeat clear hm
    rintro aH a w ⟨aO,hf,hm⟩
    exact gv hf (gZ λa hf=>⟨aO,hf.sb rfl,hm.pk [0,1,2,3] rfl rfl⟩)
   repeat clear hm
   rintro aG a w ⟨aN,hf,hm⟩
   exact gv hf (gZ λa hf=>⟨aN,hf.sb rfl,hm.pk [0,1,2,3] rfl rfl⟩)
  repeat clear hm
  rintro aF a w ⟨aM,hf,hm⟩
  exact gv hf (gS (gR (gY (yn (hm.blk_at 1 rfl) isAgg80 sizeOf80 rfl) (gSN hm 0 sizeOf80 (kL rfl (kL rfl (kL rfl (kL (ki (hm.ow_rep 2 rfl)) ke)))) rfl λw hm=>gE (gRt (grc 0 results51 hm rfl isAgg80 sizeOf80 ⟨aM,rfl,hm.pk [3,2] rfl rfl⟩))))))
theorem ab3 (w0:World) (hz:kX) (J1 J2:Ch) (r_:kR) (bp0:Nat) (v1p:Value) (h1p:GT.rep hz [v1p] r_.b) (hm0:Mem w0 hz w0 [blk bp0 [v1p,nV r_.p] 86,J1,J2]) :
    mE Tryz.prog 16 [(pV bp0)] w0 (sA r_) λr v w'=>∃ (x1:Value) (hz2:kX),v=(.agg #[x1])∧kX.le hz hz2∧GT.rep hz2 [x1] r.1.fns∧Mem w0 hz2 w' [J1,J2,blk bp0 [v1p,nV r.2.p] 86]:=by
  unfold sA
  refine mR func16 rfl λr=>?_
  have hm:=hm0
  refine gS (gR (gAl hm zeroValue25 rfl λaE w hm=>gE (gS (gR (gM rfl ?_)))))
  obtain ⟨dp,hle,hm1,hsub,dq⟩:=hm.take2 (L1:=[_]) (L2:=[_,_,_]) [1] [0,2,3] (by decide) rfl rfl
  refine gCg rfl call38 (zf _ dp r_ bp0 v1p (GT.mono hle h1p) hm1 ) ?_
  rintro aI iX iY w ⟨dr,rfl,hB⟩
  replace hm:=dq _ _ hB;clear hB
  refine gAl hm zeroValue25 rfl λaF w hm=>?_
  obtain ⟨aS,aM,hz_r0_1,hmf⟩:=hm.freeze 2 rfl
  replace hm:=hmf.pk (L':=[_,_,_,_,_]) [0,1,3,4,5] rfl rfl
  clear hmf
  replace hz_r0_1:GT.rep aS [dr] aI.1.fns:=mY hz_r0_1
  refine gSN hm 0 sizeOf25 (kL (ki hz_r0_1) ke) rfl λw hm=>gE (gS (gR (gF nu rfl (gL hm 0 isAgg23 rfl (gF nu rfl (gL hm 0 isAgg23 rfl ?_))))))
  obtain ⟨iZ,aN,rfl,ia⟩:=kT hz_r0_1
  refine gY (yV nz rfl) (gY (yS (by omega) (by omega) rfl) (gg λaK dt cD=>?_))
  obtain ⟨aO,aP,ic,he⟩:=lU hz_r0_1 cD
  obtain ⟨rfl,_,rfl⟩:=sl3 he
  obtain ⟨aT,ab,du,bQ,ac⟩:=sH hz_r0_1 cD
  refine gI nz dt (lO cD) rfl (gY (yn (du.mono hm.lez) isAgg45 sizeOf45 rfl) (gAl hm zeroValue45 rfl λaG w hm=>gSN hm 0 sizeOf45 (kL rfl (kL (ki bQ) (kL (ki ac) ke))) rfl λw hm=>gE (gS (gS (gR (gM rfl ?_))))))
  obtain ⟨dv,hle,hm1,hsub,dw⟩:=hm.take2 (L1:=[_]) (L2:=[_,_,_,_,_]) [2] [0,1,3,4,5] (by decide) rfl rfl
  refine gCg rfl call39 (ka _ dv (⟨r_.b,aI.2.p⟩:kR) bp0 v1p (GT.mono hle (GT.mono aM h1p)) 32 hm1 ) ?_
  rintro ae ig ii w ⟨rfl,hB⟩
  replace hm:=dw _ _ hB;clear hB
  refine gE (tX (λaL a w=>∃ (aw:kX) (ah ai:Value),kX.le aS aw∧GT.rep aw [ah] (aL.2.1)∧GT.rep aw [ai] (aL.2.2.1)∧St 145 [(2,(pV aE)),(3,(pV aF)),(4,(pV aG))] w0 aw [blk aE [.slice none 0 0] 25,blk aF [sV aO aP aI.1.fns.length aN] 25,blk aG [(tV aL.1),ah,ai] 45,blk bp0 [v1p,nV aL.2.2.2] 86,J1,J2] a w) (λij cc=>?_) ?_)
  ·refine gBk (gS (gR (gB rfl (gA rfl (gE (tX (λax a w=>∃ (am:kX) (bR bS:Value),kX.le aS am∧GT.rep am [bR] (ax.2.1)∧GT.rep am [bS] (ax.2.2.1)∧St 145 [(2,(pV aE)),(3,(pV aF)),(4,(pV aG))] w0 am [blk aE [.slice none 0 0] 25,blk aF [sV aO aP aI.1.fns.length aN] 25,blk aG [(tV ax.1),bR,bS] 45,blk bp0 [v1p,nV ax.2.2.2] 86,J1,J2] a w) (λik cd=>?_) ?_))))))
   ·refine gsd 21 rfl (λdx=>?_) λdx=>?_
    ·refine gct rfl (gR (gM rfl (gf rfl (fun a hf => kS (vs := #[(0, (tV (mkS [102]))), (1, (tV (mkS [100, 111]))), (2, (tV (mkS []))), (3, (tV (mkS [103])))]) (cs := [(tV (mkS [102])), (tV (mkS [100, 111])), (tV (mkS [])), (tV (mkS [103]))]) ox hf hm rfl rfl (by kernel_rfl) rfl rfl) ?_)))
     rintro _ w ⟨dy,rfl,hm⟩
     replace hm:=hm.lit (xs:=([(mkS [102]),(mkS [100,111]),(mkS []),(mkS [103])]:List Str)) 0 rfl rfl rfl rfl
     obtain ⟨dz,hle,hm1,hsub,eA⟩:=hm.take2 (L1:=[_]) (L2:=[_,_,_,_,_,_]) [1] [0,2,3,4,5,6] (by decide) rfl rfl
     refine gCg rfl call40 (mv _ dz (⟨r_.b,ae.2.p⟩:kR) bp0 v1p (GT.mono hle (GT.mono aM h1p)) ([(mkS [102]),(mkS [100,111]),(mkS []),(mkS [103])]:List Str) (sV dy 0 4 4) (mY (hsub 0 _ rfl)) hm1 ) ?_
     rintro il im io w ⟨rfl,hB⟩
     replace hm:=eA _ _ hB;clear hB
     exact gF sn rfl (gS1 hm 2 sizeOf9 rfl rfl λw hm=>gE (gZe λa hf=>⟨aS,aT,ab,(kX.le_refl _),bQ,ac,hf.sb rfl,hm.pk [4,3,2,0,5,6] rfl rfl⟩))
    refine gcf rfl (gS (gR (gB rfl (gA rfl (gE (tX (λbT a w=>∃ (an:kX) (bU bV:Value),kX.le aS an∧GT.rep an [bU] (bT.1)∧GT.rep an [bV] (bT.2.1)∧St 145 [(2,(pV aE)),(3,(pV aF)),(4,(pV aG))] w0 an [blk aE [.slice none 0 0] 25,blk aF [sV aO aP aI.1.fns.length aN] 25,blk aG [(tV aK.name),bU,bV] 45,blk bp0 [v1p,nV bT.2.2] 86,J1,J2] a w) (λip ce=>?_) ?_))))))
    ·refine gsd 27 rfl (λeD=>?_) λeD=>?_
     ·refine gct rfl (gR (gf rfl (λa hf=>nZ (α:=Str) ox hm rfl) ?_))
      rintro iq w hm
      refine gF o6 rfl (gL hm 2 isAgg42 rfl (gb λir eF=>?_))
      obtain ⟨eG,eH⟩:=kb.1 eF
      refine gf rfl (λa hf=>lr 0 ox hf hm rfl (hm.now bQ) rfl rfl rfl eG) ?_
      rintro iu w hm
      rw [eH] at hm
      refine gM rfl (gf rfl (λa hf=>kS (vs:=#[(0,(tV (mkS [97]))),(1,(tV (mkS [120]))),(2,(tV (mkS [105,102])))]) (cs:=[(tV (mkS [97])),(tV (mkS [120])),(tV (mkS [105,102]))]) ox hf hm rfl rfl (by kernel_rfl) rfl rfl) ?_)
      rintro _ w ⟨eI,rfl,hm⟩
      replace hm:=hm.lit (xs:=([(mkS [97]),(mkS [120]),(mkS [105,102])]:List Str)) 0 rfl rfl rfl rfl
      obtain ⟨eJ,hle,hm1,hsub,eM⟩:=hm.take2 (L1:=[_]) (L2:=[_,_,_,_,_,_,_]) [2] [0,1,3,4,5,6,7] (by decide) rfl rfl
      refine gCg rfl call40 (mv _ eJ (⟨r_.b,ae.2.p⟩:kR) bp0 v1p (GT.mono hle (GT.mono aM h1p)) ([(mkS [97]),(mkS [120]),(mkS [105,102])]:List Str) (sV eI 0 3 3) (mY (hsub 0 _ rfl)) hm1 ) ?_
      rintro cE iv iw w ⟨rfl,hB⟩
      replace hm:=eM _ _ hB;clear hB
      refine gf rfl (λa hf=>kS (vs:=#[(0,(tV cE.1))]) (cs:=[(tV cE.1)]) ox hf hm rfl rfl (by kernel_rfl) rfl rfl) ?_
      rintro _ w ⟨iy,rfl,hm⟩
      replace hm:=hm.lit (xs:=([cE.1]:List Str)) 0 rfl rfl rfl rfl
      refine gb λeN eO=>?_
      obtain ⟨eP,eR⟩:=kb.1 eO
      refine gf rfl (λa hf=>lr 3 ox hf hm rfl (hm.ow_rep 0 rfl) rfl rfl rfl eP) ?_
      rintro cf w hm
      rw [eR] at hm
      refine gF o6 rfl ?_
      obtain ⟨cg,cj,hz_r3_1,hmf⟩:=hm.freeze 3 rfl
      replace hm:=hmf.pk (L':=[_,_,_,_,_,_,_,_]) [0,1,2,4,5,6,7,8] rfl rfl
      clear hmf
      replace hz_r3_1:GT.rep cg [cf] eN:=mY hz_r3_1
      exact gS1 hm 3 sizeOf42 (ki hz_r3_1) rfl λw hm=>gE (gZe λa hf=>⟨cg,cf,ab,cj,hz_r3_1,(GT.mono cj ac),hf.sb rfl,hm.pk [5,4,3,1,6,7] rfl rfl⟩)
     refine gcf rfl (gS (gR (gB rfl (gA rfl (gE (tX (λcF a w=>∃ (ay:kX) (bW:Value),kX.le aS ay∧GT.rep ay [bW] (cF.1)∧St 145 [(2,(pV aE)),(3,(pV aF)),(4,(pV aG))] w0 ay [blk aE [.slice none 0 0] 25,blk aF [sV aO aP aI.1.fns.length aN] 25,blk aG [(tV aK.name),aT,bW] 45,blk bp0 [v1p,nV cF.2] 86,J1,J2] a w) (λiz ck=>?_) ?_))))))
     ·refine gsd 39 rfl (λeS=>?_) λeS=>?_
      ·refine gct rfl (gR (gf rfl (λa hf=>nZ (α:=kN) mZ hm rfl) ?_))
       rintro jA w hm
       refine gF oE rfl (gL hm 2 isAgg43 rfl ?_)
       obtain ⟨cl,cG,hm⟩:=hm.shallow (α:=kN) 0 rfl
       refine gb λcm eT=>?_
       obtain ⟨eU,eV⟩:=kb.1 eT
       refine gf rfl (λa hf=>mW (α:=kN) (xs:=([]:List kN)) (ys:=aK.body) 0 mZ hf hm rfl (tU hm.lez (GT.mono cG ac)) rfl rfl rfl eU) ?_
       rintro eW w hm
       rw [eV] at hm
       refine gM rfl ?_
       obtain ⟨eX,hle,hm1,hsub,eY⟩:=hm.take2 (L1:=[_]) (L2:=[_,_,_,_,_,_]) [1] [0,2,3,4,5,6] (by decide) rfl rfl
       refine gCg rfl call51 (zo _ eX (⟨r_.b,ae.2.p⟩:kR) bp0 v1p (GT.mono hle (GT.mono (kX.le_trans aM cG) h1p)) hm1 ) ?_
       rintro aQ jB jC w ⟨bX,rfl,hB⟩
       replace hm:=eY _ _ hB;clear hB
       refine gf rfl (λa hf=>kS (vs:=#[(0,(.agg #[nV aQ.1.op,nV aQ.1.n_,(tV aQ.1.name),bX]))]) (cs:=[nV aQ.1.op,nV aQ.1.n_,(tV aQ.1.name),bX]) na hf hm rfl rfl (by kernel_rfl) rfl rfl) ?_
       rintro _ w ⟨az,rfl,hm⟩
       replace hm:=hm.els_nil (α:=kK)
       replace hm:Mem w0 cl _ [els [] ([]:List kK),blk az [nV aQ.1.op,nV aQ.1.n_,(tV aQ.1.name),bX] 80,blk bp0 [v1p,nV aQ.2.p] 86,ow [nV aQ.1.op,nV aQ.1.n_,(tV aQ.1.name),bX] (aQ.1:kK),ow (α:=List (Sh cl kN)) [eW] cm,blk aG [(tV aK.name),aT,ab] 45,blk aF [sV aO aP aI.1.fns.length aN] 25,blk aE [.slice none 0 0] 25,J1,J2]:=ly aQ.1 hm 3 rfl
       replace hm:=(hm.els_cons 0 3 (by decide) rfl rfl).pk (L':=[_,_,_,_,_,_,_,_,_]) [0,1,2,4,5,6,7,8,9] rfl rfl
       replace hm:=(hm.lit_els 1 0 (by decide) rfl rfl rfl rfl).pk (L':=[_,_,_,_,_,_,_,_]) [1,2,3,4,5,6,7,8] rfl rfl
       refine gY (yG rfl (kr (vs:=[(0,(nV 3)),(2,(sV az 0 1 1))]) (cs:=#[nV 3,(tV (mkS [])),sV az 0 1 1,.slice none 0 0,.slice none 0 0]) rfl rfl (by kernel_rfl))) (gf rfl (λa hf=>kS (vs:=#[(0,(.agg #[nV 3,(tV (mkS [])),sV az 0 1 1,.slice none 0 0,.slice none 0 0]))]) (cs:=[nV 3,(tV (mkS [])),sV az 0 1 1,.slice none 0 0,.slice none 0 0]) mZ hf hm rfl rfl (by kernel_rfl) rfl rfl) ?_)
       rintro _ w ⟨eZ,rfl,hm⟩
       replace hm:=hm.els_nil (α:=kN)
       replace hm:=hm.nilow (α:=kN)
       replace hm:=hm.nilow (α:=kN)
       replace hm:=(oX 3 (mkS []) hm 4 1 0 rfl).pk (L':=[_,_,_,_,_,_,_,_,_,_]) [2,3,4,5,6,7,8,9,10,11] rfl rfl
       replace hm:=(hm.els_cons 0 2 (by decide) rfl rfl).pk (L':=[_,_,_,_,_,_,_,_,_]) [0,1,3,4,5,6,7,8,9] rfl rfl
       replace hm:=(hm.lit_els 1 0 (by decide) rfl rfl rfl rfl).pk (L':=[_,_,_,_,_,_,_,_]) [1,2,3,4,5,6,7,8] rfl rfl
       obtain ⟨ec,cn,hz_r4_1,hmf⟩:=hm.freeze 0 rfl
       replace hm:=hmf.pk (L':=[_,_,_,_,_,_,_]) [1,2,3,4,5,6,7] rfl rfl
       clear hmf
       replace hz_r4_1:GT.rep ec [sV eZ 0 1 1] ([(⟨3,(mkS []),([aQ.1]:List kK),[],[]⟩:kN)]:List kN):=mY hz_r4_1
       refine gb λed ee=>?_
       obtain ⟨ef,eh⟩:=kb.1 ee
       replace hm:=hm.sh_up cn 1 rfl
       refine gf rfl (λa hf=>mW (α:=kN) (xs:=cm) (ys:=([(⟨3,(mkS []),([aQ.1]:List kK),[],[]⟩:kN)]:List kN)) 1 mZ hf hm rfl (tU hm.lez hz_r4_1) rfl rfl rfl ef) ?_
       rintro co w hm
       rw [eh] at hm
       refine gF oE rfl ?_
       obtain ⟨cq,cr,hz_r4_2,hmf⟩:=hm.freeze 1 rfl
       replace hm:=hmf.pk (L':=[_,_,_,_,_,_]) [0,2,3,4,5,6] rfl rfl
       clear hmf
       replace hz_r4_2:GT.rep cq [co] ed:=oO cr (mY hz_r4_2)
       exact gS1 hm 1 sizeOf43 (ki hz_r4_2) rfl λw hm=>gE (gZe λa hf=>⟨cq,co,(kX.le_trans (kX.le_trans cG cn) cr),hz_r4_2,hf.sb rfl,hm.pk [3,2,1,0,4,5] rfl rfl⟩)
      refine gcf rfl (gS (gR (gB rfl (gA rfl (gE (tX (λcH a w=>∃ (bA:kX) (bY:Value),kX.le aS bA∧GT.rep bA [bY] (cH.1)∧St 145 [(2,(pV aE)),(3,(pV aF)),(4,(pV aG))] w0 bA [blk aE [.slice none 0 0] 25,blk aF [sV aO aP aI.1.fns.length aN] 25,blk aG [(tV aK.name),aT,bY] 45,blk bp0 [v1p,nV cH.2] 86,J1,J2] a w) (λjD ct=>?_) ?_))))))
      ·refine gsd 52 rfl (λei=>?_) λei=>?_
       ·refine gct rfl (gR (gf rfl (λa hf=>nZ (α:=kN) mZ hm rfl) ?_))
        rintro jE w hm
        refine gF oE rfl (gL hm 2 isAgg43 rfl ?_)
        obtain ⟨cu,bB,hm⟩:=hm.shallow (α:=kN) 0 rfl
        refine gb λcv ej=>?_
        obtain ⟨ek,el⟩:=kb.1 ej
        refine gf rfl (λa hf=>mW (α:=kN) (xs:=([]:List kN)) (ys:=aK.body) 0 mZ hf hm rfl (tU hm.lez (GT.mono bB ac)) rfl rfl rfl ek) ?_
        rintro en w hm
        rw [el] at hm
        refine gM rfl ?_
        obtain ⟨eo,hle,hm1,hsub,ep⟩:=hm.take2 (L1:=[_]) (L2:=[_,_,_,_,_,_]) [1] [0,2,3,4,5,6] (by decide) rfl rfl
        refine gCg rfl call39 (ka _ eo (⟨r_.b,ae.2.p⟩:kR) bp0 v1p (GT.mono hle (GT.mono (kX.le_trans aM bB) h1p)) 10 hm1 ) ?_
        rintro af jF jG w ⟨rfl,hB⟩
        replace hm:=ep _ _ hB;clear hB
        refine gM rfl (gf rfl (λa hf=>kS (vs:=#[(0,(tV (mkS []))),(1,(tV (mkS [97]))),(2,(tV (mkS [122,122])))]) (cs:=[(tV (mkS [])),(tV (mkS [97])),(tV (mkS [122,122]))]) ox hf hm rfl rfl (by kernel_rfl) rfl rfl) ?_)
        rintro _ w ⟨cw,rfl,hm⟩
        replace hm:=hm.lit (xs:=([(mkS []),(mkS [97]),(mkS [122,122])]:List Str)) 0 rfl rfl rfl rfl
        obtain ⟨er,hle,hm1,hsub,et⟩:=hm.take2 (L1:=[_]) (L2:=[_,_,_,_,_,_,_]) [1] [0,2,3,4,5,6,7] (by decide) rfl rfl
        refine gCg rfl call40 (mv _ er (⟨r_.b,af.2.p⟩:kR) bp0 v1p (GT.mono hle (GT.mono (kX.le_trans aM bB) h1p)) ([(mkS []),(mkS [97]),(mkS [122,122])]:List Str) (sV cw 0 3 3) (mY (hsub 0 _ rfl)) hm1 ) ?_
        rintro ag jH jI w ⟨rfl,hB⟩
        replace hm:=et _ _ hB;clear hB
        refine gM rfl ?_
        obtain ⟨eu,hle,hm1,hsub,ey⟩:=hm.take2 (L1:=[_]) (L2:=[_,_,_,_,_,_,_]) [0] [1,2,3,4,5,6,7] (by decide) rfl rfl
        refine gCg rfl call52 (tB _ eu (⟨r_.b,ag.2.p⟩:kR) bp0 v1p (GT.mono hle (GT.mono (kX.le_trans aM bB) h1p)) 2 hm1 ) ?_
        rintro aR jJ jK w ⟨bZ,rfl,hB⟩
        replace hm:=ey _ _ hB;clear hB
        refine gf rfl (λa hf=>kS (vs:=#[(0,(.agg #[nV aR.1.op,nV aR.1.n_,(tV aR.1.name),bZ]))]) (cs:=[nV aR.1.op,nV aR.1.n_,(tV aR.1.name),bZ]) na hf hm rfl rfl (by kernel_rfl) rfl rfl) ?_
        rintro _ w ⟨bC,rfl,hm⟩
        replace hm:=hm.els_nil (α:=kK)
        replace hm:Mem w0 cu _ [els [] ([]:List kK),blk bC [nV aR.1.op,nV aR.1.n_,(tV aR.1.name),bZ] 80,blk bp0 [v1p,nV aR.2.p] 86,ow [nV aR.1.op,nV aR.1.n_,(tV aR.1.name),bZ] (aR.1:kK),ow [sV cw 0 3 3] ([(mkS []),(mkS [97]),(mkS [122,122])]:List Str),ow (α:=List (Sh cu kN)) [en] cv,blk aG [(tV aK.name),aT,ab] 45,blk aF [sV aO aP aI.1.fns.length aN] 25,blk aE [.slice none 0 0] 25,J1,J2]:=ly aR.1 hm 3 rfl
        replace hm:=(hm.els_cons 0 3 (by decide) rfl rfl).pk (L':=[_,_,_,_,_,_,_,_,_,_]) [0,1,2,4,5,6,7,8,9,10] rfl rfl
        replace hm:=(hm.lit_els 1 0 (by decide) rfl rfl rfl rfl).pk (L':=[_,_,_,_,_,_,_,_,_]) [1,2,3,4,5,6,7,8,9] rfl rfl
        refine gY (yG rfl (kr (vs:=[(0,(nV af.1)),(1,(tV ag.1)),(2,(sV bC 0 1 1))]) (cs:=#[nV af.1,(tV ag.1),sV bC 0 1 1,.slice none 0 0,.slice none 0 0]) rfl rfl (by kernel_rfl))) (gf rfl (λa hf=>kS (vs:=#[(0,(.agg #[nV af.1,(tV ag.1),sV bC 0 1 1,.slice none 0 0,.slice none 0 0]))]) (cs:=[nV af.1,(tV ag.1),sV bC 0 1 1,.slice none 0 0,.slice none 0 0]) mZ hf hm rfl rfl (by kernel_rfl) rfl rfl) ?_)
        rintro _ w ⟨ez,rfl,hm⟩
        replace hm:=hm.els_nil (α:=kN)
        replace hm:=hm.nilow (α:=kN)
        replace hm:=hm.nilow (α:=kN)
        replace hm:=(oX af.1 ag.1 hm 4 1 0 rfl).pk (L':=[_,_,_,_,_,_,_,_,_,_,_]) [2,3,4,5,6,7,8,9,10,11,12] rfl rfl
        replace hm:=(hm.els_cons 0 2 (by decide) rfl rfl).pk (L':=[_,_,_,_,_,_,_,_,_,_]) [0,1,3,4,5,6,7,8,9,10] rfl rfl
        replace hm:=(hm.lit_els 1 0 (by decide) rfl rfl rfl rfl).pk (L':=[_,_,_,_,_,_,_,_,_]) [1,2,3,4,5,6,7,8,9] rfl rfl
        obtain ⟨fA,cx,hz_r5_1,hmf⟩:=hm.freeze 0 rfl
        replace hm:=hmf.pk (L':=[_,_,_,_,_,_,_,_]) [1,2,3,4,5,6,7,8] rfl rfl
        clear hmf
        replace hz_r5_1:GT.rep fA [sV ez 0 1 1] ([(⟨af.1,ag.1,([aR.1]:List kK),[],[]⟩:kN)]:List kN):=mY hz_r5_1
        refine gb λfB fC=>?_
        obtain ⟨fD,fE⟩:=kb.1 fC
        replace hm:=hm.sh_up cx 2 rfl
        refine gf rfl (λa hf=>mW (α:=kN) (xs:=cv) (ys:=([(⟨af.1,ag.1,([aR.1]:List kK),[],[]⟩:kN)]:List kN)) 2 mZ hf hm rfl (tU hm.lez hz_r5_1) rfl rfl rfl fD) ?_
        rintro cy w hm
        rw [fE] at hm
        refine gF oE rfl ?_
        obtain ⟨cz,dA,hz_r5_2,hmf⟩:=hm.freeze 2 rfl
        replace hm:=hmf.pk (L':=[_,_,_,_,_,_,_]) [0,1,3,4,5,6,7] rfl rfl
        clear hmf
        replace hz_r5_2:GT.rep cz [cy] fB:=oO dA (mY hz_r5_2)
        exact gS1 hm 2 sizeOf43 (ki hz_r5_2) rfl λw hm=>gE (gZe λa hf=>⟨cz,cy,(kX.le_trans (kX.le_trans bB cx) dA),hz_r5_2,hf.sb rfl,hm.pk [4,3,2,0,5,6] rfl rfl⟩)
       refine gcf rfl (gS (gR (gB rfl (gA rfl (gE (tX (λcI a w=>∃ (bD:kX) (b8:Value),kX.le aS bD∧GT.rep bD [b8] (cI.1)∧St 145 [(2,(pV aE)),(3,(pV aF)),(4,(pV aG))] w0 bD [blk aE [.slice none 0 0] 25,blk aF [sV aO aP aI.1.fns.length aN] 25,blk aG [(tV aK.name),aT,b8] 45,blk bp0 [v1p,nV cI.2] 86,J1,J2] a w) (λjL dB=>?_) ?_))))))
       ·refine gsd 70 rfl (λfF=>?_) λfF=>?_
        ·refine gct rfl (gS (gR (gY (yG rfl (kr (vs := [(0, (nV 1))]) (cs := #[nV 1, nV 0, (tV (mkS [])), .slice none 0 0]) rfl rfl (by kernel_rfl))) (gf rfl (fun a hf => kS (vs := #[(0, (.agg #[nV 1, nV 0, (tV (mkS [])), .slice none 0 0]))]) (cs := [nV 1, nV 0, (tV (mkS [])), .slice none 0 0]) na hf hm rfl rfl (by kernel_rfl) rfl rfl) ?_))))
         rintro _ w ⟨aB,rfl,hm⟩
         replace hm:=hm.els_nil (α:=kK)
         replace hm:=hm.nilow (α:=kK)
         replace hm:Mem w0 aS _ [ow [nV 1,nV 0,(tV (mkS [])),.slice none 0 0] ((⟨1,0,(mkS []),[]⟩:kK):kK),els [] ([]:List kK),blk aB [nV 1,nV 0,(tV (mkS [])),.slice none 0 0] 80,blk bp0 [v1p,nV ae.2.p] 86,blk aG [(tV aK.name),aT,ab] 45,blk aF [sV aO aP aI.1.fns.length aN] 25,blk aE [.slice none 0 0] 25,J1,J2]:=oY 1 0 (mkS []) hm 0 rfl
         replace hm:=(hm.els_cons 1 0 (by decide) rfl rfl).pk (L':=[_,_,_,_,_,_,_,_]) [1,2,3,4,5,6,7,8] rfl rfl
         replace hm:=(hm.lit_els 1 0 (by decide) rfl rfl rfl rfl).pk (L':=[_,_,_,_,_,_,_]) [1,2,3,4,5,6,7] rfl rfl
         refine gY (yG rfl (kr (vs:=[(0,(nV 6)),(2,(sV aB 0 1 1))]) (cs:=#[nV 6,(tV (mkS [])),sV aB 0 1 1,.slice none 0 0,.slice none 0 0]) rfl rfl (by kernel_rfl))) (gAl hm zeroValue61 rfl λao w hm=>?_)
         obtain ⟨b9,aa,hz_r6_1,hmf⟩:=hm.freeze 1 rfl
         replace hm:=hmf.pk (L':=[_,_,_,_,_,_,_]) [0,2,3,4,5,6,7] rfl rfl
         clear hmf
         replace hz_r6_1:GT.rep b9 [sV aB 0 1 1] ([(⟨1,0,(mkS []),[]⟩:kK)]:List kK):=mY hz_r6_1
         refine gSN hm 0 sizeOf61 (kL rfl (kL rfl (kL rfl (kL rfl (kL rfl ke))))) rfl λw hm=>gE (gS (gS (gR (gM rfl ?_))))
         obtain ⟨fG,hle,hm1,hsub,fH⟩:=hm.take2 (L1:=[_]) (L2:=[_,_,_,_,_,_]) [1] [0,2,3,4,5,6] (by decide) rfl rfl
         refine gCg rfl call39 (ka _ fG (⟨r_.b,ae.2.p⟩:kR) bp0 v1p (GT.mono hle (GT.mono (kX.le_trans aM aa) h1p)) 5 hm1 ) ?_
         rintro jM jN jO w ⟨rfl,hB⟩
         replace hm:=fH _ _ hB;clear hB
         refine gA rfl (gE (gJg (λaD a w=>∃ (bE:kX) (aH:Value),kX.le b9 bE∧GT.rep bE [aH] (aD.2.1)∧St 145 [(2,(pV aE)),(3,(pV aF)),(4,(pV aG)),(5,(pV ao))] w0 bE [blk aE [.slice none 0 0] 25,blk aF [sV aO aP aI.1.fns.length aN] 25,blk aG [(tV aK.name),aT,ab] 45,blk ao [nV aD.1,(tV (mkS [])),sV aB 0 1 1,aH,.slice none 0 0] 61,blk bp0 [v1p,nV aD.2.2] 86,J1,J2] a w) (λaD=>?_) ?_))
         ·refine gBk (gMg (λaA a w=>∃ (aq:kX) (aC:Value),kX.le b9 aq∧GT.rep aq [aC] (aA.2.2.1)∧St 145 [(0,(pV bp0)),(2,(pV aE)),(3,(pV aF)),(4,(pV aG)),(5,(pV ao)),(6,(nV aA.2.2.2))] w0 aq [blk bp0 [v1p,nV aA.1] 86,blk aE [.slice none 0 0] 25,blk aF [sV aO aP aI.1.fns.length aN] 25,blk aG [(tV aK.name),aT,ab] 45,blk ao [nV aA.2.1,(tV (mkS [])),sV aB 0 1 1,aC,.slice none 0 0] 61,J1,J2] a w) (λa hf=>⟨b9,.slice none 0 0,(kX.le_refl _),pU,hf.sb rfl,hm.pk [0,4,3,2,1,5,6] rfl rfl⟩) ?_)
          repeat clear hm
          rintro jP fI aA a w ⟨aq,aC,aY,aj,hf,hm⟩ jQ fJ
          refine gv hf (gS (gS (gR (gM rfl (gB rfl (gE (gsd 78 rfl (λfK=>?_) λfK=>?_)))))))
          ·refine gct rfl (gSk (gS (gBk (gJg (λba a w=>∃ (bF:kX) (bb:Value),kX.le aq bF∧GT.rep bF [bb] ([(⟨aA.2.1,(mkS []),([(⟨1,0,(mkS []),[]⟩:kK)]:List kK),aA.2.2.1,[]⟩:kN)]:List kN)∧St 145 [(0,(pV bp0)),(2,(pV aE)),(3,(pV aF)),(4,(pV aG)),(5,(pV ao)),(6,(nV aA.2.2.2))] w0 bF [blk bp0 [v1p,nV ba.1] 86,blk aE [.slice none 0 0] 25,blk aF [sV aO aP aI.1.fns.length aN] 25,blk aG [(tV aK.name),aT,ab] 45,blk ao [nV ba.2,(tV (mkS [])),sV aB 0 1 1,bb,.slice none 0 0] 61,J1,J2] a w) (λba=>?_) ?_))))
           ·refine gW (.p 0 (.p 3 (.q 4 (.e 1 (.e 2 (.e 5 (.e 6 (.p 7 (.e 8 .fin .nil)) .nil) .nil) (.e 5 (.e 2 (.e 6 (.p 7 (.e 8 .fin .nil)) .nil) (.e 6 (.e 2 (.p 7 (.e 8 .fin .nil)) .nil) .nil)) .nil)) (.e 5 (.e 1 (.e 2 (.e 6 (.p 7 (.e 8 .fin .nil)) .nil) (.e 6 (.e 2 (.p 7 (.e 8 .fin .nil)) .nil) .nil)) (.e 6 (.e 1 (.e 2 (.p 7 (.e 8 .fin .nil)) .nil) .nil) .nil)) .nil))))) [1, 2, 5, 6] [0, 3, 7] hm [1, 2, 3, 4, 5, 6] [_, _, _, _, _, _] rfl mxo (by kernel_rfl) (fun _ _ _ h => h.2) fun w hm hS => tP rfl (fun w => yM rfl) (tP rfl (fun w => yF ov rfl) (tQ rfl hS (fun w hm => yL hm 3 isAgg59 rfl) (gb fun a8 ar => tMo ?_ ?_)))
            ·refine tf rfl rfl (fun a hf => kS (vs := #[(0, (nV 5)), (1, (nV 6))]) (cs := [nV 5, nV 6]) rp hf hm rfl rfl (by kernel_rfl) rfl rfl) ?_
             rintro _ w ⟨cJ,rfl,hm⟩
             replace hm:=hm.lit (xs:=([5,6]:List Int)) 0 rfl rfl rfl rfl
             refine tAk hm [2,3,4,5,6,7] rfl λhS=>tMo ?_ ?_
             ·obtain ⟨fL, hle, hm1, hsub, fM⟩ := hm.take2 (L1 := [_]) (L2 := [_, _, _, _, _, _, _]) [1] [0, 2, 3, 4, 5, 6, 7] (by decide) rfl rfl
              refine tf rfl rfl (λa hf=>lK hf rfl call53 rfl (lA _ fL (⟨r_.b,aA.1⟩:kR) bp0 v1p (GT.mono hle (GT.mono (kX.le_trans (kX.le_trans aM aa) aY) h1p)) ([5,6]:List Int) (sV cJ 0 2 2) (mY (hsub 0 _ rfl)) hm1  _ ar)) ?_
              rintro jR w ⟨rfl,hB⟩
              replace hm:=fM _ _ hB;clear hB
              refine tAk hm [2,3,4,5,6,7] rfl λhS=>tO (tY rfl (yn (hm.blk_at 5 rfl) isAgg61 sizeOf61 rfl) (tAs hS (tO (tf rfl rfl (λa hf=>kS (vs:=#[(0,(.agg #[nV aA.2.1,(tV (mkS [])),sV aB 0 1 1,aC,.slice none 0 0]))]) (cs:=[nV aA.2.1,(tV (mkS [])),sV aB 0 1 1,aC,.slice none 0 0]) mZ hf hm rfl rfl (by kernel_rfl) rfl rfl) ?_))))
              rintro _ w ⟨bc,rfl,hm⟩
              replace hm:=hm.litSh (α:=kN) (xs:=[(⟨aA.2.1,(mkS []),([(⟨1,0,(mkS []),[]⟩:kK)]:List kK),aA.2.2.1,[]⟩:kN)]) 0 rfl (.cons (c:=[nV aA.2.1,(tV (mkS [])),sV aB 0 1 1,aC,.slice none 0 0]) (x:=((⟨aA.2.1,(mkS []),([(⟨1,0,(mkS []),[]⟩:kK)]:List kK),aA.2.2.1,[]⟩:kN):kN)) (qC.2 ⟨[nV aA.2.1],[(tV (mkS [])),sV aB 0 1 1,aC,.slice none 0 0],rfl,(Flat.rep_iff.2 rfl),⟨[(tV (mkS []))],[sV aB 0 1 1,aC,.slice none 0 0],rfl,(Flat.rep_iff.2 rfl),⟨[sV aB 0 1 1],[aC,.slice none 0 0],rfl,(GT.mono aY hz_r6_1),⟨[aC],[.slice none 0 0],rfl,aj,pU⟩⟩⟩⟩) .nil) rfl rfl
              refine tAk hm [3,4,5,6,7,8] rfl λhS=>tP rfl (λw=>yG rfl (kr (vs:=[(0,(nV a8.1)),(2,(sV aB 0 1 1)),(3,(sV bc 0 1 1))]) (cs:=#[nV a8.1,(tV (mkS [])),sV aB 0 1 1,sV bc 0 1 1,.slice none 0 0]) rfl rfl (by kernel_rfl))) (tO ?_)
              obtain ⟨dC,dD,hz_r9_1,hmf⟩:=hm.freeze 0 rfl
              replace hm:=hmf.pk (L':=[_,_,_,_,_,_,_,_]) [1,2,3,4,5,6,7,8] rfl rfl
              clear hmf
              replace hz_r9_1:GT.rep dC [sV bc 0 1 1] ([(⟨aA.2.1,(mkS []),([(⟨1,0,(mkS []),[]⟩:kK)]:List kK),aA.2.2.1,[]⟩:kN)]:List kN):=oO dD (mY hz_r9_1)
              refine tf0 rfl rfl (λa hf=>nH 5 hf hm rfl sizeOf61 rfl rfl rfl (kL rfl (kL rfl (kL rfl (kL rfl (kL rfl ke))))) rfl rfl) ?_
              rintro _ w hm
              exact tAn rfl (tE (gZ λa hf=>⟨dC,sV bc 0 1 1,dD,hz_r9_1,hf.sb rfl,hm.pk [0,2,3,4,5,6,7] rfl rfl⟩))
             refine tO (tY rfl (yn (hm.blk_at 5 rfl) isAgg61 sizeOf61 rfl) (tAs hS (tMo ?_ ?_)))
             ·obtain ⟨fN, hle, hm1, hsub, fO⟩ := hm.take2 (L1 := [_]) (L2 := [_, _, _, _, _, _, _]) [1] [0, 2, 3, 4, 5, 6, 7] (by decide) rfl rfl
              refine tf rfl rfl (λa hf=>lK hf rfl call53 rfl (lA _ fN (⟨r_.b,aA.1⟩:kR) bp0 v1p (GT.mono hle (GT.mono (kX.le_trans (kX.le_trans aM aa) aY) h1p)) ([5,6]:List Int) (sV cJ 0 2 2) (mY (hsub 0 _ rfl)) hm1  _ ar)) ?_
              rintro jS w ⟨rfl,hB⟩
              replace hm:=fO _ _ hB;clear hB
              refine tAk hm [2,3,4,5,6,7] rfl λhS=>tO (tf rfl rfl (λa hf=>kS (vs:=#[(0,(.agg #[nV aA.2.1,(tV (mkS [])),sV aB 0 1 1,aC,.slice none 0 0]))]) (cs:=[nV aA.2.1,(tV (mkS [])),sV aB 0 1 1,aC,.slice none 0 0]) mZ hf hm rfl rfl (by kernel_rfl) rfl rfl) ?_)
              rintro _ w ⟨bd,rfl,hm⟩
              replace hm:=hm.litSh (α:=kN) (xs:=[(⟨aA.2.1,(mkS []),([(⟨1,0,(mkS []),[]⟩:kK)]:List kK),aA.2.2.1,[]⟩:kN)]) 0 rfl (.cons (c:=[nV aA.2.1,(tV (mkS [])),sV aB 0 1 1,aC,.slice none 0 0]) (x:=((⟨aA.2.1,(mkS []),([(⟨1,0,(mkS []),[]⟩:kK)]:List kK),aA.2.2.1,[]⟩:kN):kN)) (qC.2 ⟨[nV aA.2.1],[(tV (mkS [])),sV aB 0 1 1,aC,.slice none 0 0],rfl,(Flat.rep_iff.2 rfl),⟨[(tV (mkS []))],[sV aB 0 1 1,aC,.slice none 0 0],rfl,(Flat.rep_iff.2 rfl),⟨[sV aB 0 1 1],[aC,.slice none 0 0],rfl,(GT.mono aY hz_r6_1),⟨[aC],[.slice none 0 0],rfl,aj,pU⟩⟩⟩⟩) .nil) rfl rfl
              refine tAk hm [3,4,5,6,7,8] rfl λhS=>tP rfl (λw=>yG rfl (kr (vs:=[(0,(nV a8.1)),(2,(sV aB 0 1 1)),(3,(sV bd 0 1 1))]) (cs:=#[nV a8.1,(tV (mkS [])),sV aB 0 1 1,sV bd 0 1 1,.slice none 0 0]) rfl rfl (by kernel_rfl))) (tO ?_)
              obtain ⟨dE,dF,hz_r9_2,hmf⟩:=hm.freeze 0 rfl
              replace hm:=hmf.pk (L':=[_,_,_,_,_,_,_,_]) [1,2,3,4,5,6,7,8] rfl rfl
              clear hmf
              replace hz_r9_2:GT.rep dE [sV bd 0 1 1] ([(⟨aA.2.1,(mkS []),([(⟨1,0,(mkS []),[]⟩:kK)]:List kK),aA.2.2.1,[]⟩:kN)]:List kN):=oO dF (mY hz_r9_2)
              refine tf0 rfl rfl (λa hf=>nH 5 hf hm rfl sizeOf61 rfl rfl rfl (kL rfl (kL rfl (kL rfl (kL rfl (kL rfl ke))))) rfl rfl) ?_
              rintro _ w hm
              exact tAn rfl (tE (gZ λa hf=>⟨dE,sV bd 0 1 1,dF,hz_r9_2,hf.sb rfl,hm.pk [0,2,3,4,5,6,7] rfl rfl⟩))
             refine tO (tf rfl rfl (λa hf=>kS (vs:=#[(0,(.agg #[nV aA.2.1,(tV (mkS [])),sV aB 0 1 1,aC,.slice none 0 0]))]) (cs:=[nV aA.2.1,(tV (mkS [])),sV aB 0 1 1,aC,.slice none 0 0]) mZ hf hm rfl rfl (by kernel_rfl) rfl rfl) ?_)
             rintro _ w ⟨be,rfl,hm⟩
             replace hm:=hm.litSh (α:=kN) (xs:=[(⟨aA.2.1,(mkS []),([(⟨1,0,(mkS []),[]⟩:kK)]:List kK),aA.2.2.1,[]⟩:kN)]) 0 rfl (.cons (c:=[nV aA.2.1,(tV (mkS [])),sV aB 0 1 1,aC,.slice none 0 0]) (x:=((⟨aA.2.1,(mkS []),([(⟨1,0,(mkS []),[]⟩:kK)]:List kK),aA.2.2.1,[]⟩:kN):kN)) (qC.2 ⟨[nV aA.2.1],[(tV (mkS [])),sV aB 0 1 1,aC,.slice none 0 0],rfl,(Flat.rep_iff.2 rfl),⟨[(tV (mkS []))],[sV aB 0 1 1,aC,.slice none 0 0],rfl,(Flat.rep_iff.2 rfl),⟨[sV aB 0 1 1],[aC,.slice none 0 0],rfl,(GT.mono aY hz_r6_1),⟨[aC],[.slice none 0 0],rfl,aj,pU⟩⟩⟩⟩) .nil) rfl rfl
             refine tAk hm [3,4,5,6,7,8] rfl λhS=>tO ?_
             obtain ⟨fP,hle,hm1,hsub,fQ⟩:=hm.take2 (L1:=[_]) (L2:=[_,_,_,_,_,_,_,_]) [2] [0,1,3,4,5,6,7,8] (by decide) rfl rfl
             refine tf rfl rfl (λa hf=>lK hf rfl call53 rfl (lA _ fP (⟨r_.b,aA.1⟩:kR) bp0 v1p (GT.mono hle (GT.mono (kX.le_trans (kX.le_trans aM aa) aY) h1p)) ([5,6]:List Int) (sV cJ 0 2 2) (mY (hsub 1 _ rfl)) hm1  _ ar)) ?_
             rintro jT w ⟨rfl,hB⟩
             replace hm:=fQ _ _ hB;clear hB
             refine tAk hm [3,4,5,6,7,8] rfl λhS=>tP rfl (λw=>yG rfl (kr (vs:=[(0,(nV a8.1)),(2,(sV aB 0 1 1)),(3,(sV be 0 1 1))]) (cs:=#[nV a8.1,(tV (mkS [])),sV aB 0 1 1,sV be 0 1 1,.slice none 0 0]) rfl rfl (by kernel_rfl))) (tO ?_)
             obtain ⟨dG,dH,hz_r9_3,hmf⟩:=hm.freeze 1 rfl
             replace hm:=hmf.pk (L':=[_,_,_,_,_,_,_,_]) [0,2,3,4,5,6,7,8] rfl rfl
             clear hmf
             replace hz_r9_3:GT.rep dG [sV be 0 1 1] ([(⟨aA.2.1,(mkS []),([(⟨1,0,(mkS []),[]⟩:kK)]:List kK),aA.2.2.1,[]⟩:kN)]:List kN):=oO dH (mY hz_r9_3)
             refine tf0 rfl rfl (λa hf=>nH 5 hf hm rfl sizeOf61 rfl rfl rfl (kL rfl (kL rfl (kL rfl (kL rfl (kL rfl ke))))) rfl rfl) ?_
             rintro _ w hm
             exact tAn rfl (tE (gZ λa hf=>⟨dG,sV be 0 1 1,dH,hz_r9_3,hf.sb rfl,hm.pk [0,2,3,4,5,6,7] rfl rfl⟩))
            refine tO (tY rfl (yn (hm.blk_at 4 rfl) isAgg61 sizeOf61 rfl) (tAs hS (tMo ?_ ?_)))
            ·refine tf rfl rfl (fun a hf => kS (vs := #[(0, (nV 5)), (1, (nV 6))]) (cs := [nV 5, nV 6]) rp hf hm rfl rfl (by kernel_rfl) rfl rfl) ?_
             rintro _ w ⟨dI,rfl,hm⟩
             replace hm:=hm.lit (xs:=([5,6]:List Int)) 0 rfl rfl rfl rfl
             refine tAk hm [2,3,4,5,6,7] rfl λhS=>tMo ?_ ?_
             ·obtain ⟨fR, hle, hm1, hsub, fS⟩ := hm.take2 (L1 := [_]) (L2 := [_, _, _, _, _, _, _]) [1] [0, 2, 3, 4, 5, 6, 7] (by decide) rfl rfl
              refine tf rfl rfl (λa hf=>lK hf rfl call53 rfl (lA _ fR (⟨r_.b,aA.1⟩:kR) bp0 v1p (GT.mono hle (GT.mono (kX.le_trans (kX.le_trans aM aa) aY) h1p)) ([5,6]:List Int) (sV dI 0 2 2) (mY (hsub 0 _ rfl)) hm1  _ ar)) ?_
              rintro jU w ⟨rfl,hB⟩
              replace hm:=fS _ _ hB;clear hB
              refine tAk hm [2,3,4,5,6,7] rfl λhS=>tO (tf rfl rfl (λa hf=>kS (vs:=#[(0,(.agg #[nV aA.2.1,(tV (mkS [])),sV aB 0 1 1,aC,.slice none 0 0]))]) (cs:=[nV aA.2.1,(tV (mkS [])),sV aB 0 1 1,aC,.slice none 0 0]) mZ hf hm rfl rfl (by kernel_rfl) rfl rfl) ?_)
              rintro _ w ⟨bf,rfl,hm⟩
              replace hm:=hm.litSh (α:=kN) (xs:=[(⟨aA.2.1,(mkS []),([(⟨1,0,(mkS []),[]⟩:kK)]:List kK),aA.2.2.1,[]⟩:kN)]) 0 rfl (.cons (c:=[nV aA.2.1,(tV (mkS [])),sV aB 0 1 1,aC,.slice none 0 0]) (x:=((⟨aA.2.1,(mkS []),([(⟨1,0,(mkS []),[]⟩:kK)]:List kK),aA.2.2.1,[]⟩:kN):kN)) (qC.2 ⟨[nV aA.2.1],[(tV (mkS [])),sV aB 0 1 1,aC,.slice none 0 0],rfl,(Flat.rep_iff.2 rfl),⟨[(tV (mkS []))],[sV aB 0 1 1,aC,.slice none 0 0],rfl,(Flat.rep_iff.2 rfl),⟨[sV aB 0 1 1],[aC,.slice none 0 0],rfl,(GT.mono aY hz_r6_1),⟨[aC],[.slice none 0 0],rfl,aj,pU⟩⟩⟩⟩) .nil) rfl rfl
              refine tAk hm [3,4,5,6,7,8] rfl λhS=>tP rfl (λw=>yG rfl (kr (vs:=[(0,(nV a8.1)),(2,(sV aB 0 1 1)),(3,(sV bf 0 1 1))]) (cs:=#[nV a8.1,(tV (mkS [])),sV aB 0 1 1,sV bf 0 1 1,.slice none 0 0]) rfl rfl (by kernel_rfl))) (tO ?_)
              obtain ⟨dJ,dK,hz_r9_4,hmf⟩:=hm.freeze 0 rfl
              replace hm:=hmf.pk (L':=[_,_,_,_,_,_,_,_]) [1,2,3,4,5,6,7,8] rfl rfl
              clear hmf
              replace hz_r9_4:GT.rep dJ [sV bf 0 1 1] ([(⟨aA.2.1,(mkS []),([(⟨1,0,(mkS []),[]⟩:kK)]:List kK),aA.2.2.1,[]⟩:kN)]:List kN):=oO dK (mY hz_r9_4)
              refine tf0 rfl rfl (λa hf=>nH 5 hf hm rfl sizeOf61 rfl rfl rfl (kL rfl (kL rfl (kL rfl (kL rfl (kL rfl ke))))) rfl rfl) ?_
              rintro _ w hm
              exact tAn rfl (tE (gZ λa hf=>⟨dJ,sV bf 0 1 1,dK,hz_r9_4,hf.sb rfl,hm.pk [0,2,3,4,5,6,7] rfl rfl⟩))
             refine tO (tf rfl rfl (λa hf=>kS (vs:=#[(0,(.agg #[nV aA.2.1,(tV (mkS [])),sV aB 0 1 1,aC,.slice none 0 0]))]) (cs:=[nV aA.2.1,(tV (mkS [])),sV aB 0 1 1,aC,.slice none 0 0]) mZ hf hm rfl rfl (by kernel_rfl) rfl rfl) ?_)
             rintro _ w ⟨bg,rfl,hm⟩
             replace hm:=hm.litSh (α:=kN) (xs:=[(⟨aA.2.1,(mkS []),([(⟨1,0,(mkS []),[]⟩:kK)]:List kK),aA.2.2.1,[]⟩:kN)]) 0 rfl (.cons (c:=[nV aA.2.1,(tV (mkS [])),sV aB 0 1 1,aC,.slice none 0 0]) (x:=((⟨aA.2.1,(mkS []),([(⟨1,0,(mkS []),[]⟩:kK)]:List kK),aA.2.2.1,[]⟩:kN):kN)) (qC.2 ⟨[nV aA.2.1],[(tV (mkS [])),sV aB 0 1 1,aC,.slice none 0 0],rfl,(Flat.rep_iff.2 rfl),⟨[(tV (mkS []))],[sV aB 0 1 1,aC,.slice none 0 0],rfl,(Flat.rep_iff.2 rfl),⟨[sV aB 0 1 1],[aC,.slice none 0 0],rfl,(GT.mono aY hz_r6_1),⟨[aC],[.slice none 0 0],rfl,aj,pU⟩⟩⟩⟩) .nil) rfl rfl
             refine tAk hm [3,4,5,6,7,8] rfl λhS=>tO ?_
             obtain ⟨fT,hle,hm1,hsub,fU⟩:=hm.take2 (L1:=[_]) (L2:=[_,_,_,_,_,_,_,_]) [2] [0,1,3,4,5,6,7,8] (by decide) rfl rfl
             refine tf rfl rfl (λa hf=>lK hf rfl call53 rfl (lA _ fT (⟨r_.b,aA.1⟩:kR) bp0 v1p (GT.mono hle (GT.mono (kX.le_trans (kX.le_trans aM aa) aY) h1p)) ([5,6]:List Int) (sV dI 0 2 2) (mY (hsub 1 _ rfl)) hm1  _ ar)) ?_
             rintro jV w ⟨rfl,hB⟩
             replace hm:=fU _ _ hB;clear hB
             refine tAk hm [3,4,5,6,7,8] rfl λhS=>tP rfl (λw=>yG rfl (kr (vs:=[(0,(nV a8.1)),(2,(sV aB 0 1 1)),(3,(sV bg 0 1 1))]) (cs:=#[nV a8.1,(tV (mkS [])),sV aB 0 1 1,sV bg 0 1 1,.slice none 0 0]) rfl rfl (by kernel_rfl))) (tO ?_)
             obtain ⟨dL,dM,hz_r9_5,hmf⟩:=hm.freeze 1 rfl
             replace hm:=hmf.pk (L':=[_,_,_,_,_,_,_,_]) [0,2,3,4,5,6,7,8] rfl rfl
             clear hmf
             replace hz_r9_5:GT.rep dL [sV bg 0 1 1] ([(⟨aA.2.1,(mkS []),([(⟨1,0,(mkS []),[]⟩:kK)]:List kK),aA.2.2.1,[]⟩:kN)]:List kN):=oO dM (mY hz_r9_5)
             refine tf0 rfl rfl (λa hf=>nH 5 hf hm rfl sizeOf61 rfl rfl rfl (kL rfl (kL rfl (kL rfl (kL rfl (kL rfl ke))))) rfl rfl) ?_
             rintro _ w hm
             exact tAn rfl (tE (gZ λa hf=>⟨dL,sV bg 0 1 1,dM,hz_r9_5,hf.sb rfl,hm.pk [0,2,3,4,5,6,7] rfl rfl⟩))
            refine tO (tf rfl rfl (λa hf=>kS (vs:=#[(0,(.agg #[nV aA.2.1,(tV (mkS [])),sV aB 0 1 1,aC,.slice none 0 0]))]) (cs:=[nV aA.2.1,(tV (mkS [])),sV aB 0 1 1,aC,.slice none 0 0]) mZ hf hm rfl rfl (by kernel_rfl) rfl rfl) ?_)
            rintro _ w ⟨bh,rfl,hm⟩
            replace hm:=hm.litSh (α:=kN) (xs:=[(⟨aA.2.1,(mkS []),([(⟨1,0,(mkS []),[]⟩:kK)]:List kK),aA.2.2.1,[]⟩:kN)]) 0 rfl (.cons (c:=[nV aA.2.1,(tV (mkS [])),sV aB 0 1 1,aC,.slice none 0 0]) (x:=((⟨aA.2.1,(mkS []),([(⟨1,0,(mkS []),[]⟩:kK)]:List kK),aA.2.2.1,[]⟩:kN):kN)) (qC.2 ⟨[nV aA.2.1],[(tV (mkS [])),sV aB 0 1 1,aC,.slice none 0 0],rfl,(Flat.rep_iff.2 rfl),⟨[(tV (mkS []))],[sV aB 0 1 1,aC,.slice none 0 0],rfl,(Flat.rep_iff.2 rfl),⟨[sV aB 0 1 1],[aC,.slice none 0 0],rfl,(GT.mono aY hz_r6_1),⟨[aC],[.slice none 0 0],rfl,aj,pU⟩⟩⟩⟩) .nil) rfl rfl
            refine tAk hm [2,3,4,5,6,7] rfl λhS=>tO (tf rfl rfl (λa hf=>kS (vs:=#[(0,(nV 5)),(1,(nV 6))]) (cs:=[nV 5,nV 6]) rp hf hm rfl rfl (by kernel_rfl) rfl rfl) ?_)
            rintro _ w ⟨fV,rfl,hm⟩
            replace hm:=hm.lit (xs:=([5,6]:List Int)) 0 rfl rfl rfl rfl
            refine tAk hm [3,4,5,6,7,8] rfl λhS=>tO ?_
            obtain ⟨fW,hle,hm1,hsub,fX⟩:=hm.take2 (L1:=[_]) (L2:=[_,_,_,_,_,_,_,_]) [2] [0,1,3,4,5,6,7,8] (by decide) rfl rfl
            refine tf rfl rfl (λa hf=>lK hf rfl call53 rfl (lA _ fW (⟨r_.b,aA.1⟩:kR) bp0 v1p (GT.mono hle (GT.mono (kX.le_trans (kX.le_trans aM aa) aY) h1p)) ([5,6]:List Int) (sV fV 0 2 2) (mY (hsub 0 _ rfl)) hm1  _ ar)) ?_
            rintro jW w ⟨rfl,hB⟩
            replace hm:=fX _ _ hB;clear hB
            refine tAk hm [3,4,5,6,7,8] rfl λhS=>tP rfl (λw=>yG rfl (kr (vs:=[(0,(nV a8.1)),(2,(sV aB 0 1 1)),(3,(sV bh 0 1 1))]) (cs:=#[nV a8.1,(tV (mkS [])),sV aB 0 1 1,sV bh 0 1 1,.slice none 0 0]) rfl rfl (by kernel_rfl))) (tO ?_)
            obtain ⟨dN,dO,hz_r9_6,hmf⟩:=hm.freeze 2 rfl
            replace hm:=hmf.pk (L':=[_,_,_,_,_,_,_,_]) [0,1,3,4,5,6,7,8] rfl rfl
            clear hmf
            replace hz_r9_6:GT.rep dN [sV bh 0 1 1] ([(⟨aA.2.1,(mkS []),([(⟨1,0,(mkS []),[]⟩:kK)]:List kK),aA.2.2.1,[]⟩:kN)]:List kN):=oO dO (mY hz_r9_6)
            refine tf0 rfl rfl (λa hf=>nH 5 hf hm rfl sizeOf61 rfl rfl rfl (kL rfl (kL rfl (kL rfl (kL rfl (kL rfl ke))))) rfl rfl) ?_
            rintro _ w hm
            exact tAn rfl (tE (gZ λa hf=>⟨dN,sV bh 0 1 1,dO,hz_r9_6,hf.sb rfl,hm.pk [0,2,3,4,5,6,7] rfl rfl⟩))
           repeat clear hm
           rintro ba a w ⟨bF,bb,fY,fZ,hf,hm⟩
           exact gv hf (gR (gM rfl (gB rfl (gA rfl (gE (gZe λa hf=>⟨bF,bb,(kX.le_trans aY fY),fZ,hf.sb rfl,hm.pk [0,1,2,3,4,5,6] rfl rfl⟩))))))
          exact gcf rfl (gXt (gHh (gLp fJ fI (gZ λa hf=>⟨aq,aC,aY,aj,hf.sb rfl,hm.pk [1,2,3,4,0,5,6] rfl rfl⟩))))
         repeat clear hm
         rintro aD a w ⟨bE,aH,ak,cK,hf,hm⟩
         refine gv hf (gJg (λcL a w=>∃ (bG:kX) (bi:Value),kX.le bE bG∧GT.rep bG [bi] (cL)∧St 145 [(2,(pV aE)),(3,(pV aF)),(4,(pV aG))] w0 bG [blk aE [.slice none 0 0] 25,blk aF [sV aO aP aI.1.fns.length aN] 25,blk aG [(tV aK.name),aT,bi] 45,blk bp0 [v1p,nV aD.2.2] 86,J1,J2] a w) (λcL=>?_) ?_)
         ·refine gW (.p 1 (.q 2 (.q 4 (.e 0 (.e 3 (.e 5 (.e 6 (.p 7 (.e 8 .fin .nil)) .nil) .nil) (.e 5 (.e 3 (.e 6 (.p 7 (.e 8 .fin .nil)) .nil) .nil) .nil)) (.e 5 (.e 0 (.e 3 (.e 6 (.p 7 (.e 8 .fin .nil)) .nil) .nil) .nil) .nil))))) [0, 2, 3, 4, 5] [1, 7] hm [0, 1, 2, 3, 4, 5, 6] [_, _, _, _, _, _, _] rfl mxo (by kernel_rfl) (fun _ _ _ h => h.2) fun w hm hS => tP rfl (fun w => yF oE rfl) (tQ rfl hS (fun w hm => yL hm 2 isAgg43 rfl) (tQ rfl hS (fun w hm => yn (hm.blk_at 3 rfl) isAgg61 sizeOf61 rfl) (gb fun cN cO => gb fun cP cQ => tMo ?_ ?_)))
          ·refine tf rfl rfl (λa hf=>nZ (α:=kN) mZ hm rfl) ?_
           rintro jX w hm
           refine tAk hm [1,2,3,4,5,6,7] rfl λhS=>tMo ?_ ?_
           ·obtain ⟨jY,au,hm⟩:=hm.shallow (α:=kN) 0 rfl
            obtain ⟨f8,f9⟩:=kb.1 cO
            refine tf rfl rfl (λa hf=>mW (α:=kN) (xs:=([]:List kN)) (ys:=aK.body) 0 mZ hf hm rfl (tU hm.lez (GT.mono (kX.le_trans (kX.le_trans aa ak) au) ac)) rfl rfl rfl f8) ?_
            rintro jZ w hm
            rw [f9] at hm
            refine tAk (hm.thaw au) [1,2,3,4,5,6,7] rfl λhS=>tO (tf rfl rfl (λa hf=>kS (vs:=#[(0,(.agg #[nV aD.1,(tV (mkS [])),sV aB 0 1 1,aH,.slice none 0 0]))]) (cs:=[nV aD.1,(tV (mkS [])),sV aB 0 1 1,aH,.slice none 0 0]) mZ hf hm rfl rfl (by kernel_rfl) rfl rfl) ?_)
            rintro _ w ⟨j6,rfl,hm⟩
            replace hm:=hm.litSh (α:=kN) (xs:=[(⟨aD.1,(mkS []),([(⟨1,0,(mkS []),[]⟩:kK)]:List kK),aD.2.1,[]⟩:kN)]) 0 rfl (.cons (c:=[nV aD.1,(tV (mkS [])),sV aB 0 1 1,aH,.slice none 0 0]) (x:=((⟨aD.1,(mkS []),([(⟨1,0,(mkS []),[]⟩:kK)]:List kK),aD.2.1,[]⟩:kN):kN)) (qC.2 ⟨[nV aD.1],[(tV (mkS [])),sV aB 0 1 1,aH,.slice none 0 0],rfl,(Flat.rep_iff.2 rfl),⟨[(tV (mkS []))],[sV aB 0 1 1,aH,.slice none 0 0],rfl,(Flat.rep_iff.2 rfl),⟨[sV aB 0 1 1],[aH,.slice none 0 0],rfl,(GT.mono (kX.le_trans ak au) hz_r6_1),⟨[aH],[.slice none 0 0],rfl,(GT.mono au cK),pU⟩⟩⟩⟩) .nil) rfl rfl
            refine tAk (hm.thaw au) [2,3,4,5,6,7,8] rfl λhS=>tO ?_
            obtain ⟨fa,fb⟩:=kb.1 cQ
            refine tf rfl rfl (λa hf=>mW (α:=kN) (xs:=cN) (ys:=([(⟨aD.1,(mkS []),([(⟨1,0,(mkS []),[]⟩:kK)]:List kK),aD.2.1,[]⟩:kN)]:List kN)) 1 mZ hf hm rfl (hm.ow_rep 0 rfl) rfl rfl rfl fa) ?_
            rintro dP w hm
            rw [fb] at hm
            refine tAn rfl (tP rfl (λw=>yF oE rfl) (tO ?_))
            obtain ⟨dQ,dR,hz_r7_1,hmf⟩:=hm.freeze 1 rfl
            replace hm:=hmf.pk (L':=[_,_,_,_,_,_,_,_]) [0,2,3,4,5,6,7,8] rfl rfl
            clear hmf
            replace hz_r7_1:GT.rep dQ [dP] cP:=oO dR (mY hz_r7_1)
            refine tf0 rfl rfl (λa hf=>nP 3 hf hm rfl sizeOf43 rfl rfl rfl (ki hz_r7_1) rfl) ?_
            rintro _ w hm
            exact tAn rfl (tE (gZ λa hf=>⟨dQ,dP,(kX.le_trans au dR),hz_r7_1,hf.sb rfl,hm.pk [1,2,3,5,6,7] rfl rfl⟩))
           refine tO (tf rfl rfl (λa hf=>kS (vs:=#[(0,(.agg #[nV aD.1,(tV (mkS [])),sV aB 0 1 1,aH,.slice none 0 0]))]) (cs:=[nV aD.1,(tV (mkS [])),sV aB 0 1 1,aH,.slice none 0 0]) mZ hf hm rfl rfl (by kernel_rfl) rfl rfl) ?_)
           rintro _ w ⟨j7,rfl,hm⟩
           replace hm:=hm.litSh (α:=kN) (xs:=[(⟨aD.1,(mkS []),([(⟨1,0,(mkS []),[]⟩:kK)]:List kK),aD.2.1,[]⟩:kN)]) 0 rfl (.cons (c:=[nV aD.1,(tV (mkS [])),sV aB 0 1 1,aH,.slice none 0 0]) (x:=((⟨aD.1,(mkS []),([(⟨1,0,(mkS []),[]⟩:kK)]:List kK),aD.2.1,[]⟩:kN):kN)) (qC.2 ⟨[nV aD.1],[(tV (mkS [])),sV aB 0 1 1,aH,.slice none 0 0],rfl,(Flat.rep_iff.2 rfl),⟨[(tV (mkS []))],[sV aB 0 1 1,aH,.slice none 0 0],rfl,(Flat.rep_iff.2 rfl),⟨[sV aB 0 1 1],[aH,.slice none 0 0],rfl,(GT.mono ak hz_r6_1),⟨[aH],[.slice none 0 0],rfl,cK,pU⟩⟩⟩⟩) .nil) rfl rfl
           refine tAk hm [2,3,4,5,6,7,8] rfl λhS=>tO ?_
           obtain ⟨j8,bj,hm⟩:=hm.shallow (α:=kN) 1 rfl
           obtain ⟨fc,fd⟩:=kb.1 cO
           refine tf rfl rfl (λa hf=>mW (α:=kN) (xs:=([]:List kN)) (ys:=aK.body) 1 mZ hf hm rfl (tU hm.lez (GT.mono (kX.le_trans (kX.le_trans aa ak) bj) ac)) rfl rfl rfl fc) ?_
           rintro j9 w hm
           rw [fd] at hm
           refine tAk (hm.thaw bj) [2,3,4,5,6,7,8] rfl λhS=>tO ?_
           obtain ⟨fe,ff⟩:=kb.1 cQ
           replace hm:=hm.sh_up bj 0 rfl
           refine tf rfl rfl (λa hf=>mW (α:=kN) (xs:=cN) (ys:=([(⟨aD.1,(mkS []),([(⟨1,0,(mkS []),[]⟩:kK)]:List kK),aD.2.1,[]⟩:kN)]:List kN)) 1 mZ hf hm rfl (hm.ow_rep 0 rfl) rfl rfl rfl fe) ?_
           rintro dS w hm
           rw [ff] at hm
           refine tAn rfl (tP rfl (λw=>yF oE rfl) (tO ?_))
           obtain ⟨dT,dU,hz_r7_2,hmf⟩:=hm.freeze 1 rfl
           replace hm:=hmf.pk (L':=[_,_,_,_,_,_,_,_]) [0,2,3,4,5,6,7,8] rfl rfl
           clear hmf
           replace hz_r7_2:GT.rep dT [dS] cP:=oO dU (mY hz_r7_2)
           refine tf0 rfl rfl (λa hf=>nP 3 hf hm rfl sizeOf43 rfl rfl rfl (ki hz_r7_2) rfl) ?_
           rintro _ w hm
           exact tAn rfl (tE (gZ λa hf=>⟨dT,dS,(kX.le_trans bj dU),hz_r7_2,hf.sb rfl,hm.pk [1,2,3,5,6,7] rfl rfl⟩))
          refine tO (tf rfl rfl (λa hf=>kS (vs:=#[(0,(.agg #[nV aD.1,(tV (mkS [])),sV aB 0 1 1,aH,.slice none 0 0]))]) (cs:=[nV aD.1,(tV (mkS [])),sV aB 0 1 1,aH,.slice none 0 0]) mZ hf hm rfl rfl (by kernel_rfl) rfl rfl) ?_)
          rintro _ w ⟨ja,rfl,hm⟩
          replace hm:=hm.litSh (α:=kN) (xs:=[(⟨aD.1,(mkS []),([(⟨1,0,(mkS []),[]⟩:kK)]:List kK),aD.2.1,[]⟩:kN)]) 0 rfl (.cons (c:=[nV aD.1,(tV (mkS [])),sV aB 0 1 1,aH,.slice none 0 0]) (x:=((⟨aD.1,(mkS []),([(⟨1,0,(mkS []),[]⟩:kK)]:List kK),aD.2.1,[]⟩:kN):kN)) (qC.2 ⟨[nV aD.1],[(tV (mkS [])),sV aB 0 1 1,aH,.slice none 0 0],rfl,(Flat.rep_iff.2 rfl),⟨[(tV (mkS []))],[sV aB 0 1 1,aH,.slice none 0 0],rfl,(Flat.rep_iff.2 rfl),⟨[sV aB 0 1 1],[aH,.slice none 0 0],rfl,(GT.mono ak hz_r6_1),⟨[aH],[.slice none 0 0],rfl,cK,pU⟩⟩⟩⟩) .nil) rfl rfl
          refine tAk hm [1,2,3,4,5,6,7] rfl λhS=>tO (tf rfl rfl (λa hf=>nZ (α:=kN) mZ hm rfl) ?_)
          rintro jc w hm
          refine tAk hm [2,3,4,5,6,7,8] rfl λhS=>tO ?_
          obtain ⟨jd,bk,hm⟩:=hm.shallow (α:=kN) 0 rfl
          obtain ⟨fg,fh⟩:=kb.1 cO
          refine tf rfl rfl (λa hf=>mW (α:=kN) (xs:=([]:List kN)) (ys:=aK.body) 0 mZ hf hm rfl (tU hm.lez (GT.mono (kX.le_trans (kX.le_trans aa ak) bk) ac)) rfl rfl rfl fg) ?_
          rintro je w hm
          rw [fh] at hm
          refine tAk (hm.thaw bk) [2,3,4,5,6,7,8] rfl λhS=>tO ?_
          obtain ⟨fj,fk⟩:=kb.1 cQ
          replace hm:=hm.sh_up bk 1 rfl
          refine tf rfl rfl (λa hf=>mW (α:=kN) (xs:=cN) (ys:=([(⟨aD.1,(mkS []),([(⟨1,0,(mkS []),[]⟩:kK)]:List kK),aD.2.1,[]⟩:kN)]:List kN)) 0 mZ hf hm rfl (hm.ow_rep 1 rfl) rfl rfl rfl fj) ?_
          rintro dV w hm
          rw [fk] at hm
          refine tAn rfl (tP rfl (λw=>yF oE rfl) (tO ?_))
          obtain ⟨dW,dX,hz_r7_3,hmf⟩:=hm.freeze 0 rfl
          replace hm:=hmf.pk (L':=[_,_,_,_,_,_,_,_]) [1,2,3,4,5,6,7,8] rfl rfl
          clear hmf
          replace hz_r7_3:GT.rep dW [dV] cP:=oO dX (mY hz_r7_3)
          refine tf0 rfl rfl (λa hf=>nP 3 hf hm rfl sizeOf43 rfl rfl rfl (ki hz_r7_3) rfl) ?_
          rintro _ w hm
          exact tAn rfl (tE (gZ λa hf=>⟨dW,dV,(kX.le_trans bk dX),hz_r7_3,hf.sb rfl,hm.pk [1,2,3,5,6,7] rfl rfl⟩))
         repeat clear hm
         rintro cL a w ⟨bG,bi,fm,fo,hf,hm⟩
         exact gv hf (gZe λa hf=>⟨bG,bi,(kX.le_trans (kX.le_trans aa ak) fm),fo,hf.sb rfl,hm.pk [0,1,2,3,4,5] rfl rfl⟩)
        refine gcf rfl (gS (gR (gB rfl (gA rfl (gE (gsd 97 rfl (λfp=>?_) λfp=>?_))))))
        ·exact gct rfl (gS (gR (gY (yG rfl (kr (vs:=[]) (cs:=#[.slice none 0 0]) rfl rfl (by kernel_rfl))) (gSN hm 3 sizeOf25 (kL rfl ke) rfl λw hm=>gE (gRt (gEr dB (gEr ct (gEr ck (gEr ce (gEr cd (gEr cc (grc 3 results16 hm rfl isAgg25 sizeOf25 ⟨.slice none 0 0,aS,rfl,aM,pU,hm.pk [4,5,0] rfl rfl⟩))))))))))))
        refine gcf rfl (gS (gR (gB rfl (gA rfl (gE (tX (λcR a w=>∃ (bH:kX) (bl:Value),kX.le aS bH∧GT.rep bH [bl] (cR.1)∧St 145 [(2,(pV aE)),(3,(pV aF)),(4,(pV aG))] w0 bH [blk aE [.slice none 0 0] 25,blk aF [sV aO aP aI.1.fns.length aN] 25,blk aG [(tV aK.name),aT,bl] 45,blk bp0 [v1p,nV cR.2] 86,J1,J2] a w) (λjf fq=>?_) ?_))))))
        ·refine gsd 100 rfl (λfr=>?_) λfr=>?_
         ·refine gct rfl (gS (gR (gM rfl (gf rfl (fun a hf => kS (vs := #[(0, (nV 20)), (1, (nV 40)), (2, (nV 41))]) (cs := [nV 20, nV 40, nV 41]) rp hf hm rfl rfl (by kernel_rfl) rfl rfl) ?_))))
          rintro _ w ⟨ft,rfl,hm⟩
          replace hm:=hm.lit (xs:=([20,40,41]:List Int)) 0 rfl rfl rfl rfl
          obtain ⟨fu,hle,hm1,hsub,fw⟩:=hm.take2 (L1:=[_]) (L2:=[_,_,_,_,_,_]) [1] [0,2,3,4,5,6] (by decide) rfl rfl
          refine gCg rfl call53 (lA _ fu (⟨r_.b,ae.2.p⟩:kR) bp0 v1p (GT.mono hle (GT.mono aM h1p)) ([20,40,41]:List Int) (sV ft 0 3 3) (mY (hsub 0 _ rfl)) hm1 ) ?_
          rintro cS jg jh w ⟨rfl,hB⟩
          replace hm:=fw _ _ hB;clear hB
          refine gA rfl (gE (gJg (λcT a w=>∃ (bJ:kX) (bm:Value),kX.le aS bJ∧GT.rep bJ [bm] (cT)∧St 145 [(2,(pV aE)),(3,(pV aF)),(4,(pV aG))] w0 bJ [blk aE [.slice none 0 0] 25,blk aF [sV aO aP aI.1.fns.length aN] 25,blk aG [(tV aK.name),aT,bm] 45,blk bp0 [v1p,nV cS.2.p] 86,J1,J2] a w) (λcT=>?_) ?_))
          ·refine gBk (gMg (λaZ a w=>∃ (bK:kX) (bL:Value),kX.le aS bK∧GT.rep bK [bL] (aZ.1)∧St 145 [(2,(pV aE)),(3,(pV aF)),(4,(pV aG)),(7,(nV aZ.2))] w0 bK [blk aE [.slice none 0 0] 25,blk aF [sV aO aP aI.1.fns.length aN] 25,blk aG [(tV aK.name),aT,bL] 45,blk bp0 [v1p,nV cS.2.p] 86,J1,J2] a w) (λa hf=>⟨aS,ab,(kX.le_refl _),ac,hf.sb rfl,hm.pk [4,3,2,0,5,6] rfl rfl⟩) ?_)
           repeat clear hm
           rintro ji fx aZ a w ⟨bK,bL,dY,dZ,hf,hm⟩ jj fy
           refine gv hf (gS (gS (gR (gM rfl (gB rfl (gE (gsd 106 rfl (λgD=>?_) λgD=>?_)))))))
           ·refine gct rfl (gSk (gS (gBk (gR (gf rfl (λa hf=>nZ (α:=kN) mZ hm rfl) ?_)))))
            rintro jk w hm
            refine gF oE rfl (gL hm 3 isAgg43 rfl ?_)
            obtain ⟨d1,d2,hm⟩:=hm.shallow (α:=kN) 0 rfl
            refine gb λd3 gG=>?_
            obtain ⟨gH,gK⟩:=kb.1 gG
            refine gf rfl (λa hf=>mW (α:=kN) (xs:=([]:List kN)) (ys:=aZ.1) 0 mZ hf hm rfl (tU hm.lez (GT.mono d2 dZ)) rfl rfl rfl gH) ?_
            rintro gQ w hm
            rw [gK] at hm
            refine gM rfl (gY (yG rfl (kr (vs:=[(0,(nV 1)),(1,(nV aZ.2))]) (cs:=#[nV 1,nV aZ.2,(tV (mkS [])),.slice none 0 0]) rfl rfl (by kernel_rfl))) (gf rfl (λa hf=>kS (vs:=#[(0,(.agg #[nV 1,nV aZ.2,(tV (mkS [])),.slice none 0 0]))]) (cs:=[nV 1,nV aZ.2,(tV (mkS [])),.slice none 0 0]) na hf hm rfl rfl (by kernel_rfl) rfl rfl) ?_))
            rintro _ w ⟨bM,rfl,hm⟩
            replace hm:=hm.els_nil (α:=kK)
            replace hm:=hm.nilow (α:=kK)
            replace hm:Mem w0 d1 _ [ow [nV 1,nV aZ.2,(tV (mkS [])),.slice none 0 0] ((⟨1,aZ.2,(mkS []),[]⟩:kK):kK),els [] ([]:List kK),blk bM [nV 1,nV aZ.2,(tV (mkS [])),.slice none 0 0] 80,ow (α:=List (Sh d1 kN)) [gQ] d3,blk aE [.slice none 0 0] 25,blk aF [sV aO aP aI.1.fns.length aN] 25,blk aG [(tV aK.name),aT,bL] 45,blk bp0 [v1p,nV cS.2.p] 86,J1,J2]:=oY 1 aZ.2 (mkS []) hm 0 rfl
            replace hm:=(hm.els_cons 1 0 (by decide) rfl rfl).pk (L':=[_,_,_,_,_,_,_,_,_]) [1,2,3,4,5,6,7,8,9] rfl rfl
            replace hm:=(hm.lit_els 1 0 (by decide) rfl rfl rfl rfl).pk (L':=[_,_,_,_,_,_,_,_]) [1,2,3,4,5,6,7,8] rfl rfl
            refine gY (yG rfl (kr (vs:=[(0,(nV 3)),(2,(sV bM 0 1 1))]) (cs:=#[nV 3,(tV (mkS [])),sV bM 0 1 1,.slice none 0 0,.slice none 0 0]) rfl rfl (by kernel_rfl))) (gf rfl (λa hf=>kS (vs:=#[(0,(.agg #[nV 3,(tV (mkS [])),sV bM 0 1 1,.slice none 0 0,.slice none 0 0]))]) (cs:=[nV 3,(tV (mkS [])),sV bM 0 1 1,.slice none 0 0,.slice none 0 0]) mZ hf hm rfl rfl (by kernel_rfl) rfl rfl) ?_)
            rintro _ w ⟨gT,rfl,hm⟩
            replace hm:=hm.els_nil (α:=kN)
            replace hm:=hm.nilow (α:=kN)
            replace hm:=hm.nilow (α:=kN)
            replace hm:=(oX 3 (mkS []) hm 4 1 0 rfl).pk (L':=[_,_,_,_,_,_,_,_,_,_]) [2,3,4,5,6,7,8,9,10,11] rfl rfl
            replace hm:=(hm.els_cons 0 2 (by decide) rfl rfl).pk (L':=[_,_,_,_,_,_,_,_,_]) [0,1,3,4,5,6,7,8,9] rfl rfl
            replace hm:=(hm.lit_els 1 0 (by decide) rfl rfl rfl rfl).pk (L':=[_,_,_,_,_,_,_,_]) [1,2,3,4,5,6,7,8] rfl rfl
            obtain ⟨gU,d4,hz_r9_7,hmf⟩:=hm.freeze 0 rfl
            replace hm:=hmf.pk (L':=[_,_,_,_,_,_,_]) [1,2,3,4,5,6,7] rfl rfl
            clear hmf
            replace hz_r9_7:GT.rep gU [sV gT 0 1 1] ([(⟨3,(mkS []),([(⟨1,aZ.2,(mkS []),[]⟩:kK)]:List kK),[],[]⟩:kN)]:List kN):=mY hz_r9_7
            refine gb λgV g9=>?_
            obtain ⟨ga,gc⟩:=kb.1 g9
            replace hm:=hm.sh_up d4 0 rfl
            refine gf rfl (λa hf=>mW (α:=kN) (xs:=d3) (ys:=([(⟨3,(mkS []),([(⟨1,aZ.2,(mkS []),[]⟩:kK)]:List kK),[],[]⟩:kN)]:List kN)) 0 mZ hf hm rfl (tU hm.lez hz_r9_7) rfl rfl rfl ga) ?_
            rintro d5 w hm
            rw [gc] at hm
            refine gF oE rfl ?_
            obtain ⟨d6,d7,hz_r9_8,hmf⟩:=hm.freeze 0 rfl
            replace hm:=hmf.pk (L':=[_,_,_,_,_,_]) [1,2,3,4,5,6] rfl rfl
            clear hmf
            replace hz_r9_8:GT.rep d6 [d5] gV:=oO d7 (mY hz_r9_8)
            exact gS1 hm 2 sizeOf43 (ki hz_r9_8) rfl λw hm=>gE (gR (gM rfl (gB rfl (gA rfl (gE (gZe λa hf=>⟨d6,d5,(kX.le_trans (kX.le_trans (kX.le_trans dY d2) d4) d7),hz_r9_8,hf.sb rfl,hm.pk [0,1,2,3,4,5] rfl rfl⟩))))))
           exact gcf rfl (gXt (gHh (gLp fy fx (gZ λa hf=>⟨bK,bL,dY,dZ,hf.sb rfl,hm.pk [0,1,2,3,4,5] rfl rfl⟩))))
          repeat clear hm
          rintro cT a w ⟨bJ,bm,ge,gh,hf,hm⟩
          exact gv hf (gZe λa hf=>⟨bJ,bm,ge,gh,hf.sb rfl,hm.pk [0,1,2,3,4,5] rfl rfl⟩)
         refine gcf rfl (gS (gR (gB rfl (gA rfl (gE (gsd 120 rfl (λgj=>?_) λgj=>?_))))))
         ·refine gct rfl (gS (gJg (λcU a w=>∃ (bN:kX) (bo:Value),kX.le aS bN∧GT.rep bN [bo] (cU)∧St 145 [(2,(pV aE))] w0 bN [blk aE [bo] 25,blk bp0 [v1p,nV ae.2.p] 86,J1,J2] a w) (λcU=>?_) ?_))
          ·refine gW (.p 1 (.p 4 (.q 2 (.q 5 (.p 6 (.q 7 (.e 0 (.e 3 (.e 8 (.e 9 (.p 10 (.e 11 .fin .nil)) .nil) .nil) (.e 8 (.e 3 (.e 9 (.p 10 (.e 11 .fin .nil)) .nil) .nil) .nil)) (.e 8 (.e 0 (.e 3 (.e 9 (.p 10 (.e 11 .fin .nil)) .nil) .nil) .nil) .nil)))))))) [0, 2, 3, 5, 7, 8] [1, 4, 6, 10] hm [0, 1, 2, 3, 4, 5] [_, _, _, _, _, _] rfl mxo (by kernel_rfl) (fun _ _ _ h => h.2) fun w hm hS => tP rfl (fun w => yF nu rfl) (tP rfl (fun w => yF nu rfl) (tQ rfl hS (fun w hm => yL hm 2 isAgg23 rfl) (tQ rfl hS (fun w hm => yL hm 2 isAgg23 rfl) (gg fun aJ gk d8 => ?_))))
           obtain ⟨aU,aV,gm,cV,cW⟩:=sH hz_r0_1 d8
           refine tP rfl (λw=>yI nz gk (lO d8) rfl) (tQ rfl hS (λw hm=>yn (gm.mono hm.lez) isAgg45 sizeOf45 rfl) (gb λcX cY=>gb λaX cZ=>tMo ?_ ?_))
           ·refine tf rfl rfl (λa hf=>nZ (α:=Fn_) mn hm rfl) ?_
            rintro jl w hm
            refine tAk hm [1,2,3,4,5,6] rfl λhS=>tMo ?_ ?_
            ·obtain ⟨jm,av,hm⟩:=hm.shallow (α:=Fn_) 0 rfl
             obtain ⟨gp,gq⟩:=kb.1 cY
             refine tf rfl rfl (λa hf=>mW (α:=Fn_) (xs:=([]:List Fn_)) (ys:=aI.1.fns) 0 mn hf hm rfl (tU hm.lez (GT.mono av hz_r0_1)) rfl rfl rfl gp) ?_
             rintro jn w hm
             rw [gq] at hm
             refine tAk (hm.thaw av) [1,2,3,4,5,6] rfl λhS=>tO (tf rfl rfl (λa hf=>kS (vs:=#[(0,(.agg #[(tV aJ.name),aU,aV]))]) (cs:=[(tV aJ.name),aU,aV]) mn hf hm rfl rfl (by kernel_rfl) rfl rfl) ?_)
             rintro _ w ⟨jo,rfl,hm⟩
             replace hm:=hm.litSh (α:=Fn_) (xs:=[aJ]) 0 rfl (.cons (c:=[(tV aJ.name),aU,aV]) (x:=(aJ:Fn_)) ⟨[(tV aJ.name)],[aU,aV],rfl,(Flat.rep_iff.2 rfl),⟨[aU],[aV],rfl,(GT.mono av cV),(GT.mono av cW)⟩⟩ .nil) rfl rfl
             refine tAk (hm.thaw av) [2,3,4,5,6,7] rfl λhS=>tO ?_
             obtain ⟨gt,gu⟩:=kb.1 cZ
             refine tf rfl rfl (λa hf=>mW (α:=Fn_) (xs:=cX) (ys:=([aJ]:List Fn_)) 1 mn hf hm rfl (hm.ow_rep 0 rfl) rfl rfl rfl gt) ?_
             rintro jp w hm
             rw [gu] at hm
             refine tAn rfl ?_
             obtain ⟨bp,bq,rfl,jq⟩:=kT (oO (kX.le_trans (kX.le_refl _) hm.lez) (hm.ow_rep 1 rfl))
             refine tP rfl (λw=>yG rfl (kr (vs:=[(0,(.slice bp aX.length bq))]) (cs:=#[.slice bp aX.length bq]) rfl rfl (by kernel_rfl))) (tO ?_)
             obtain ⟨d9,da,hz_r8_1,hmf⟩:=hm.freeze 1 rfl
             replace hm:=hmf.pk (L':=[_,_,_,_,_,_,_]) [0,2,3,4,5,6,7] rfl rfl
             clear hmf
             replace hz_r8_1:GT.rep d9 [.slice bp aX.length bq] aX:=oO da (mY hz_r8_1)
             refine tf0 rfl rfl (λa hf=>nH 4 hf hm rfl sizeOf25 rfl rfl rfl (kL rfl ke) rfl rfl) ?_
             rintro _ w hm
             exact tAn rfl (tE (gZ λa hf=>⟨d9,.slice bp aX.length bq,(kX.le_trans av da),hz_r8_1,hf.sb rfl,hm.pk [4,1,5,6] rfl rfl⟩))
            refine tO (tf rfl rfl (λa hf=>kS (vs:=#[(0,(.agg #[(tV aJ.name),aU,aV]))]) (cs:=[(tV aJ.name),aU,aV]) mn hf hm rfl rfl (by kernel_rfl) rfl rfl) ?_)
            rintro _ w ⟨jr,rfl,hm⟩
            replace hm:=hm.litSh (α:=Fn_) (xs:=[aJ]) 0 rfl (.cons (c:=[(tV aJ.name),aU,aV]) (x:=(aJ:Fn_)) ⟨[(tV aJ.name)],[aU,aV],rfl,(Flat.rep_iff.2 rfl),⟨[aU],[aV],rfl,cV,cW⟩⟩ .nil) rfl rfl
            refine tAk hm [2,3,4,5,6,7] rfl λhS=>tO ?_
            obtain ⟨jt,br,hm⟩:=hm.shallow (α:=Fn_) 1 rfl
            obtain ⟨gw,gx⟩:=kb.1 cY
            refine tf rfl rfl (λa hf=>mW (α:=Fn_) (xs:=([]:List Fn_)) (ys:=aI.1.fns) 1 mn hf hm rfl (tU hm.lez (GT.mono br hz_r0_1)) rfl rfl rfl gw) ?_
            rintro ju w hm
            rw [gx] at hm
            refine tAk (hm.thaw br) [2,3,4,5,6,7] rfl λhS=>tO ?_
            obtain ⟨gy,hO⟩:=kb.1 cZ
            replace hm:=hm.sh_up br 0 rfl
            refine tf rfl rfl (λa hf=>mW (α:=Fn_) (xs:=cX) (ys:=([aJ]:List Fn_)) 1 mn hf hm rfl (hm.ow_rep 0 rfl) rfl rfl rfl gy) ?_
            rintro jv w hm
            rw [hO] at hm
            refine tAn rfl ?_
            obtain ⟨bs,bt,rfl,jw⟩:=kT (oO (kX.le_trans (kX.le_refl _) hm.lez) (hm.ow_rep 1 rfl))
            refine tP rfl (λw=>yG rfl (kr (vs:=[(0,(.slice bs aX.length bt))]) (cs:=#[.slice bs aX.length bt]) rfl rfl (by kernel_rfl))) (tO ?_)
            obtain ⟨db,dc,hz_r8_2,hmf⟩:=hm.freeze 1 rfl
            replace hm:=hmf.pk (L':=[_,_,_,_,_,_,_]) [0,2,3,4,5,6,7] rfl rfl
            clear hmf
            replace hz_r8_2:GT.rep db [.slice bs aX.length bt] aX:=oO dc (mY hz_r8_2)
            refine tf0 rfl rfl (λa hf=>nH 4 hf hm rfl sizeOf25 rfl rfl rfl (kL rfl ke) rfl rfl) ?_
            rintro _ w hm
            exact tAn rfl (tE (gZ λa hf=>⟨db,.slice bs aX.length bt,(kX.le_trans br dc),hz_r8_2,hf.sb rfl,hm.pk [4,1,5,6] rfl rfl⟩))
           refine tO (tf rfl rfl (λa hf=>kS (vs:=#[(0,(.agg #[(tV aJ.name),aU,aV]))]) (cs:=[(tV aJ.name),aU,aV]) mn hf hm rfl rfl (by kernel_rfl) rfl rfl) ?_)
           rintro _ w ⟨jx,rfl,hm⟩
           replace hm:=hm.litSh (α:=Fn_) (xs:=[aJ]) 0 rfl (.cons (c:=[(tV aJ.name),aU,aV]) (x:=(aJ:Fn_)) ⟨[(tV aJ.name)],[aU,aV],rfl,(Flat.rep_iff.2 rfl),⟨[aU],[aV],rfl,cV,cW⟩⟩ .nil) rfl rfl
           refine tAk hm [1,2,3,4,5,6] rfl λhS=>tO (tf rfl rfl (λa hf=>nZ (α:=Fn_) mn hm rfl) ?_)
           rintro jy w hm
           refine tAk hm [2,3,4,5,6,7] rfl λhS=>tO ?_
           obtain ⟨jz,bu,hm⟩:=hm.shallow (α:=Fn_) 0 rfl
           obtain ⟨hU,hY⟩:=kb.1 cY
           refine tf rfl rfl (λa hf=>mW (α:=Fn_) (xs:=([]:List Fn_)) (ys:=aI.1.fns) 0 mn hf hm rfl (tU hm.lez (GT.mono bu hz_r0_1)) rfl rfl rfl hU) ?_
           rintro kA w hm
           rw [hY] at hm
           refine tAk (hm.thaw bu) [2,3,4,5,6,7] rfl λhS=>tO ?_
           obtain ⟨hZ,iA⟩:=kb.1 cZ
           replace hm:=hm.sh_up bu 1 rfl
           refine tf rfl rfl (λa hf=>mW (α:=Fn_) (xs:=cX) (ys:=([aJ]:List Fn_)) 0 mn hf hm rfl (hm.ow_rep 1 rfl) rfl rfl rfl hZ) ?_
           rintro kB w hm
           rw [iA] at hm
           refine tAn rfl ?_
           obtain ⟨bv,bw,rfl,kC⟩:=kT (oO (kX.le_trans (kX.le_refl _) hm.lez) (hm.ow_rep 0 rfl))
           refine tP rfl (λw=>yG rfl (kr (vs:=[(0,(.slice bv aX.length bw))]) (cs:=#[.slice bv aX.length bw]) rfl rfl (by kernel_rfl))) (tO ?_)
           obtain ⟨dd,de,hz_r8_3,hmf⟩:=hm.freeze 0 rfl
           replace hm:=hmf.pk (L':=[_,_,_,_,_,_,_]) [1,2,3,4,5,6,7] rfl rfl
           clear hmf
           replace hz_r8_3:GT.rep dd [.slice bv aX.length bw] aX:=oO de (mY hz_r8_3)
           refine tf0 rfl rfl (λa hf=>nH 4 hf hm rfl sizeOf25 rfl rfl rfl (kL rfl ke) rfl rfl) ?_
           rintro _ w hm
           exact tAn rfl (tE (gZ λa hf=>⟨dd,.slice bv aX.length bw,(kX.le_trans bu de),hz_r8_3,hf.sb rfl,hm.pk [4,1,5,6] rfl rfl⟩))
          repeat clear hm
          rintro cU a w ⟨bN,bo,iB,iC,hf,hm⟩
          exact gv hf (gRt (gEr fq (gEr dB (gEr ct (gEr ck (gEr ce (gEr cd (gEr cc (grc 0 results16 hm rfl isAgg25 sizeOf25 ⟨bo,bN,rfl,(kX.le_trans aM iB),iC,hm.pk [2,3,1] rfl rfl⟩)))))))))
         exact gcf rfl (gSk (gZe λa hf=>⟨aS,ab,(kX.le_refl _),ac,hf.sb rfl,hm.pk [3,2,1,0,4,5] rfl rfl⟩))
        repeat clear hm
        rintro cR a w ⟨bH,bl,iD,iE,hf,hm⟩
        exact gv hf (gZe λa hf=>⟨bH,bl,iD,iE,hf.sb rfl,hm.pk [0,1,2,3,4,5] rfl rfl⟩)
       repeat clear hm
       rintro cI a w ⟨bD,b8,iF,iG,hf,hm⟩
       exact gv hf (gZe λa hf=>⟨bD,b8,iF,iG,hf.sb rfl,hm.pk [0,1,2,3,4,5] rfl rfl⟩)
      repeat clear hm
      rintro cH a w ⟨bA,bY,iH,iI,hf,hm⟩
      exact gv hf (gZe λa hf=>⟨bA,bY,iH,iI,hf.sb rfl,hm.pk [0,1,2,3,4,5] rfl rfl⟩)
     repeat clear hm
     rintro cF a w ⟨ay,bW,df,iJ,hf,hm⟩
     exact gv hf (gZe λa hf=>⟨ay,aT,bW,df,(GT.mono df bQ),iJ,hf.sb rfl,hm.pk [0,1,2,3,4,5] rfl rfl⟩)
    repeat clear hm
    rintro bT a w ⟨an,bU,bV,iK,iL,iM,hf,hm⟩
    exact gv hf (gZe λa hf=>⟨an,bU,bV,iK,iL,iM,hf.sb rfl,hm.pk [0,1,2,3,4,5] rfl rfl⟩)
   repeat clear hm
   rintro ax a w ⟨am,bR,bS,iN,iO,iP,hf,hm⟩
   exact gv hf (gZe λa hf=>⟨am,bR,bS,iN,iO,iP,hf.sb rfl,hm.pk [0,1,2,3,4,5] rfl rfl⟩)
  repeat clear hm
  rintro aL a w ⟨aw,ah,ai,dg,iQ,iR,hf,hm⟩
  refine gv hf (gS (gR (gf rfl (λa hf=>nZ (α:=Fn_) mn hm rfl) ?_)))
  rintro kD w hm
  refine gF nu rfl (gL hm 2 isAgg23 rfl ?_)
  obtain ⟨c8,bz,hm⟩:=hm.shallow (α:=Fn_) 0 rfl
  refine gb λal iS=>?_
  obtain ⟨iT,iU⟩:=kb.1 iS
  refine gf rfl (λa hf=>mW (α:=Fn_) (xs:=([]:List Fn_)) (ys:=aI.1.fns) 0 mn hf hm rfl (tU hm.lez (GT.mono (kX.le_trans dg bz) hz_r0_1)) rfl rfl rfl iT) ?_
  rintro kE w hm
  rw [iU] at hm
  refine gA rfl (gE (gS (gR (gM rfl (gM rfl ?_)))))
  obtain ⟨kF,cA,rfl,kG⟩:=kT (oO (kX.le_trans (kX.le_refl _) hm.lez) (hm.ow_rep 0 rfl))
  refine gY (yV nz rfl) (gY (yS (by omega) (by omega) rfl) (gY (yn (hm.blk_at 3 rfl) isAgg45 sizeOf45 rfl) (gg λc9 iV cC=>?_)))
  obtain ⟨bO,bP,kH,_,he,dh,iW⟩:=hm.sh_get 0 rfl cC
  simp only [Value.slice.injEq,osI,Addr.mk.injEq,and_true] at he
  obtain ⟨rfl,_,rfl⟩:=he
  obtain ⟨_,_,rfl,rfl,_,_,rfl,ca,cb⟩:=iW
  obtain ⟨di,rfl,-⟩:=id ca
  replace ca:GT.rep c8 [di] c9.params:=ca
  obtain ⟨dk,rfl,-⟩:=id cb
  replace cb:GT.rep c8 [dk] c9.body:=cb
  replace dh:lq (hp _) bO (bP+(((al.length:Int)) - 1).toNat*3) [(tV c9.name),di,dk]:=dh
  refine gI nz iV (lO cC) rfl ?_
  have hm:=hm.shrow (α:=Fn_) (cs:=[(tV aL.1),ah,ai]) (x:=(⟨aL.1,aL.2.1,aL.2.2.1⟩:Fn_)) ⟨[(tV aL.1)],[ah,ai],rfl,(Flat.rep_iff.2 rfl),⟨[ah],[ai],rfl,(GT.mono bz iQ),(GT.mono bz iR)⟩⟩
  replace hm:=(hm.both 1 0 (by decide) rfl rfl).pk (L':=[_,_,_,_,_,_,_]) [1,2,3,4,5,6,7] rfl rfl
  refine gf0 rfl (λa hf=>az4 (α:=Sh c8 Fn_) (x1:=(⟨aL.1,aL.2.1,aL.2.2.1⟩:Fn_)) (vs:=[(tV aL.1),ah,ai]) 0 hf hm rfl cC rfl sizeOf45 rfl rfl rfl rfl) ?_
  rintro _ w hm
  have kI:=List.getElem?_set_self (a:=((⟨aL.1,aL.2.1,aL.2.2.1⟩:Fn_):Fn_)) (lO cC)
  refine gE (gS (gR (gM rfl (gY (yG rfl (kr (vs:=[(0,(sV bO bP al.length cA))]) (cs:=#[sV bO bP al.length cA]) rfl rfl (by kernel_rfl))) ?_))))
  obtain ⟨dl,dm,hz_r0_2,hmf⟩:=hm.freeze 0 rfl
  replace hm:=hmf.pk (L':=[_,_,_,_,_,_]) [1,2,3,4,5,6] rfl rfl
  clear hmf
  replace hz_r0_2:GT.rep dl [sV bO bP al.length cA] (al.set (((al.length:Int)) - 1).toNat (⟨aL.1,aL.2.1,aL.2.2.1⟩:Fn_)):=oO dm (mY hz_r0_2)
  exact gSN hm 0 sizeOf25 (kL rfl ke) rfl λw hm=>gE (gRt (grc 0 results16 hm rfl isAgg25 sizeOf25 ⟨sV bO bP al.length cA,dl,rfl,(kX.le_trans (kX.le_trans (kX.le_trans aM dg) bz) dm),hz_r0_2,hm.pk [4,5,3] rfl rfl⟩))
theorem tW (w0:World) (hz:kX) (hle0:kX.le hz (hp w0)) (code:List UInt8) (v1:Value) (h1:GT.rep hz [v1] code) :
    mE Tryz.prog 5 [v1] w0 (oL code) λr v w'=>∃ (x1:Value) (hz2:kX),v=(.agg #[x1])∧kX.le hz hz2∧GT.rep hz2 [x1] r.fns∧Mem w0 hz2 w' [aw6 w0 hz]:=by
  unfold oL
  refine mR func5 rfl λr=>?_
  have hm:=Mem.startA hle0
  refine gS (gR (gAl hm zeroValue25 rfl λaC w hm=>gE (gS (gR (gM rfl (gCg rfl call17 (yd _ _ hm.lez code v1 h1 ) ?_))))))
  rintro aD aL aM w ⟨aE,aF,aG,rfl,aA,aH,hB⟩
  replace hm:=Mem.giveA hm aA hB;clear hB
  have hm1:=(hm.pk (L':=[_,_,_]) [0,1,2] rfl rfl).rebase
  refine gCg rfl call16 (ab3 _ aG (blk aC [.slice none 0 0] 25) (aw6 w0 hz) aD aE aF aH hm1 ) ?_
  rintro aN aO aP w ⟨aI,aJ,rfl,aK,aB,hB⟩
  replace hm:=hm.back hB;clear hB
  exact gSN hm 0 sizeOf25 (kL (ki aB) ke) rfl λw hm=>gE (gRt (grc 0 results5 hm rfl isAgg25 sizeOf25 ⟨aI,aJ,rfl,(kX.le_trans aA aK),aB,hm.pk [1] rfl rfl⟩))
theorem qV (w0:World) (n_:Int) (low:Int) (high:Int) :
    mE Tryz.prog 32 [nV n_,nV low,nV high] w0 (pH n_ low high) λr v w'=>v=(.bool (r))∧Below w0.heap.size w0 w':=by
  unfold pH
  refine mR func32 rfl λr=>?_
  have hm:=Mem.start w0
  refine gS (gR (gA rfl (gE (gS (gJ hm (λaA=>[(6,(.bool (aA)))]) (λaA=>[]) (λaA=>?_) ?_)))))
  ·refine gR (gM rfl (gM rfl (gB rfl (gM rfl (gsd 10 rfl (λaB=>?_) λaB=>?_)))))
   ·exact gM rfl (gM rfl (gB rfl (gKt rfl (gA rfl (gE (gz hm [] rfl))))))
   exact gO rfl (gO rfl (gO rfl (gKf rfl (gA rfl (gE (gz hm [] rfl))))))
  repeat clear hm
  intro aA w hm
  exact gRt (gr1 results32 rfl ⟨rfl,hm.below⟩)
theorem uq (w0:World) (s_:Str) (f:Int→Option Bool) (fv1:Value) (hfn1:∀ (w:World) (y0:Int) (r:Bool),Below w0.heap.size w0 w→f y0=some r→yR Tryz.prog fv1 [(.int .i32 (y0))] w (λv w'=>v=(.bool (r))∧Below w.heap.size w w')) :
    mE Tryz.prog 67 [(tV s_),fv1] w0 (qN s_ f) λr v w'=>v=(nV r)∧Below w0.heap.size w0 w':=ai1 laysGw15 w0 s_ f fv1 hfn1
theorem xy (w0:World) (r_:Int) :
    mE Tryz.prog 68 [(.int .i32 (r_))] w0 (nk r_) λr v w'=>v=(.bool (r))∧Below w0.heap.size w0 w':=by
  unfold nk
  refine mR func68 rfl λr=>?_
  have hm:=Mem.start w0
  refine gS (gR (gA rfl (gE (gS (gJ hm (λaA=>[(2,(.bool (aA)))]) (λaA=>[]) (λaA=>?_) ?_)))))
  ·refine gR (gM rfl (gB rfl (gM rfl (gsd 5 rfl (λaB=>?_) λaB=>?_))))
   ·exact gO rfl (gO rfl (gKt rfl (gA rfl (gE (gz hm [] rfl)))))
   exact gM rfl (gB rfl (gKf rfl (gA rfl (gE (gz hm [] rfl)))))
  repeat clear hm
  intro aA w hm
  exact gRt (gr1 results68 rfl ⟨rfl,hm.below⟩)
theorem rR (w0:World) (s_:List Str) (v1:Value) (h1:GT.rep (hp w0) [v1] s_) (v_:Str) :
    mE Tryz.prog 104 [v1,(tV v_)] w0 (nQ s_ v_) λr v w'=>v=(nV r)∧Below w0.heap.size w0 w':=by
  unfold nQ
  refine mR func104 rfl λr=>?_
  have hm:=Mem.start w0
  refine gS (gR (gA rfl (gE (gS (gS (gR (gM rfl ?_)))))))
  obtain ⟨aE,aF,rfl,aK⟩:=kT h1
  refine gY (yV oG rfl) (gM rfl (gE (gBk (gNf hm (λaA aC=>[(0,(.slice aE s_.length aF)),(1,(tV v_)),(7,(nV ((s_.length:Int)))),(8,(nV aA))]) (λaA aC=>[]) [] rfl ?_ ?_))))
  ·repeat clear hm
   intro aL aG aA aC w hm aM aN aO aH
   refine gS (gR (gB rfl (gE (gS (go _ 9 rfl (decide_eq_true (by omega)) (gct rfl (gSk (gS (gBk (gS (gR (gM rfl (gA rfl (gE (gS (gR (gM rfl (gM rfl (gM rfl (gg λaD aI aB=>?_))))))))))))))))))))
   obtain ⟨aP,aQ,aR,he⟩:=nb h1 aB
   obtain ⟨rfl,_,rfl⟩:=sl3 he
   refine gI oG aI (lO aB) rfl (gY (yl isAgg9 ((lj (cs:=[(tV aD)]) (hm.now h1) aB rfl).cell (j:=0) rfl) rfl) (gY (yG rfl (tG (p:=v_) (q:=aD) rfl rfl rfl)) (gE (gsd 16 rfl (λaJ=>?_) λaJ=>?_))))
   ·exact gct rfl (gS (gR (gM rfl (gA rfl (gE (gRt (gLr aH aG (gr1 results104 rfl ⟨rfl,hm.below⟩))))))))
   exact gcf rfl (gSk (gR (gP (by omega) (by omega) rfl (gM rfl (gE (gze hm [] rfl))))))
  repeat clear hm
  intro aS aT w hm aU aV
  exact gS (gR (gB rfl (gE (gS (go _ 9 rfl (decide_eq_false (by omega)) (gcf rfl (gXt (gHh (gS (gR (gA rfl (gE (gRt (gr1 results104 rfl ⟨rfl,hm.below⟩))))))))))))))
theorem nX (w0:World) (s_:List Str) (v1:Value) (h1:GT.rep (hp w0) [v1] s_) (v_:Str) :
    mE Tryz.prog 69 [v1,(tV v_)] w0 (la s_ v_) λr v w'=>v=(.bool (r))∧Below w0.heap.size w0 w':=by
  unfold la
  refine mR func69 rfl λr=>?_
  have hm:=Mem.start w0
  exact gS (gR (gA rfl (gE (gS (gR (gM rfl (gM rfl (gC hm rfl call104 (rR _ s_ v1 (hm.now h1) v_) λaA aB w hm=>gB rfl (gA rfl (gE (gRt (gr1 results69 rfl ⟨rfl,hm.below⟩))))))))))))
theorem pY (w0:World) (s_:Str) (hG0:GT.rep (hp w0) [.slice (some ⟨0,0,none⟩) 9 9] k7) :
    mE Tryz.prog 33 [(tV s_)] w0 (oA s_) λr v w'=>v=(.bool (r))∧Below w0.heap.size w0 w':=by
  unfold oA
  refine mR func33 rfl λr=>?_
  have hm:=Mem.start w0
  refine gS (gR (gA rfl (gE (gS (gJ hm (λaA=>[(2,(.bool (aA)))]) (λaA=>[]) (λaA=>?_) ?_)))))
  ·refine gR (gM rfl (gY (yG rfl (mD (p:=s_) underlying9 rfl rfl)) ?_))
   have aD:=(s_).h
   refine gC hm rfl call32 (qV _ ((s_).b.length:Int) 1 4) λaE aF w hm=>gM rfl (gs 6 rfl (λaB=>?_) λaB=>?_)
   ·refine gM rfl (gC hm rfl call67 (uq _ s_ (λy0=>nk y0) (.func (.func 68) #[] #[]) (λw y0 r hB hq=>⟨68,[],rfl,call68,xy w y0  r hq⟩)) λaG aH w hm=>gB rfl (gKt rfl (gM rfl (gsd 11 rfl (λaC=>?_) λaC=>?_))))
    ·exact gY (yG rfl (zd (n:=9) underlying100 rfl rfl sizeOf9)) (gM rfl (gC hm rfl call69 (nX _ k7 (sV 0 0 9 9) (hm.now hG0) s_) λaI aJ w hm=>gN rfl (gKt rfl (gA rfl (gE (gz hm [] rfl))))))
    exact gO rfl (gO rfl (gO rfl (gO rfl (gKf rfl (gA rfl (gE (gz hm [] rfl)))))))
   exact gO rfl (gO rfl (gO rfl (gKf rfl (gM rfl (gO rfl (gO rfl (gO rfl (gO rfl (gKf rfl (gA rfl (gE (gz hm [] rfl))))))))))))
  repeat clear hm
  intro aA w hm
  exact gRt (gr1 results33 rfl ⟨rfl,hm.below⟩)
theorem qp (w0:World) (s_:List Str) (v1:Value) (h1:GT.rep (hp w0) [v1] s_) (f:Str→Option Bool) (fv1:Value) (hfn1:∀ (w:World) (y0:Str) (r:Bool),Below w0.heap.size w0 w→f y0=some r→yR Tryz.prog fv1 [(tV y0)] w (λv w'=>v=(.bool (r))∧Below w.heap.size w w')) :
    mE Tryz.prog 70 [v1,fv1] w0 (mj s_ f) λr v w'=>v=(nV r)∧Below w0.heap.size w0 w':=by
  unfold mj
  refine mR func70 rfl λr=>?_
  have hm:=Mem.start w0
  refine gS (gR (gA rfl (gE (gS (gS (gR (gM rfl ?_)))))))
  obtain ⟨aE,aF,rfl,aL⟩:=kT h1
  refine gY (yV oG rfl) (gM rfl (gE (gBk (gNf hm (λaA aC=>[(0,(.slice aE s_.length aF)),(1,fv1),(7,(nV ((s_.length:Int)))),(8,(nV aA))]) (λaA aC=>[]) [] rfl ?_ ?_))))
  ·repeat clear hm
   intro aM aG aA aC w hm aN aO aP aH
   refine gS (gR (gB rfl (gE (gS (go _ 9 rfl (decide_eq_true (by omega)) (gct rfl (gSk (gS (gBk (gS (gR (gM rfl (gA rfl (gE (gS (gR (gM rfl (gM rfl (gM rfl (gg λaD aI aB=>?_))))))))))))))))))))
   obtain ⟨aQ,aR,aS,he⟩:=nb h1 aB
   obtain ⟨rfl,_,rfl⟩:=sl3 he
   refine gI oG aI (lO aB) rfl (gY (yl isAgg9 ((lj (cs:=[(tV aD)]) (hm.now h1) aB rfl).cell (j:=0) rfl) rfl) (gb λaT aJ=>gf rfl (λa hf=>tn hf rfl rfl rfl (hfn1 _ aD _ hm.below aJ)) ?_))
   rintro aU w ⟨rfl,hB⟩
   replace hm:=hm.below' hB;clear hB
   refine gE (gs 16 rfl (λaK=>?_) λaK=>?_)
   ·exact gct rfl (gS (gR (gM rfl (gA rfl (gE (gRt (gLr aH aG (gr1 results70 rfl ⟨rfl,hm.below⟩))))))))
   exact gcf rfl (gSk (gR (gP (by omega) (by omega) rfl (gM rfl (gE (gze hm [] rfl))))))
  repeat clear hm
  intro aV aX w hm aY aZ
  exact gS (gR (gB rfl (gE (gS (go _ 9 rfl (decide_eq_false (by omega)) (gcf rfl (gXt (gHh (gS (gR (gA rfl (gE (gRt (gr1 results70 rfl ⟨rfl,hm.below⟩))))))))))))))
theorem qR (w0:World) (s_:List Str) (v1:Value) (h1:GT.rep (hp w0) [v1] s_) (f:Str→Option Bool) (fv1:Value) (hfn1:∀ (w:World) (y0:Str) (r:Bool),Below w0.heap.size w0 w→f y0=some r→yR Tryz.prog fv1 [(tV y0)] w (λv w'=>v=(.bool (r))∧Below w.heap.size w w')) :
    mE Tryz.prog 34 [v1,fv1] w0 (lT s_ f) λr v w'=>v=(.bool (r))∧Below w0.heap.size w0 w':=by
  unfold lT
  refine mR func34 rfl λr=>?_
  have hm:=Mem.start w0
  exact gS (gR (gA rfl (gE (gS (gR (gM rfl (gM rfl (gC hm rfl call70 (qp _ s_ v1 (hm.now h1) f fv1 (λw y0 r hB hq=>hfn1 w y0 r (hm.below.trans (hB.mono hm.below.size)) hq)) λaA aB w hm=>gB rfl (gA rfl (gE (gRt (gr1 results34 rfl ⟨rfl,hm.below⟩))))))))))))
theorem ub (w0:World) (s_:Str) (hG0:GT.rep (hp w0) [.slice (some ⟨0,0,none⟩) 9 9] k7) :
    mE Tryz.prog 35 [(tV s_)] w0 (mM s_) λr v w'=>v=(.bool (r))∧Below w0.heap.size w0 w':=by
  unfold mM
  refine mR func35 rfl λr=>?_
  have hm:=Mem.start w0
  exact gS (gR (gA rfl (gE (gS (gR (gM rfl (gC hm rfl call33 (pY _ s_ (hm.now hG0)) λaA aB w hm=>gN rfl (gA rfl (gE (gRt (gr1 results35 rfl ⟨rfl,hm.below⟩)))))))))))
theorem pz (w0:World) (s_:List kN) (v1:Value) (h1:GT.rep (hp w0) [v1] s_) (f:kN→Option Bool) (fv1:Value) (hfn1:∀ (w:World) (y0:kN) (z1:Value) (_:GT.rep (hp w) [z1] y0.args) (z2:Value) (_:GT.rep (hp w) [z2] y0.body) (z3:Value) (_:GT.rep (hp w) [z3] y0.else_) (r:Bool),Below w0.heap.size w0 w→f y0=some r→yR Tryz.prog fv1 [(.agg #[nV y0.op,(tV y0.name),z1,z2,z3])] w (λv w'=>v=(.bool (r))∧Below w.heap.size w w')) :
    mE Tryz.prog 105 [v1,fv1] w0 (lY s_ f) λr v w'=>v=(nV r)∧Below w0.heap.size w0 w':=by
  unfold lY
  refine mR func105 rfl λr=>?_
  have hm:=Mem.start w0
  refine gS (gR (gA rfl (gE (gS (gS (gR (gM rfl ?_)))))))
  obtain ⟨aD,aE,rfl,aS⟩:=kT h1
  refine gY (yV pI rfl) (gM rfl (gE (gBk (gNf hm (λaA aC=>[(0,(.slice aD s_.length aE)),(1,fv1),(7,(nV ((s_.length:Int)))),(8,(nV aA))]) (λaA aC=>[]) [] rfl ?_ ?_))))
  ·repeat clear hm
   intro aT aF aA aC w hm aU aV aX aG
   refine gS (gR (gB rfl (gE (gS (go _ 9 rfl (decide_eq_true (by omega)) (gct rfl (gSk (gS (gBk (gS (gR (gM rfl (gA rfl (gE (gS (gR (gM rfl (gM rfl (gM rfl (gg λaH aI aB=>?_))))))))))))))))))))
   obtain ⟨aY,aZ,a8,he⟩:=lU h1 aB
   obtain ⟨rfl,_,rfl⟩:=sl3 he
   obtain ⟨aJ,aK,aL,aM,aN,aO,aP⟩:=rv h1 aB
   refine gI pI aI (lO aB) rfl (gY (yn (aM.mono hm.lez) isAgg61 sizeOf61 rfl) (gb λaa aQ=>gf rfl (λa hf=>tn hf rfl rfl rfl (hfn1 _ aH aJ (hm.now aN) aK (hm.now aO) aL (hm.now aP) _ hm.below aQ)) ?_))
   rintro ab w ⟨rfl,hB⟩
   replace hm:=hm.below' hB;clear hB
   refine gE (gs 16 rfl (λaR=>?_) λaR=>?_)
   ·exact gct rfl (gS (gR (gM rfl (gA rfl (gE (gRt (gLr aG aF (gr1 results105 rfl ⟨rfl,hm.below⟩))))))))
   exact gcf rfl (gSk (gR (gP (by omega) (by omega) rfl (gM rfl (gE (gze hm [] rfl))))))
  repeat clear hm
  intro ac ae w hm af ag
  exact gS (gR (gB rfl (gE (gS (go _ 9 rfl (decide_eq_false (by omega)) (gcf rfl (gXt (gHh (gS (gR (gA rfl (gE (gRt (gr1 results105 rfl ⟨rfl,hm.below⟩))))))))))))))
theorem pX (w0:World) (s_:List kN) (v1:Value) (h1:GT.rep (hp w0) [v1] s_) (f:kN→Option Bool) (fv1:Value) (hfn1:∀ (w:World) (y0:kN) (z1:Value) (_:GT.rep (hp w) [z1] y0.args) (z2:Value) (_:GT.rep (hp w) [z2] y0.body) (z3:Value) (_:GT.rep (hp w) [z3] y0.else_) (r:Bool),Below w0.heap.size w0 w→f y0=some r→yR Tryz.prog fv1 [(.agg #[nV y0.op,(tV y0.name),z1,z2,z3])] w (λv w'=>v=(.bool (r))∧Below w.heap.size w w')) :
    mE Tryz.prog 71 [v1,fv1] w0 (lQ s_ f) λr v w'=>v=(.bool (r))∧Below w0.heap.size w0 w':=by
  unfold lQ
  refine mR func71 rfl λr=>?_
  have hm:=Mem.start w0
  exact gS (gR (gA rfl (gE (gS (gR (gM rfl (gM rfl (gC hm rfl call105 (pz _ s_ v1 (hm.now h1) f fv1 (λw y0 aA aB aC aD aE aF r hB hq=>hfn1 w y0 aA aB aC aD aE aF r (hm.below.trans (hB.mono hm.below.size)) hq)) λaG aH w hm=>gB rfl (gA rfl (gE (gRt (gr1 results71 rfl ⟨rfl,hm.below⟩))))))))))))
theorem yD (w0:World) (op:Int) :
    mE Tryz.prog 106 [nV op] w0 (qB op) λr v w'=>v=(.tuple #[nV r.1,(.bool (r.2.1)),(.bool (r.2.2.1)),(.bool (r.2.2.2))])∧Below w0.heap.size w0 w':=by
  unfold qB
  refine mR func106 rfl λr=>?_
  have hm:=Mem.start w0
  refine gS (gR (gA rfl (gA rfl (gA rfl (gA rfl (gE (gS (gS (gR (gM rfl (gE (gBk (gS (gS (gR (gB rfl (gA rfl (gE (gJ hm (λaA=>[(6,(nV op)),(7,(.bool (aA)))]) (λaA=>[]) (λaA=>?_) ?_)))))))))))))))))))
  ·refine gsd 7 rfl (λaD=>?_) λaD=>?_
   ·exact gct rfl (gSk (gz hm [] rfl))
   exact gcf rfl (gR (gB rfl (gA rfl (gE (gz hm [] rfl)))))
  repeat clear hm
  intro aA w hm
  refine gs 7 rfl (λaE=>?_) λaE=>?_
  ·exact gct rfl (gS (gR (gA rfl (gA rfl (gA rfl (gA rfl (gE (gRt (gr4 results106 rfl ⟨rfl,hm.below⟩)))))))))
  refine gcf rfl (gS (gS (gR (gB rfl (gA rfl (gE (gJ hm (λaB=>[(6,(nV op)),(10,(.bool (aB)))]) (λaB=>[]) (λaB=>?_) ?_)))))))
  ·refine gsd 10 rfl (λaF=>?_) λaF=>?_
   ·exact gct rfl (gSk (gz hm [] rfl))
   refine gcf rfl (gS (gR (gB rfl (gA rfl (gE (gJ hm (λaC=>[(6,(nV op)),(10,(.bool (aC)))]) (λaC=>[]) (λaC=>?_) ?_))))))
   ·refine gsd 10 rfl (λaG=>?_) λaG=>?_
    ·exact gct rfl (gSk (gz hm [] rfl))
    exact gcf rfl (gR (gB rfl (gA rfl (gE (gz hm [] rfl)))))
   repeat clear hm
   intro aC w hm
   exact gz hm [] rfl
  repeat clear hm
  intro aB w hm
  refine gs 10 rfl (λaH=>?_) λaH=>?_
  ·exact gct rfl (gS (gR (gA rfl (gA rfl (gA rfl (gA rfl (gE (gRt (gr4 results106 rfl ⟨rfl,hm.below⟩)))))))))
  refine gcf rfl (gS (gR (gB rfl (gA rfl (gE (gsd 14 rfl (λaI=>?_) λaI=>?_))))))
  ·exact gct rfl (gS (gR (gA rfl (gA rfl (gA rfl (gA rfl (gE (gRt (gr4 results106 rfl ⟨rfl,hm.below⟩)))))))))
  refine gcf rfl (gS (gR (gB rfl (gA rfl (gE (gsd 16 rfl (λaJ=>?_) λaJ=>?_))))))
  ·exact gct rfl (gS (gR (gA rfl (gA rfl (gA rfl (gA rfl (gE (gRt (gr4 results106 rfl ⟨rfl,hm.below⟩)))))))))
  refine gcf rfl (gS (gR (gB rfl (gA rfl (gE (gsd 18 rfl (λaK=>?_) λaK=>?_))))))
  ·exact gct rfl (gS (gR (gA rfl (gA rfl (gA rfl (gA rfl (gE (gRt (gr4 results106 rfl ⟨rfl,hm.below⟩)))))))))
  exact gcf rfl (gSk (gS (gR (gA rfl (gA rfl (gA rfl (gA rfl (gE (gRt (gr4 results106 rfl ⟨rfl,hm.below⟩))))))))))
theorem zc (w0:World) (n_:Int) :
    mE Tryz.prog 142 [nV n_] w0 (rl n_) λr v w'=>v=(.bool (r))∧Below w0.heap.size w0 w':=by
  unfold rl
  refine mR func142 rfl λr=>?_
  have hm:=Mem.start w0
  exact gS (gR (gA rfl (gE (gS (gR (gM rfl (gC hm rfl call32 (qV _ n_ 0 255) λaA aB w hm=>gA rfl (gE (gRt (gr1 results142 rfl ⟨rfl,hm.below⟩))))))))))
theorem po (w0:World) (op:Int) (hG1:GT.rep (hp w0) [.slice (some ⟨1,0,none⟩) 1 1] [kO]) :
    mE Tryz.prog 119 [nV op] w0 (o0 op) λr v w'=>v=(nV r)∧Below w0.heap.size w0 w':=by
  unfold o0
  refine mR func119 rfl λr=>?_
  have hm:=Mem.start w0
  refine gS (gR (gA rfl (gE (gS (gBk (gS (gR ?_)))))))
  obtain ⟨aI,aB,aC⟩:=tZ hG1 rfl
  refine gY (yl isAgg147 ((lq.mono hm.lez (aB)).cell (j:=0) rfl) rfl) (gM rfl (gY (yG rfl (yx (key:=op) (m:=(kO:ni k9)) (z:=(⟨(mkS []),0⟩:k9)) (v2:=(.agg #[(tV (((ni.get kO op).getD (⟨(mkS []),0⟩:k9)).sign)),nV (((ni.get kO op).getD (⟨(mkS []),0⟩:k9)).level)])) underlying3 underlying147 zeroValue146 (hm.now aC) rfl rfl rfl rfl rfl)) (gY (yG rfl (wq underlying146 rfl rfl isAgg3 rfl rfl rfl)) (gB rfl (gA rfl (gE (gsd 3 rfl (λaD=>?_) λaD=>?_)))))))
  ·refine gct rfl (gS (gR ?_))
   obtain ⟨aJ,aE,aF⟩:=tZ hG1 rfl
   exact gY (yl isAgg147 ((lq.mono hm.lez (aE)).cell (j:=0) rfl) rfl) (gM rfl (gY (yG rfl (yx (key:=op) (m:=(kO:ni k9)) (z:=(⟨(mkS []),0⟩:k9)) (v2:=(.agg #[(tV (((ni.get kO op).getD (⟨(mkS []),0⟩:k9)).sign)),nV (((ni.get kO op).getD (⟨(mkS []),0⟩:k9)).level)])) underlying3 underlying147 zeroValue146 (hm.now aF) rfl rfl rfl rfl rfl)) (gY (yG rfl (wq underlying146 rfl rfl isAgg3 rfl rfl rfl)) (gA rfl (gE (gRt (gr1 results119 rfl ⟨rfl,hm.below⟩)))))))
  refine gcf rfl (gS (gJ hm (λaA=>[(13,(.bool (aA)))]) (λaA=>[]) (λaA=>?_) ?_))
  ·refine gR (gM rfl (gB rfl (gM rfl (gsd 16 rfl (λaG=>?_) λaG=>?_))))
   ·exact gO rfl (gO rfl (gKt rfl (gA rfl (gE (gz hm [] rfl)))))
   exact gM rfl (gB rfl (gKf rfl (gA rfl (gE (gz hm [] rfl)))))
  repeat clear hm
  intro aA w hm
  refine gs 13 rfl (λaH=>?_) λaH=>?_
  ·exact gct rfl (gS (gR (gA rfl (gE (gRt (gr1 results119 rfl ⟨rfl,hm.below⟩))))))
  exact gcf rfl (gSk (gS (gR (gA rfl (gE (gRt (gr1 results119 rfl ⟨rfl,hm.below⟩)))))))
theorem xK  : ∀ (e:kK) (most:Int) (r:Int × Int × Bool),nO e most=some r→∀ (w0:World) (v1:Value) (h1:GT.rep (hp w0) [v1] e.kids) (hG0:GT.rep (hp w0) [.slice (some ⟨0,0,none⟩) 9 9] k7) (hG1:GT.rep (hp w0) [.slice (some ⟨1,0,none⟩) 1 1] [kO]),Con Tryz.prog 127 [(.agg #[nV e.op,nV e.n_,(tV e.name),v1]),nV most] w0 (λv w'=>v=(.tuple #[nV r.1,nV r.2.1,(.bool (r.2.2))])∧Below w0.heap.size w0 w'):=by
  refine nO.partial_correctness  (motive:=λe most r=>∀ (w0:World) (v1:Value) (h1:GT.rep (hp w0) [v1] e.kids) (hG0:GT.rep (hp w0) [.slice (some ⟨0,0,none⟩) 9 9] k7) (hG1:GT.rep (hp w0) [.slice (some ⟨1,0,none⟩) 1 1] [kO]),Con Tryz.prog 127 [(.agg #[nV e.op,nV e.n_,(tV e.name),v1]),nV most] w0 (λv w'=>v=(.tuple #[nV r.1,nV r.2.1,(.bool (r.2.2))])∧Below w0.heap.size w0 w')) ?_
  intro rec_ ih_ e most r hq w0 v1 h1 hG0 hG1
  have impl_exprSize_rec:∀ (w0:World) (e:kK) (v1:Value) (h1:GT.rep (hp w0) [v1] e.kids) (most:Int) (hG0:GT.rep (hp w0) [.slice (some ⟨0,0,none⟩) 9 9] k7) (hG1:GT.rep (hp w0) [.slice (some ⟨1,0,none⟩) 1 1] [kO]) (r:Int × Int × Bool) (hq:rec_ e most=some r),Con Tryz.prog 127 [(.agg #[nV e.op,nV e.n_,(tV e.name),v1]),nV most] w0 (λv w'=>v=(.tuple #[nV r.1,nV r.2.1,(.bool (r.2.2))])∧Below w0.heap.size w0 w'):=λw0 e v1 h1 most hG0 hG1 r hq=>ih_ e most r hq w0 v1 h1 hG0 hG1
  refine pO (ρ:=Int × Int × Bool) (R:=λr v w'=>v=(.tuple #[nV r.1,nV r.2.1,(.bool (r.2.2))])∧Below w0.heap.size w0 w') func127 rfl hq ?_
  have hm:=Mem.start w0
  refine gS (gR (gBx hm rfl λaA w hm=>gA rfl (gA rfl (gA rfl (gE (gS (gR (gA rfl (gA rfl (gE (gS (tX (λaB a w=>0≤aB.1∧aB.1≤2∧0≤aB.2∧aB.2≤3∧St 127 [(1,(nV most)),(2,(pV aA)),(7,(nV aB.1)),(8,(nV aB.2))] w0 (hp w0) [blk aA [nV e.op,nV e.n_,(tV e.name),v1] 80] a w) (λbC aH=>?_) ?_))))))))))))
  ·refine gBk (gS (gR (gF mP rfl (gL hm 0 isAgg3 rfl (gB rfl (gA rfl (gE (tX (λaC a w=>0≤aC.1∧aC.1≤2∧0≤aC.2∧aC.2≤3∧St 127 [(1,(nV most)),(2,(pV aA)),(7,(nV aC.1)),(8,(nV aC.2))] w0 (hp w0) [blk aA [nV e.op,nV e.n_,(tV e.name),v1] 80] a w) (λbD aI=>?_) ?_))))))))
   ·refine gsd 16 rfl (λaU=>?_) λaU=>?_
    ·refine gct rfl (gS (gJ hm (λaJ=>[(1,(nV most)),(2,(pV aA)),(7,(nV 0)),(8,(nV 0)),(28,(.bool (aJ)))]) (λaJ=>[blk aA [nV e.op,nV e.n_,(tV e.name),v1] 80]) (λaJ=>?_) ?_))
     ·refine gR (gF qe rfl (gL hm 0 isAgg3 rfl (gC hm rfl call142 (zc _ e.n_) λbE bF w hm=>gN rfl (gM rfl (gsn 24 rfl (λaV=>?_) λaV=>?_)))))
      ·exact gO rfl (gO rfl (gO rfl (gKt rfl (gE (gz hm [0] rfl)))))
      exact gF q9 rfl (gL hm 0 isAgg9 rfl (gY (yG rfl (vp (p:=e.name) (q:=(mkS [])) rfl rfl rfl)) (gKf rfl (gE (gz hm [0] rfl)))))
     repeat clear hm
     intro aJ w hm
     refine gs 28 rfl (λaX=>?_) λaX=>?_
     ·exact gct rfl (gS (gR (gA rfl (gA rfl (gA rfl (gE (gRt (gEr aI (gEr aH (gr3 results127 rfl ⟨rfl,hm.below⟩))))))))))
     exact gcf rfl (gSk (gZe λa hf=>⟨(by first | omega | (dsimp only;omega)),(by first | omega | (dsimp only;omega)),(by first | omega | (dsimp only;omega)),(by first | omega | (dsimp only;omega)),hf.sb rfl,hm.pk [0] rfl rfl⟩))
    refine gcf rfl (gS (gR (gF mP rfl (gL hm 0 isAgg3 rfl (gB rfl (gA rfl (gE (tX (λaD a w=>0≤aD.1∧aD.1≤2∧0≤aD.2∧aD.2≤3∧St 127 [(1,(nV most)),(2,(pV aA)),(7,(nV aD.1)),(8,(nV aD.2))] w0 (hp w0) [blk aA [nV e.op,nV e.n_,(tV e.name),v1] 80] a w) (λbG aO=>?_) ?_))))))))
    ·refine gsd 29 rfl (λaY=>?_) λaY=>?_
     ·refine gct rfl (gS (gJ hm (λaK=>[(1,(nV most)),(2,(pV aA)),(7,(nV 0)),(8,(nV 0)),(41,(.bool (aK)))]) (λaK=>[blk aA [nV e.op,nV e.n_,(tV e.name),v1] 80]) (λaK=>?_) ?_))
      ·refine gR (gF q9 rfl (gL hm 0 isAgg9 rfl (gC hm rfl call33 (pY _ e.name (hm.now hG0)) λbH bJ w hm=>gN rfl (gM rfl (gsn 37 rfl (λaZ=>?_) λaZ=>?_)))))
       ·exact gO rfl (gO rfl (gO rfl (gKt rfl (gE (gz hm [0] rfl)))))
       exact gF qe rfl (gL hm 0 isAgg3 rfl (gB rfl (gKf rfl (gE (gz hm [0] rfl)))))
      repeat clear hm
      intro aK w hm
      refine gs 41 rfl (λa8=>?_) λa8=>?_
      ·exact gct rfl (gS (gR (gA rfl (gA rfl (gA rfl (gE (gRt (gEr aO (gEr aI (gEr aH (gr3 results127 rfl ⟨rfl,hm.below⟩)))))))))))
      exact gcf rfl (gSk (gZe λa hf=>⟨(by first | omega | (dsimp only;omega)),(by first | omega | (dsimp only;omega)),(by first | omega | (dsimp only;omega)),(by first | omega | (dsimp only;omega)),hf.sb rfl,hm.pk [0] rfl rfl⟩))
     refine gcf rfl (gS (gR (gF mP rfl (gL hm 0 isAgg3 rfl (gB rfl (gA rfl (gE (tX (λaE a w=>0≤aE.1∧aE.1≤2∧0≤aE.2∧aE.2≤3∧St 127 [(1,(nV most)),(2,(pV aA)),(7,(nV aE.1)),(8,(nV aE.2))] w0 (hp w0) [blk aA [nV e.op,nV e.n_,(tV e.name),v1] 80] a w) (λbK aQ=>?_) ?_))))))))
     ·refine gsd 42 rfl (λaa=>?_) λaa=>?_
      ·refine gct rfl (gS (gR (gA rfl (gE (gS (gJ hm (λaL=>[(1,(nV most)),(2,(pV aA)),(7,(nV 0)),(8,(nV 3)),(54,(.bool (aL)))]) (λaL=>[blk aA [nV e.op,nV e.n_,(tV e.name),v1] 80]) (λaL=>?_) ?_))))))
       ·refine gR (gF q9 rfl (gL hm 0 isAgg9 rfl (gC hm rfl call33 (pY _ e.name (hm.now hG0)) λbL bM w hm=>gN rfl (gM rfl (gsn 50 rfl (λab=>?_) λab=>?_)))))
        ·exact gO rfl (gO rfl (gO rfl (gKt rfl (gE (gz hm [0] rfl)))))
        exact gF qe rfl (gL hm 0 isAgg3 rfl (gB rfl (gKf rfl (gE (gz hm [0] rfl)))))
       repeat clear hm
       intro aL w hm
       refine gs 54 rfl (λac=>?_) λac=>?_
       ·exact gct rfl (gS (gR (gA rfl (gA rfl (gA rfl (gE (gRt (gEr aQ (gEr aO (gEr aI (gEr aH (gr3 results127 rfl ⟨rfl,hm.below⟩))))))))))))
       exact gcf rfl (gSk (gZe λa hf=>⟨(by first | omega | (dsimp only;omega)),(by first | omega | (dsimp only;omega)),(by first | omega | (dsimp only;omega)),(by first | omega | (dsimp only;omega)),hf.sb rfl,hm.pk [0] rfl rfl⟩))
      refine gcf rfl (gS (gR ?_))
      obtain ⟨bN,ae,af⟩:=tZ hG1 rfl
      refine gY (yl isAgg147 ((lq.mono hm.lez (ae)).cell (j:=0) rfl) rfl) (gF mP rfl (gL hm 0 isAgg3 rfl (gY (yG rfl (yx (key:=e.op) (m:=(kO:ni k9)) (z:=(⟨(mkS []),0⟩:k9)) (v2:=(.agg #[(tV (((ni.get kO e.op).getD (⟨(mkS []),0⟩:k9)).sign)),nV (((ni.get kO e.op).getD (⟨(mkS []),0⟩:k9)).level)])) underlying3 underlying147 zeroValue146 (hm.now af) rfl rfl rfl rfl rfl)) (gY (yG rfl (wq underlying146 rfl rfl isAgg3 rfl rfl rfl)) (gB rfl (gA rfl (gE (tX (λaF a w=>0≤aF.1∧aF.1≤2∧0≤aF.2∧aF.2≤2∧St 127 [(1,(nV most)),(2,(pV aA)),(7,(nV aF.1)),(8,(nV aF.2))] w0 (hp w0) [blk aA [nV e.op,nV e.n_,(tV e.name),v1] 80] a w) (λbO ag=>?_) ?_))))))))
      ·refine gsd 55 rfl (λah=>?_) λah=>?_
       ·exact gct rfl (gR (gA rfl (gA rfl (gE (gZe λa hf=>⟨(by first | omega | (dsimp only;omega)),(by first | omega | (dsimp only;omega)),(by first | omega | (dsimp only;omega)),(by first | omega | (dsimp only;omega)),hf.sb rfl,hm.pk [0] rfl rfl⟩)))))
       refine gcf rfl (gS (gJ hm (λaM=>[(1,(nV most)),(2,(pV aA)),(62,(.bool (aM)))]) (λaM=>[blk aA [nV e.op,nV e.n_,(tV e.name),v1] 80]) (λaM=>?_) ?_))
       ·refine gR (gF mP rfl (gL hm 0 isAgg3 rfl (gB rfl (gM rfl (gsd 66 rfl (λai=>?_) λai=>?_)))))
        ·exact gO rfl (gO rfl (gO rfl (gKt rfl (gA rfl (gE (gz hm [0] rfl))))))
        exact gF mP rfl (gL hm 0 isAgg3 rfl (gB rfl (gKf rfl (gA rfl (gE (gz hm [0] rfl))))))
       repeat clear hm
       intro aM w hm
       refine gs 62 rfl (λaj=>?_) λaj=>?_
       ·exact gct rfl (gR (gA rfl (gA rfl (gE (gZe λa hf=>⟨(by first | omega | (dsimp only;omega)),(by first | omega | (dsimp only;omega)),(by first | omega | (dsimp only;omega)),(by first | omega | (dsimp only;omega)),hf.sb rfl,hm.pk [0] rfl rfl⟩)))))
       exact gcf rfl (gS (gR (gA rfl (gA rfl (gA rfl (gE (gRt (gEr ag (gEr aQ (gEr aO (gEr aI (gEr aH (gr3 results127 rfl ⟨rfl,hm.below⟩)))))))))))))
      repeat clear hm
      rintro aF a w ⟨bP,bQ,bR,bS,hf,hm⟩
      exact gv hf (gZe λa hf=>⟨(by first | omega | (dsimp only;omega)),(by first | omega | (dsimp only;omega)),(by first | omega | (dsimp only;omega)),(by first | omega | (dsimp only;omega)),hf.sb rfl,hm.pk [0] rfl rfl⟩)
     repeat clear hm
     rintro aE a w ⟨bT,bU,bV,bW,hf,hm⟩
     exact gv hf (gZe λa hf=>⟨(by first | omega | (dsimp only;omega)),(by first | omega | (dsimp only;omega)),(by first | omega | (dsimp only;omega)),(by first | omega | (dsimp only;omega)),hf.sb rfl,hm.pk [0] rfl rfl⟩)
    repeat clear hm
    rintro aD a w ⟨bX,bY,bZ,b8,hf,hm⟩
    exact gv hf (gZe λa hf=>⟨(by first | omega | (dsimp only;omega)),(by first | omega | (dsimp only;omega)),(by first | omega | (dsimp only;omega)),(by first | omega | (dsimp only;omega)),hf.sb rfl,hm.pk [0] rfl rfl⟩)
   repeat clear hm
   rintro aC a w ⟨b9,ba,bb,bc,hf,hm⟩
   exact gv hf (gZe λa hf=>⟨(by first | omega | (dsimp only;omega)),(by first | omega | (dsimp only;omega)),(by first | omega | (dsimp only;omega)),(by first | omega | (dsimp only;omega)),hf.sb rfl,hm.pk [0] rfl rfl⟩)
  repeat clear hm
  rintro aB a w ⟨bd,be,bf,bg,hf,hm⟩
  refine gv hf (gS (gS (gJ hm (λaN=>[(1,(nV most)),(2,(pV aA)),(97,(.bool (aN)))]) (λaN=>[blk aA [nV e.op,nV e.n_,(tV e.name),v1] 80]) (λaN=>?_) ?_)))
  ·refine gR (gF mP rfl (gL hm 0 isAgg3 rfl (gC hm rfl call119 (po _ e.op (hm.now hG1)) λbh bi w hm=>gB rfl (gM rfl (gsd 75 rfl (λak=>?_) λak=>?_)))))
   ·refine gF qe rfl (gL hm 0 isAgg3 rfl (gB rfl (gM rfl (gsd 79 rfl (λal=>?_) λal=>?_))))
    ·exact gO rfl (gO rfl (gO rfl (gKt rfl (gKt rfl (gM rfl (gO rfl (gO rfl (gO rfl (gO rfl (gO rfl (gO rfl (gO rfl (gKt rfl (gM rfl (gO rfl (gO rfl (gKt rfl (gE (gz hm [0] rfl)))))))))))))))))))
    refine gF q9 rfl (gL hm 0 isAgg9 rfl (gY (yG rfl (vp (p:=e.name) (q:=(mkS [])) rfl rfl rfl)) (gKf rfl (gKt rfl (gM rfl (gsd 85 rfl (λam=>?_) λam=>?_))))))
    ·exact gO rfl (gO rfl (gO rfl (gO rfl (gO rfl (gO rfl (gO rfl (gKt rfl (gM rfl (gO rfl (gO rfl (gKt rfl (gE (gz hm [0] rfl)))))))))))))
    refine gF mJ rfl (gL hm 0 isAgg59 rfl ?_)
    obtain ⟨bj,bk,rfl,bl⟩:=kT h1
    refine gY (yV nL rfl) (gM rfl (gM rfl (gC hm rfl call32 (qV _ (e.kids.length:Int) aB.1 aB.2) λbm bo w hm=>gN rfl (gKf rfl (gM rfl (gsn 94 rfl (λan=>?_) λan=>?_))))))
    ·exact gO rfl (gO rfl (gKt rfl (gE (gz hm [0] rfl))))
    exact gM rfl (gB rfl (gKf rfl (gE (gz hm [0] rfl))))
   refine gO rfl (gO rfl (gO rfl (gO rfl (gO rfl (gO rfl (gO rfl (gO rfl (gKf rfl (gM rfl (gF mJ rfl (gL hm 0 isAgg59 rfl ?_)))))))))))
   obtain ⟨bp,bq,rfl,br⟩:=kT h1
   refine gY (yV nL rfl) (gM rfl (gM rfl (gC hm rfl call32 (qV _ (e.kids.length:Int) aB.1 aB.2) λbs bt w hm=>gN rfl (gKf rfl (gM rfl (gsn 94 rfl (λao=>?_) λao=>?_))))))
   ·exact gO rfl (gO rfl (gKt rfl (gE (gz hm [0] rfl))))
   exact gM rfl (gB rfl (gKf rfl (gE (gz hm [0] rfl))))
  repeat clear hm
  intro aN w hm
  refine gs 97 rfl (λaq=>?_) λaq=>?_
  ·exact gct rfl (gS (gR (gA rfl (gA rfl (gA rfl (gE (gRt (gr3 results127 rfl ⟨rfl,hm.below⟩))))))))
  refine gcf rfl (gSk (gS (gR (gA rfl (gA rfl (gE (gS (gS (gR (gF mJ rfl (gL hm 0 isAgg59 rfl ?_)))))))))))
  obtain ⟨ar,au,rfl,bu⟩:=kT h1
  refine gY (yV nL rfl) (gM rfl (gE (gBk (gNg (λaR aG a w=>0≤aG.2∧St 127 [(1,(nV most)),(9,(nV aG.1)),(10,(nV aG.2)),(99,(.slice ar e.kids.length au)),(100,(nV ((e.kids.length:Int)))),(101,(nV aR))] w0 (hp w0) [] a w) (λa hf=>⟨(by first | omega | (dsimp only;omega)),hf.sb rfl,hm.pk [] rfl rfl⟩) ?_ ?_))))
  ·repeat clear hm
   rintro bv av aR aG a w ⟨bw,hf,hm⟩ bz cA cC aw
   refine gv hf (gS (gR (gB rfl (gE (gS (go _ 102 rfl (decide_eq_true (by omega)) (gct rfl (gSk (gS (gBk (gS (gR (gg λax ay aP=>?_)))))))))))))
   obtain ⟨cD,cE,cF,he⟩:=lU h1 aP
   obtain ⟨rfl,_,rfl⟩:=sl3 he
   obtain ⟨az,bA,aS⟩:=n0 h1 aP
   refine gI nL ay (lO aP) rfl (gY (yn (bA.mono hm.lez) isAgg80 sizeOf80 rfl) (gAl hm zeroValue80 rfl λcG w hm=>gSN hm 0 sizeOf80 (kL rfl (kL rfl (kL rfl (kL (ki aS) ke)))) rfl λw hm=>gE (gS (gR (gY (yn (hm.blk_at 0 rfl) isAgg80 sizeOf80 rfl) (gM rfl (gB rfl (gC hm rfl call127 (impl_exprSize_rec _ ax az (hm.now aS) (w64 (most - 1)) (hm.now hG0) (hm.now hG1)) λaT cH w hm=>gM rfl (gX rfl (gX rfl (gX rfl (gA rfl (gA rfl (gA rfl (gE (gS (gS (gR (gM rfl (gN rfl (gE (gsn 114 rfl (λbB=>?_) λbB=>?_))))))))))))))))))))))
   ·exact gct rfl (gS (gR (gA rfl (gA rfl (gA rfl (gE (gRt (gLr aw av (gr3 results127 rfl ⟨rfl,hm.below⟩)))))))))
   refine gcf rfl (gSk (gS (gR (gM rfl (gM rfl (gB rfl (gA rfl (gE (gR (gM rfl (gM rfl (gB rfl (gY (yG rfl (bt5 rfl rfl rfl)) ?_)))))))))))))
   have cI:um aG.2 (w64 (aT.2.1+1))=max aG.2 (w64 (aT.2.1+1)):=bn0 _ _
   exact gA rfl (gE (gR (gP (by omega) (by omega) rfl (gM rfl (gE (gZe λa hf=>⟨(by first | omega | (dsimp only;omega)),hf.sb rfl,hm.pk [] rfl rfl⟩))))))
  repeat clear hm
  rintro cJ cK a w ⟨cL,hf,hm⟩ cN cO
  exact gv hf (gS (gR (gB rfl (gE (gS (go _ 102 rfl (decide_eq_false (by omega)) (gcf rfl (gXt (gHh (gS (gR (gM rfl (gM rfl (gM rfl (gB rfl (gA rfl (gA rfl (gA rfl (gE (gRt (gr3 results127 rfl ⟨rfl,hm.below⟩)))))))))))))))))))))
theorem yE (w0:World) (e:kK) (v1:Value) (h1:GT.rep (hp w0) [v1] e.kids) (most:Int) (hG0:GT.rep (hp w0) [.slice (some ⟨0,0,none⟩) 9 9] k7) (hG1:GT.rep (hp w0) [.slice (some ⟨1,0,none⟩) 1 1] [kO]) (r:Int × Int × Bool) (hq:nO e most=some r):Con Tryz.prog 127 [(.agg #[nV e.op,nV e.n_,(tV e.name),v1]),nV most] w0 (λv w'=>v=(.tuple #[nV r.1,nV r.2.1,(.bool (r.2.2))])∧Below w0.heap.size w0 w'):=xK e most r hq w0 v1 h1 hG0 hG1
theorem xI (w0:World) (e:kK) (v1:Value) (h1:GT.rep (hp w0) [v1] e.kids) (hG0:GT.rep (hp w0) [.slice (some ⟨0,0,none⟩) 9 9] k7) (hG1:GT.rep (hp w0) [.slice (some ⟨1,0,none⟩) 1 1] [kO]) :
    mE Tryz.prog 107 [(.agg #[nV e.op,nV e.n_,(tV e.name),v1])] w0 (pb e) λr v w'=>v=(.bool (r))∧Below w0.heap.size w0 w':=by
  unfold pb
  refine mR func107 rfl λr=>?_
  have hm:=Mem.start w0
  exact gS (gR (gBx hm rfl λaA w hm=>gA rfl (gE (gS (gR (gY (yn (hm.blk_at 0 rfl) isAgg80 sizeOf80 rfl) (gC hm rfl call127 (yE _ e v1 (hm.now h1) 6 (hm.now hG0) (hm.now hG1)) λaB aC w hm=>gM rfl (gX rfl (gX rfl (gX rfl (gA rfl (gA rfl (gA rfl (gE (gS (gR (gM rfl (gA rfl (gE (gRt (gr1 results107 rfl ⟨rfl,hm.below⟩)))))))))))))))))))))
end Go.Proofs.YtkopacpickeojaaGreatDoor
