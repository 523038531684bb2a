/- A part of the proof of FnTwoProgramsCardSaid. -/
import Derived.Test.YtdmoolhjchoifaaGreatDoorTpWalksA
namespace Go.Proofs.YtdmoolhjchoifaaGreatDoor
open Go Go.Wk Go.RowKit
set_option maxRecDepth 4000
set_option maxHeartbeats 4000000
open Tryz
abbrev q8:Go.Wk.Ord:=(.e 11 (.e 13 .fin .nil) .nil)
abbrev zh:Go.Wk.Ord:=(.e 11 (.e 12 (.e 13 .fin .nil) .nil) (.e 12 q8 .nil))
abbrev yJ:Go.Wk.Ord:=(.e 8 zh (.e 12 (.e 8 q8 .nil) .nil))
abbrev xx:Go.Wk.Ord:=(.e 8 (.e 10 q8 .nil) (.e 10 (.e 8 q8 .nil) .nil))
abbrev tL:Go.Wk.Ord:=(.p 7 (.e 8 q8 .nil))
abbrev zq:Go.Wk.Ord:=(.p 7 (.e 8 (.e 10 zh (.e 12 (.e 10 q8 .nil) .nil)) (.e 10 yJ (.e 12 xx .nil))))
abbrev xz:Go.Wk.Ord:=(.e 5 (.p 6 tL) .nil)
abbrev za:Go.Wk.Ord:=(.e 1 (.p 7 yJ) (.e 12 (.e 1 tL .nil) .nil))
abbrev ze:Go.Wk.Ord:=(.e 1 (.p 7 xx) (.e 10 (.e 1 tL .nil) .nil))
abbrev x9:Go.Wk.Ord:=(.e 5 (.p 6 (.p 7 yJ)) (.e 12 xz .nil))
abbrev xo:Go.Wk.Ord:=(.e 5 (.p 6 (.p 7 xx)) (.e 10 xz .nil))
abbrev xq:Go.Wk.Ord:=(.e 1 xz (.e 5 (.p 6 (.e 1 tL .nil)) .nil))
abbrev qB:Go.Wk.Ord:=(.e 8 (.p 9 (.e 11 .fin .nil)) .nil)
abbrev af0:Go.Wk.Ord:=(.e 8 (.p 9 (.e 10 (.e 11 .fin .nil) .nil)) (.e 10 qB .nil))
abbrev ae4:Go.Wk.Ord:=(.e 5 af0 (.e 10 (.e 5 qB .nil) .nil))
abbrev ac2:Go.Wk.Ord:=(.e 5 (.e 7 qB .nil) (.e 7 (.e 5 qB .nil) .nil))
abbrev ab3:Go.Wk.Ord:=(.e 0 (.e 5 qB .nil) .nil)
theorem wD (w0:World) (hz:fU) (r_:fG) (bp0:Nat) (v1p:Value) (h1p:GT.rep hz [v1p] r_.b) (hm0:Mem w0 hz w0 [blk bp0 [v1p,nV r_.p] 77]) :
    iF Tryz.prog 17 [(pV bp0)] w0 (oH r_) λr v w'=>∃ (x1:Value),v=(.agg #[x1])∧Mem w0 hz w' [blk bp0 [v1p,nV r.2.p] 77,ow [x1] r.1.fns]:=by
  unfold oH
  refine iR func17 rfl λr=>?_
  have hm:=hm0
  refine gS (gR (gAl hm zeroValue26 rfl λaC w hm=>gE (gS (gR (gM rfl (gM rfl (gf rfl (λa hf=>fL (vs:=#[(0,(nV 14)),(1,(nV 20)),(2,(nV 8)),(3,(nV 26))]) (cs:=[nV 14,nV 20,nV 8,nV 26]) oh hf hm rfl rfl (by kernel_rfl) rfl rfl) ?_)))))))
  rintro _ w ⟨cA,rfl,hm⟩
  replace hm:=hm.lit (xs:=([14,20,8,26]:List Int)) 0 rfl rfl rfl rfl
  obtain ⟨cC,hle,hm1,hsub,cD⟩:=hm.take2 (L1:=[_]) (L2:=[_,_]) [2] [0,1] (by decide) rfl rfl
  refine gCg rfl call45 (gV _ cC r_ bp0 v1p (GT.mono hle h1p) ([14,20,8,26]:List Int) (sV cA 0 4 4) (kZ (hsub 0 _ rfl)) hm1 ) ?_
  rintro bT db dc w ⟨rfl,hB⟩
  replace hm:=cD _ _ hB;clear hB
  refine gY (yG rfl (fY (vs:=[(0,(pV bp0)),(4,(nV bT.1))]) (cs:=#[(pV bp0),.slice none 0 0,.slice none 0 0,nV 0,nV bT.1]) rfl rfl (by kernel_rfl))) (gBx hm rfl λaB w hm=>?_)
  replace hm:=hm.opt_new (.slice none 0 0) ([]:List Str)
  refine gA rfl (gE (gS (gS (gR (gM rfl (gf rfl (λa hf=>fL (vs:=#[(0,(nV 0)),(1,(nV 1)),(2,(nV 1)),(3,(nV 2))]) (cs:=[nV 0,nV 1,nV 1,nV 2]) oh hf hm rfl rfl (by kernel_rfl) rfl rfl) ?_))))))
  rintro _ w ⟨cE,rfl,hm⟩
  replace hm:=hm.lit (xs:=([0,1,1,2]:List Int)) 0 rfl rfl rfl rfl
  obtain ⟨cF,hle,hm1,hsub,cG⟩:=hm.take2 (L1:=[_]) (L2:=[_,_,_,_,_]) [3] [0,1,2,4,5] (by decide) rfl rfl
  refine gCg rfl call45 (gV _ cF (⟨r_.b,bT.2.p⟩:fG) bp0 v1p (GT.mono hle h1p) ([0,1,1,2]:List Int) (sV cE 0 4 4) (kZ (hsub 0 _ rfl)) hm1 ) ?_
  rintro dd de df w ⟨rfl,hB⟩
  replace hm:=cG _ _ hB;clear hB
  refine gA rfl (gE (gJg (λaI a w=>∃ (aw ax:Value),St 69 [(0,(pV bp0)),(2,(pV aC)),(3,(pV aB))] w0 hz [blk bp0 [v1p,nV aI.1] 77,blk aC [.slice none 0 0] 26,blk aB [(pV bp0),aw,ax,nV aI.2.2.2.1,nV aI.2.2.2.2] 83,ow [aw] aI.2.1,opt (.slice none 0 0) ([]:List Str) ax aI.2.2.1] a w) (λaI=>?_) ?_))
  ·refine gBk ?_
   replace hm:=hm.nilow (α:=Fn_)
   refine gMg (λaA a w=>∃ (ae aE:Value),St 69 [(0,(pV bp0)),(2,(pV aC)),(3,(pV aB)),(4,(nV aA.2.2.2.2.2))] w0 hz [blk bp0 [v1p,nV aA.1] 77,blk aC [.slice none 0 0] 26,blk aB [(pV bp0),ae,aE,nV aA.2.2.2.1,nV aA.2.2.2.2.1] 83,ow [ae] aA.2.1,opt (.slice none 0 0) ([]:List Str) aE aA.2.2.1] a w) (λa hf=>⟨.slice none 0 0,.slice none 0 0,hf.sb rfl,hm.pk [1,6,4,0,3] rfl rfl⟩) ?_
   repeat clear hm
   rintro dg cH aA a w ⟨ae,aE,hf,hm⟩ dh cI
   refine gv hf (gS (gS (gR (gM rfl (gB rfl (gE (gsd 18 rfl (λcJ=>?_) λcJ=>?_)))))))
   ·refine gct rfl (gSk (gS (gBk (gS (gJg (λaH a w=>∃ (af:Value) (bU:Nat) (aV aX:Value),St 69 [(0,(pV bp0)),(2,(pV aC)),(3,(pV aB)),(4,(nV aA.2.2.2.2.2)),(5,(pV bU))] w0 hz [blk bp0 [v1p,nV aH.1] 77,blk aC [.slice none 0 0] 26,blk aB [(pV bp0),ae,af,nV aH.2.2.1,nV aH.2.2.2.1] 83,ow [ae] aA.2.1,opt (.slice none 0 0) ([]:List Str) af aH.2.1,blk bU [(tV aH.2.2.2.2.1),aV,aX] 54,ow [aV] aH.2.2.2.2.2.1,ow [aX] aH.2.2.2.2.2.2] a w) (λaH=>?_) ?_)))))
    ·obtain ⟨aF,aG,rfl,di⟩:=fE (hm.ow_rep 3 rfl)
     refine gW (.p 0 (.p 2 (.p 3 (.p 4 (.p 9 (.e 1 (.e 5 (.p 6 zq) (.e 10 x9 (.e 12 xo .nil))) (.e 5 (.p 6 (.e 1 zq (.e 10 za (.e 12 ze .nil)))) (.e 10 (.e 1 x9 (.e 5 (.p 6 za) (.e 12 xq .nil))) (.e 12 (.e 1 xo (.e 5 (.p 6 ze) (.e 10 xq .nil))) .nil))))))))) [] [0,2,3,4,6,7,9] hm [0,1,2,3,4] [_,_,_,_,_] rfl mxo (by kernel_rfl) (λ_ _ _ h=>h.2) λw hm hS=>tP rfl (λw=>yM rfl) (tP rfl (λw=>yM rfl) (tP rfl (λw=>yG rfl (fI rfl rfl)) (tP rfl (λw=>yF oz rfl) (tP rfl (λw=>yM rfl) (gb λaO ay=>gb λaJ aS=>gb λaY bs=>tSh ((.e 13 .fin .nil)) (λa w=>∃ (az:Value) (bA:Nat) (bB bC:Value),St 69 [(0,(pV bp0)),(2,(pV aC)),(3,(pV aB)),(4,(nV aA.2.2.2.2.2)),(5,(pV bA)),(32,(.agg #[(tV aY.1.name),bB,bC]))] w0 hz [blk bp0 [v1p,nV aY.2.2.p] 77,blk aC [.slice none 0 0] 26,blk aB [(pV bp0),.slice aF aA.2.1.length aG,az,nV aY.2.1.next_,nV aY.2.1.left] 83,ow [.slice aF aA.2.1.length aG] aA.2.1,opt (.slice none 0 0) ([]:List Str) az aY.2.1.vars,blk bA [(tV (mkS [])),.slice none 0 0,.slice none 0 0] 54,ow [bB] aY.1.params,ow [bC] aY.1.body] a w) ?_ λhT4_1=>?_)))))
     ·rintro a w ⟨az,bA,bB,bC,hf,hm⟩
      refine gv hf (tO (tf0 rfl rfl (λa hf=>j7 5 hf hm rfl sizeOf54 rfl rfl rfl (et rfl (et (fS (hm.ow_rep 6 rfl)) (et (fS (hm.ow_rep 7 rfl)) fK))) rfl rfl) ?_))
      rintro _ w hm
      exact tAn rfl (tE (gZ λa hf=>⟨az,bA,bB,bC,hf.sb rfl,hm.pk [0,1,2,3,4,5,6,7] rfl rfl⟩))
     refine tSh (q8) (λa w=>∃ (bD:Nat),St 69 [(0,(pV bp0)),(2,(pV aC)),(3,(pV aB)),(4,(nV aA.2.2.2.2.2)),(5,(pV bD)),(21,(pV aB)),(29,(tV aO)),(31,(nV aJ.1))] w0 hz [blk bp0 [v1p,nV aJ.2.p] 77,blk aC [.slice none 0 0] 26,blk aB [(pV bp0),.slice aF aA.2.1.length aG,aE,nV aA.2.2.2.1,nV aA.2.2.2.2.1] 83,ow [.slice aF aA.2.1.length aG] aA.2.1,opt (.slice none 0 0) ([]:List Str) aE aA.2.2.1,blk bD [(tV (mkS [])),.slice none 0 0,.slice none 0 0] 54] a w) ?_ λhT4_2=>?_
     ·rintro a w ⟨bD,hf,hm⟩
      refine gv hf (tO ?_)
      obtain ⟨aP,hle,hm1,hsub,aQ⟩:=hm.take2 (L1:=[_,_]) (L2:=[_,_,_,_]) [2,0] [1,3,4,5] (by decide) rfl rfl
      refine tf rfl rfl (λa hf=>fo hf rfl call46 rfl (my _ aP (⟨aA.2.1,aA.2.2.1,aA.2.2.2.1,aA.2.2.2.2.1⟩:ft) bp0 aB (.slice aF aA.2.1.length aG) (kZ (hsub 1 _ rfl)) aE (qC hle vo (hsub 2 _ rfl)) (⟨r_.b,aJ.2.p⟩:fG) v1p (GT.mono hle h1p) aO aJ.1 hm1  _ bs)) ?_
      rintro aZ w ⟨ai,aj,bE,rfl,hB⟩
      replace hm:=aQ _ _ hB;clear hB
      replace hm:=(hm.opt_comp 7 4 (by decide) rfl rfl).pk (L':=[_,_,_,_,_,_,_,_]) [0,1,2,3,5,6,7,8] rfl rfl
      exact tAn rfl (kG hT4_1 λa hf=>⟨bE,bD,ai,aj,hf.sb rfl,hm.pk [1,4,0,5,6,7,2,3] rfl rfl⟩)
     refine tSh ((.e 10 q8 .nil)) (λa w=>∃ (bF:Nat),St 69 [(0,(pV bp0)),(2,(pV aC)),(3,(pV aB)),(4,(nV aA.2.2.2.2.2)),(5,(pV bF)),(21,(pV aB)),(29,(tV aO)),(30,(pV bp0))] w0 hz [blk bp0 [v1p,nV aA.1] 77,blk aC [.slice none 0 0] 26,blk aB [(pV bp0),.slice aF aA.2.1.length aG,aE,nV aA.2.2.2.1,nV aA.2.2.2.2.1] 83,ow [.slice aF aA.2.1.length aG] aA.2.1,opt (.slice none 0 0) ([]:List Str) aE aA.2.2.1,blk bF [(tV (mkS [])),.slice none 0 0,.slice none 0 0] 54] a w) ?_ λhT4_3=>?_
     ·rintro a w ⟨bF,hf,hm⟩
      refine gv hf (tO ?_)
      obtain ⟨aP,hle,hm1,hsub,aQ⟩:=hm.take2 (L1:=[_]) (L2:=[_,_,_,_,_]) [0] [1,2,3,4,5] (by decide) rfl rfl
      refine tf rfl rfl (λa hf=>fo hf rfl call18 rfl (fR _ aP (⟨r_.b,aA.1⟩:fG) bp0 v1p (GT.mono hle h1p) 3 hm1  _ aS)) ?_
      rintro aZ w ⟨rfl,hB⟩
      replace hm:=aQ _ _ hB;clear hB
      exact tAn rfl (kG hT4_2 λa hf=>⟨bF,hf.sb rfl,hm.pk [0,1,2,3,4,5] rfl rfl⟩)
     refine tSh (zh) (λa w=>St 69 [(0,(pV bp0)),(2,(pV aC)),(3,(pV aB)),(4,(nV aA.2.2.2.2.2)),(21,(pV aB)),(29,(tV aO)),(31,(nV aJ.1))] w0 hz [blk bp0 [v1p,nV aJ.2.p] 77,blk aC [.slice none 0 0] 26,blk aB [(pV bp0),.slice aF aA.2.1.length aG,aE,nV aA.2.2.2.1,nV aA.2.2.2.2.1] 83,ow [.slice aF aA.2.1.length aG] aA.2.1,opt (.slice none 0 0) ([]:List Str) aE aA.2.2.1] a w) ?_ λhT4_4=>?_
     ·rintro a w ⟨hf,hm⟩
      refine gv hf (tMo ?_ ?_)
      ·obtain ⟨aP, hle, hm1, hsub, aQ⟩ := hm.take2 (L1 := [_, _]) (L2 := [_, _, _]) [2, 0] [1, 3, 4] (by decide) rfl rfl
       refine tf rfl rfl (λa hf=>fo hf rfl call46 rfl (my _ aP (⟨aA.2.1,aA.2.2.1,aA.2.2.2.1,aA.2.2.2.2.1⟩:ft) bp0 aB (.slice aF aA.2.1.length aG) (kZ (hsub 1 _ rfl)) aE (qC hle vo (hsub 2 _ rfl)) (⟨r_.b,aJ.2.p⟩:fG) v1p (GT.mono hle h1p) aO aJ.1 hm1  _ bs)) ?_
       rintro aZ w ⟨ai,aj,bE,rfl,hB⟩
       replace hm:=aQ _ _ hB;clear hB
       replace hm:=(hm.opt_comp 7 4 (by decide) rfl rfl).pk (L':=[_,_,_,_,_,_,_]) [0,1,2,3,5,6,7] rfl rfl
       refine tAn rfl (tO (tf rfl rfl (λa hf=>iQ hm zeroValue54 rfl rfl) ?_))
       rintro _ w ⟨aL,rfl,hm⟩
       exact tAn rfl (kG hT4_1 λa hf=>⟨bE,aL,ai,aj,hf.sb rfl,hm.pk [2,5,1,6,7,0,3,4] rfl rfl⟩)
      refine tO (tf rfl rfl (λa hf=>iQ hm zeroValue54 rfl rfl) ?_)
      rintro _ w ⟨aU,rfl,hm⟩
      exact tAn rfl (kG hT4_2 λa hf=>⟨aU,hf.sb rfl,hm.pk [1,2,3,4,5,0] rfl rfl⟩)
     refine tSh (tL) (λa w=>∃ (bG:Nat) (bV:Value),0≤(aA.2.1.length:Int)∧(aA.2.1.length:Int)≤140737488355328∧St 69 [(0,(pV bp0)),(2,(pV aC)),(3,(pV aB)),(4,(nV aA.2.2.2.2.2)),(5,(pV bG)),(21,(pV aB)),(22,bV),(27,(nV ((aA.2.1.length:Int)))),(31,(nV aJ.1))] w0 hz [blk bp0 [v1p,nV aJ.2.p] 77,blk aC [.slice none 0 0] 26,blk aB [(pV bp0),.slice aF aA.2.1.length aG,aE,nV aA.2.2.2.1,nV aA.2.2.2.2.1] 83,ow [.slice aF aA.2.1.length aG] aA.2.1,opt (.slice none 0 0) ([]:List Str) aE aA.2.2.1,blk bG [(tV (mkS [])),.slice none 0 0,.slice none 0 0] 54,ow [bV] ([(mkS [102]),(mkS [103]),(mkS [104])]:List Str)] a w) ?_ λhT4_5=>?_
     ·rintro a w ⟨bG,bV,ag,ah,hf,hm⟩
      refine gv hf ?_
      obtain ⟨a8,aK⟩:=nL.1 ay
      obtain ⟨aL,bW,bX,he⟩:=iS (hm.ow_rep 6 rfl) aK
      subst he
      exact tP rfl (λw=>yI jO a8 (ff aK) rfl) (tO (tY rfl (yl isAgg9 ((gK (cs:=[(tV aO)]) (hm.ow_rep 6 rfl) aK rfl).cell (j:=0) rfl) rfl) (tAn rfl (kG hT4_2 λa hf=>⟨bG,hf.sb rfl,hm.pk [0,1,2,3,4,5] rfl rfl⟩))))
     refine tSh ((.e 1 tL .nil)) (λa w=>∃ (bH:Nat),0≤(aA.2.1.length:Int)∧(aA.2.1.length:Int)≤140737488355328∧St 69 [(0,(pV bp0)),(2,(pV aC)),(3,(pV aB)),(4,(nV aA.2.2.2.2.2)),(5,(pV bH)),(21,(pV aB)),(27,(nV ((aA.2.1.length:Int)))),(31,(nV aJ.1))] w0 hz [blk bp0 [v1p,nV aJ.2.p] 77,blk aC [.slice none 0 0] 26,blk aB [(pV bp0),.slice aF aA.2.1.length aG,aE,nV aA.2.2.2.1,nV aA.2.2.2.2.1] 83,ow [.slice aF aA.2.1.length aG] aA.2.1,opt (.slice none 0 0) ([]:List Str) aE aA.2.2.1,blk bH [(tV (mkS [])),.slice none 0 0,.slice none 0 0] 54] a w) ?_ λhT4_6=>?_
     ·rintro a w ⟨bH,ag,ah,hf,hm⟩
      refine gv hf (tO (tf rfl rfl (λa hf=>fL (vs:=#[(0,(tV (mkS [102]))),(1,(tV (mkS [103]))),(2,(tV (mkS [104])))]) (cs:=[(tV (mkS [102])),(tV (mkS [103])),(tV (mkS [104]))]) lK hf hm rfl rfl (by kernel_rfl) rfl rfl) ?_))
      rintro _ w ⟨aL,rfl,hm⟩
      replace hm:=hm.lit (xs:=([(mkS [102]),(mkS [103]),(mkS [104])]:List Str)) 0 rfl rfl rfl rfl
      exact tAn rfl (kG hT4_5 λa hf=>⟨bH,sV aL 0 3 3,(by first | omega | (dsimp only;omega)),(by first | omega | (dsimp only;omega)),hf.sb rfl,hm.pk [1,2,3,4,5,6,0] rfl rfl⟩)
     refine tSh ((.p 7 xx)) (λa w=>∃ (ak:Nat) (bY:Value),0≤(aA.2.1.length:Int)∧(aA.2.1.length:Int)≤140737488355328∧St 69 [(0,(pV bp0)),(2,(pV aC)),(3,(pV aB)),(4,(nV aA.2.2.2.2.2)),(5,(pV ak)),(21,(pV aB)),(22,bY),(27,(nV ((aA.2.1.length:Int)))),(30,(pV bp0))] w0 hz [blk bp0 [v1p,nV aA.1] 77,blk aC [.slice none 0 0] 26,blk aB [(pV bp0),.slice aF aA.2.1.length aG,aE,nV aA.2.2.2.1,nV aA.2.2.2.2.1] 83,ow [.slice aF aA.2.1.length aG] aA.2.1,opt (.slice none 0 0) ([]:List Str) aE aA.2.2.1,blk ak [(tV (mkS [])),.slice none 0 0,.slice none 0 0] 54,ow [bY] ([(mkS [102]),(mkS [103]),(mkS [104])]:List Str)] a w) ?_ λhT4_7=>?_
     ·rintro a w ⟨ak,bY,ag,ah,hf,hm⟩
      refine gv hf ?_
      obtain ⟨a8,aK⟩:=nL.1 ay
      obtain ⟨aL,bW,bX,he⟩:=iS (hm.ow_rep 6 rfl) aK
      subst he
      refine tP rfl (λw=>yI jO a8 (ff aK) rfl) (tMo ?_ ?_)
      ·exact tY rfl (yl isAgg9 ((gK (cs:=[(tV aO)]) (hm.ow_rep 6 rfl) aK rfl).cell (j:=0) rfl) rfl) (tAn rfl (kG hT4_3 λa hf=>⟨ak,hf.sb rfl,hm.pk [0,1,2,3,4,5] rfl rfl⟩))
      refine tO ?_
      obtain ⟨aP,hle,hm1,hsub,aQ⟩:=hm.take2 (L1:=[_]) (L2:=[_,_,_,_,_,_]) [0] [1,2,3,4,5,6] (by decide) rfl rfl
      refine tf rfl rfl (λa hf=>fo hf rfl call18 rfl (fR _ aP (⟨r_.b,aA.1⟩:fG) bp0 v1p (GT.mono hle h1p) 3 hm1  _ aS)) ?_
      rintro aZ w ⟨rfl,hB⟩
      replace hm:=aQ _ _ hB;clear hB
      exact tAn rfl (tO (tY rfl (yl isAgg9 ((gK (cs:=[(tV aO)]) (hm.ow_rep 6 rfl) aK rfl).cell (j:=0) rfl) rfl) (tAn rfl (kG hT4_2 λa hf=>⟨ak,hf.sb rfl,hm.pk [0,1,2,3,4,5] rfl rfl⟩))))
     refine tSh ((.p 7 yJ)) (λa w=>∃ (bZ:Value),0≤(aA.2.1.length:Int)∧(aA.2.1.length:Int)≤140737488355328∧St 69 [(0,(pV bp0)),(2,(pV aC)),(3,(pV aB)),(4,(nV aA.2.2.2.2.2)),(21,(pV aB)),(22,bZ),(27,(nV ((aA.2.1.length:Int)))),(31,(nV aJ.1))] w0 hz [blk bp0 [v1p,nV aJ.2.p] 77,blk aC [.slice none 0 0] 26,blk aB [(pV bp0),.slice aF aA.2.1.length aG,aE,nV aA.2.2.2.1,nV aA.2.2.2.2.1] 83,ow [.slice aF aA.2.1.length aG] aA.2.1,opt (.slice none 0 0) ([]:List Str) aE aA.2.2.1,ow [bZ] ([(mkS [102]),(mkS [103]),(mkS [104])]:List Str)] a w) ?_ λhT4_8=>?_
     ·rintro a w ⟨bZ,ag,ah,hf,hm⟩
      refine gv hf ?_
      obtain ⟨a8,aK⟩:=nL.1 ay
      obtain ⟨aL,bW,bX,he⟩:=iS (hm.ow_rep 5 rfl) aK
      subst he
      refine tP rfl (λw=>yI jO a8 (ff aK) rfl) (tMo ?_ ?_)
      ·exact tY rfl (yl isAgg9 ((gK (cs:=[(tV aO)]) (hm.ow_rep 5 rfl) aK rfl).cell (j:=0) rfl) rfl) (tAn rfl (kG hT4_4 λa hf=>⟨hf.sb rfl,hm.pk [0,1,2,3,4] rfl rfl⟩))
      refine tO (tf rfl rfl (λa hf=>iQ hm zeroValue54 rfl rfl) ?_)
      rintro _ w ⟨aU,rfl,hm⟩
      exact tAn rfl (tO (tY rfl (yl isAgg9 ((gK (cs:=[(tV aO)]) (hm.ow_rep 6 rfl) aK rfl).cell (j:=0) rfl) rfl) (tAn rfl (kG hT4_2 λa hf=>⟨aU,hf.sb rfl,hm.pk [1,2,3,4,5,0] rfl rfl⟩))))
     refine tSh (ze) (λa w=>∃ (al:Nat),0≤(aA.2.1.length:Int)∧(aA.2.1.length:Int)≤140737488355328∧St 69 [(0,(pV bp0)),(2,(pV aC)),(3,(pV aB)),(4,(nV aA.2.2.2.2.2)),(5,(pV al)),(21,(pV aB)),(27,(nV ((aA.2.1.length:Int)))),(30,(pV bp0))] w0 hz [blk bp0 [v1p,nV aA.1] 77,blk aC [.slice none 0 0] 26,blk aB [(pV bp0),.slice aF aA.2.1.length aG,aE,nV aA.2.2.2.1,nV aA.2.2.2.2.1] 83,ow [.slice aF aA.2.1.length aG] aA.2.1,opt (.slice none 0 0) ([]:List Str) aE aA.2.2.1,blk al [(tV (mkS [])),.slice none 0 0,.slice none 0 0] 54] a w) ?_ λhT4_9=>?_
     ·rintro a w ⟨al,ag,ah,hf,hm⟩
      refine gv hf (tMo ?_ ?_)
      ·refine tf rfl rfl (fun a hf => fL (vs := #[(0, (tV (mkS [102]))), (1, (tV (mkS [103]))), (2, (tV (mkS [104])))]) (cs := [(tV (mkS [102])), (tV (mkS [103])), (tV (mkS [104]))]) lK hf hm rfl rfl (by kernel_rfl) rfl rfl) ?_
       rintro _ w ⟨aL,rfl,hm⟩
       replace hm:=hm.lit (xs:=([(mkS [102]),(mkS [103]),(mkS [104])]:List Str)) 0 rfl rfl rfl rfl
       exact tAn rfl (kG hT4_7 λa hf=>⟨al,sV aL 0 3 3,(by first | omega | (dsimp only;omega)),(by first | omega | (dsimp only;omega)),hf.sb rfl,hm.pk [1,2,3,4,5,6,0] rfl rfl⟩)
      refine tO ?_
      obtain ⟨aP,hle,hm1,hsub,aQ⟩:=hm.take2 (L1:=[_]) (L2:=[_,_,_,_,_]) [0] [1,2,3,4,5] (by decide) rfl rfl
      refine tf rfl rfl (λa hf=>fo hf rfl call18 rfl (fR _ aP (⟨r_.b,aA.1⟩:fG) bp0 v1p (GT.mono hle h1p) 3 hm1  _ aS)) ?_
      rintro aZ w ⟨rfl,hB⟩
      replace hm:=aQ _ _ hB;clear hB
      exact tAn rfl (kG hT4_6 λa hf=>⟨al,(by first | omega | (dsimp only;omega)),(by first | omega | (dsimp only;omega)),hf.sb rfl,hm.pk [0,1,2,3,4,5] rfl rfl⟩)
     refine tSh (za) (λa w=>0≤(aA.2.1.length:Int)∧(aA.2.1.length:Int)≤140737488355328∧St 69 [(0,(pV bp0)),(2,(pV aC)),(3,(pV aB)),(4,(nV aA.2.2.2.2.2)),(21,(pV aB)),(27,(nV ((aA.2.1.length:Int)))),(31,(nV aJ.1))] w0 hz [blk bp0 [v1p,nV aJ.2.p] 77,blk aC [.slice none 0 0] 26,blk aB [(pV bp0),.slice aF aA.2.1.length aG,aE,nV aA.2.2.2.1,nV aA.2.2.2.2.1] 83,ow [.slice aF aA.2.1.length aG] aA.2.1,opt (.slice none 0 0) ([]:List Str) aE aA.2.2.1] a w) ?_ λhT4_10=>?_
     ·rintro a w ⟨ag,ah,hf,hm⟩
      refine gv hf (tMo ?_ ?_)
      ·refine tf rfl rfl (fun a hf => fL (vs := #[(0, (tV (mkS [102]))), (1, (tV (mkS [103]))), (2, (tV (mkS [104])))]) (cs := [(tV (mkS [102])), (tV (mkS [103])), (tV (mkS [104]))]) lK hf hm rfl rfl (by kernel_rfl) rfl rfl) ?_
       rintro _ w ⟨aL,rfl,hm⟩
       replace hm:=hm.lit (xs:=([(mkS [102]),(mkS [103]),(mkS [104])]:List Str)) 0 rfl rfl rfl rfl
       exact tAn rfl (kG hT4_8 λa hf=>⟨sV aL 0 3 3,(by first | omega | (dsimp only;omega)),(by first | omega | (dsimp only;omega)),hf.sb rfl,hm.pk [1,2,3,4,5,0] rfl rfl⟩)
      refine tO (tf rfl rfl (λa hf=>iQ hm zeroValue54 rfl rfl) ?_)
      rintro _ w ⟨aU,rfl,hm⟩
      exact tAn rfl (kG hT4_6 λa hf=>⟨aU,(by first | omega | (dsimp only;omega)),(by first | omega | (dsimp only;omega)),hf.sb rfl,hm.pk [1,2,3,4,5,0] rfl rfl⟩)
     refine tSh (xz) (λa w=>∃ (bJ:Nat) (bK:Value),St 69 [(0,(pV bp0)),(2,(pV aC)),(3,(pV aB)),(4,(nV aA.2.2.2.2.2)),(5,(pV bJ)),(21,(pV aB)),(22,bK),(25,(.pointer (some ⟨aB,1,none⟩))),(31,(nV aJ.1))] w0 hz [blk bp0 [v1p,nV aJ.2.p] 77,blk aC [.slice none 0 0] 26,blk aB [(pV bp0),.slice aF aA.2.1.length aG,aE,nV aA.2.2.2.1,nV aA.2.2.2.2.1] 83,ow [.slice aF aA.2.1.length aG] aA.2.1,opt (.slice none 0 0) ([]:List Str) aE aA.2.2.1,blk bJ [(tV (mkS [])),.slice none 0 0,.slice none 0 0] 54,ow [bK] ([(mkS [102]),(mkS [103]),(mkS [104])]:List Str)] a w) ?_ λhT4_11=>?_
     ·rintro a w ⟨bJ,bK,hf,hm⟩
      exact gv hf (tO (tY rfl (yL hm 2 isAgg24 rfl) (tAn rfl (tP rfl (λw=>yV jW rfl) (kG hT4_5 λa hf=>⟨bJ,bK,(by first | omega | (dsimp only;omega)),(by first | omega | (dsimp only;omega)),hf.sb rfl,hm.pk [0,1,2,3,4,5,6] rfl rfl⟩)))))
     refine tSh (zq) (λa w=>∃ (b8:Value),0≤(aA.2.1.length:Int)∧(aA.2.1.length:Int)≤140737488355328∧St 69 [(0,(pV bp0)),(2,(pV aC)),(3,(pV aB)),(4,(nV aA.2.2.2.2.2)),(21,(pV aB)),(22,b8),(27,(nV ((aA.2.1.length:Int)))),(30,(pV bp0))] w0 hz [blk bp0 [v1p,nV aA.1] 77,blk aC [.slice none 0 0] 26,blk aB [(pV bp0),.slice aF aA.2.1.length aG,aE,nV aA.2.2.2.1,nV aA.2.2.2.2.1] 83,ow [.slice aF aA.2.1.length aG] aA.2.1,opt (.slice none 0 0) ([]:List Str) aE aA.2.2.1,ow [b8] ([(mkS [102]),(mkS [103]),(mkS [104])]:List Str)] a w) ?_ λhT4_12=>?_
     ·rintro a w ⟨b8,ag,ah,hf,hm⟩
      refine gv hf ?_
      obtain ⟨a8,aK⟩:=nL.1 ay
      obtain ⟨aL,bW,bX,he⟩:=iS (hm.ow_rep 5 rfl) aK
      subst he
      refine tP rfl (λw=>yI jO a8 (ff aK) rfl) (tMo ?_ ?_)
      ·refine tY rfl (yl isAgg9 ((gK (cs:=[(tV aO)]) (hm.ow_rep 5 rfl) aK rfl).cell (j:=0) rfl) rfl) (tAn rfl (tMo ?_ ?_))
       ·obtain ⟨aP, hle, hm1, hsub, aQ⟩ := hm.take2 (L1 := [_]) (L2 := [_, _, _, _, _]) [0] [1, 2, 3, 4, 5] (by decide) rfl rfl
        refine tf rfl rfl (λa hf=>fo hf rfl call18 rfl (fR _ aP (⟨r_.b,aA.1⟩:fG) bp0 v1p (GT.mono hle h1p) 3 hm1  _ aS)) ?_
        rintro aZ w ⟨rfl,hB⟩
        replace hm:=aQ _ _ hB;clear hB
        exact tAn rfl (kG hT4_4 λa hf=>⟨hf.sb rfl,hm.pk [0,1,2,3,4] rfl rfl⟩)
       refine tO (tf rfl rfl (λa hf=>iQ hm zeroValue54 rfl rfl) ?_)
       rintro _ w ⟨aU,rfl,hm⟩
       exact tAn rfl (kG hT4_3 λa hf=>⟨aU,hf.sb rfl,hm.pk [1,2,3,4,5,0] rfl rfl⟩)
      refine tMo ?_ ?_
      ·obtain ⟨b9, hle, hm1, hsub, ba⟩ := hm.take2 (L1 := [_]) (L2 := [_, _, _, _, _]) [0] [1, 2, 3, 4, 5] (by decide) rfl rfl
       refine tf rfl rfl (λa hf=>fo hf rfl call18 rfl (fR _ b9 (⟨r_.b,aA.1⟩:fG) bp0 v1p (GT.mono hle h1p) 3 hm1  _ aS)) ?_
       rintro ai w ⟨rfl,hB⟩
       replace hm:=ba _ _ hB;clear hB
       refine tAn rfl (tMo ?_ ?_)
       ·exact tY rfl (yl isAgg9 ((gK (cs:=[(tV aO)]) (hm.ow_rep 5 rfl) aK rfl).cell (j:=0) rfl) rfl) (tAn rfl (kG hT4_4 λa hf=>⟨hf.sb rfl,hm.pk [0,1,2,3,4] rfl rfl⟩))
       refine tO (tf rfl rfl (λa hf=>iQ hm zeroValue54 rfl rfl) ?_)
       rintro _ w ⟨bb,rfl,hm⟩
       exact tAn rfl (tO (tY rfl (yl isAgg9 ((gK (cs:=[(tV aO)]) (hm.ow_rep 6 rfl) aK rfl).cell (j:=0) rfl) rfl) (tAn rfl (kG hT4_2 λa hf=>⟨bb,hf.sb rfl,hm.pk [1,2,3,4,5,0] rfl rfl⟩))))
      refine tO (tf rfl rfl (λa hf=>iQ hm zeroValue54 rfl rfl) ?_)
      rintro _ w ⟨bL,rfl,hm⟩
      refine tAn rfl (tMo ?_ ?_)
      ·exact tY rfl (yl isAgg9 ((gK (cs:=[(tV aO)]) (hm.ow_rep 6 rfl) aK rfl).cell (j:=0) rfl) rfl) (tAn rfl (kG hT4_3 λa hf=>⟨bL,hf.sb rfl,hm.pk [1,2,3,4,5,0] rfl rfl⟩))
      refine tO ?_
      obtain ⟨bc,hle,hm1,hsub,bd⟩:=hm.take2 (L1:=[_]) (L2:=[_,_,_,_,_,_]) [1] [0,2,3,4,5,6] (by decide) rfl rfl
      refine tf rfl rfl (λa hf=>fo hf rfl call18 rfl (fR _ bc (⟨r_.b,aA.1⟩:fG) bp0 v1p (GT.mono hle h1p) 3 hm1  _ aS)) ?_
      rintro aj w ⟨rfl,hB⟩
      replace hm:=bd _ _ hB;clear hB
      exact tAn rfl (tO (tY rfl (yl isAgg9 ((gK (cs:=[(tV aO)]) (hm.ow_rep 6 rfl) aK rfl).cell (j:=0) rfl) rfl) (tAn rfl (kG hT4_2 λa hf=>⟨bL,hf.sb rfl,hm.pk [0,2,3,4,5,1] rfl rfl⟩))))
     refine tSh (xq) (λa w=>∃ (am:Nat),St 69 [(0,(pV bp0)),(2,(pV aC)),(3,(pV aB)),(4,(nV aA.2.2.2.2.2)),(5,(pV am)),(21,(pV aB)),(25,(.pointer (some ⟨aB,1,none⟩))),(31,(nV aJ.1))] w0 hz [blk bp0 [v1p,nV aJ.2.p] 77,blk aC [.slice none 0 0] 26,blk aB [(pV bp0),.slice aF aA.2.1.length aG,aE,nV aA.2.2.2.1,nV aA.2.2.2.2.1] 83,ow [.slice aF aA.2.1.length aG] aA.2.1,opt (.slice none 0 0) ([]:List Str) aE aA.2.2.1,blk am [(tV (mkS [])),.slice none 0 0,.slice none 0 0] 54] a w) ?_ λhT4_13=>?_
     ·rintro a w ⟨am,hf,hm⟩
      refine gv hf (tMo ?_ ?_)
      ·refine tf rfl rfl (fun a hf => fL (vs := #[(0, (tV (mkS [102]))), (1, (tV (mkS [103]))), (2, (tV (mkS [104])))]) (cs := [(tV (mkS [102])), (tV (mkS [103])), (tV (mkS [104]))]) lK hf hm rfl rfl (by kernel_rfl) rfl rfl) ?_
       rintro _ w ⟨aL,rfl,hm⟩
       replace hm:=hm.lit (xs:=([(mkS [102]),(mkS [103]),(mkS [104])]:List Str)) 0 rfl rfl rfl rfl
       exact tAn rfl (kG hT4_11 λa hf=>⟨am,sV aL 0 3 3,hf.sb rfl,hm.pk [1,2,3,4,5,6,0] rfl rfl⟩)
      exact tO (tY rfl (yL hm 2 isAgg24 rfl) (tAn rfl (tP rfl (λw=>yV jW rfl) (kG hT4_6 λa hf=>⟨am,(by first | omega | (dsimp only;omega)),(by first | omega | (dsimp only;omega)),hf.sb rfl,hm.pk [0,1,2,3,4,5] rfl rfl⟩))))
     refine tSh (xo) (λa w=>∃ (an:Nat) (ao:Value),St 69 [(0,(pV bp0)),(2,(pV aC)),(3,(pV aB)),(4,(nV aA.2.2.2.2.2)),(5,(pV an)),(21,(pV aB)),(22,ao),(25,(.pointer (some ⟨aB,1,none⟩))),(30,(pV bp0))] w0 hz [blk bp0 [v1p,nV aA.1] 77,blk aC [.slice none 0 0] 26,blk aB [(pV bp0),.slice aF aA.2.1.length aG,aE,nV aA.2.2.2.1,nV aA.2.2.2.2.1] 83,ow [.slice aF aA.2.1.length aG] aA.2.1,opt (.slice none 0 0) ([]:List Str) aE aA.2.2.1,blk an [(tV (mkS [])),.slice none 0 0,.slice none 0 0] 54,ow [ao] ([(mkS [102]),(mkS [103]),(mkS [104])]:List Str)] a w) ?_ λhT4_14=>?_
     ·rintro a w ⟨an,ao,hf,hm⟩
      refine gv hf (tMo ?_ ?_)
      ·exact tY rfl (yL hm 2 isAgg24 rfl) (tAn rfl (tP rfl (λw=>yV jW rfl) (kG hT4_7 λa hf=>⟨an,ao,(by first | omega | (dsimp only;omega)),(by first | omega | (dsimp only;omega)),hf.sb rfl,hm.pk [0,1,2,3,4,5,6] rfl rfl⟩)))
      refine tO ?_
      obtain ⟨aP,hle,hm1,hsub,aQ⟩:=hm.take2 (L1:=[_]) (L2:=[_,_,_,_,_,_]) [0] [1,2,3,4,5,6] (by decide) rfl rfl
      refine tf rfl rfl (λa hf=>fo hf rfl call18 rfl (fR _ aP (⟨r_.b,aA.1⟩:fG) bp0 v1p (GT.mono hle h1p) 3 hm1  _ aS)) ?_
      rintro aZ w ⟨rfl,hB⟩
      replace hm:=aQ _ _ hB;clear hB
      exact tAn rfl (kG hT4_11 λa hf=>⟨an,ao,hf.sb rfl,hm.pk [0,1,2,3,4,5,6] rfl rfl⟩)
     refine tSh (x9) (λa w=>∃ (aq:Value),St 69 [(0,(pV bp0)),(2,(pV aC)),(3,(pV aB)),(4,(nV aA.2.2.2.2.2)),(21,(pV aB)),(22,aq),(25,(.pointer (some ⟨aB,1,none⟩))),(31,(nV aJ.1))] w0 hz [blk bp0 [v1p,nV aJ.2.p] 77,blk aC [.slice none 0 0] 26,blk aB [(pV bp0),.slice aF aA.2.1.length aG,aE,nV aA.2.2.2.1,nV aA.2.2.2.2.1] 83,ow [.slice aF aA.2.1.length aG] aA.2.1,opt (.slice none 0 0) ([]:List Str) aE aA.2.2.1,ow [aq] ([(mkS [102]),(mkS [103]),(mkS [104])]:List Str)] a w) ?_ λhT4_15=>?_
     ·rintro a w ⟨aq,hf,hm⟩
      refine gv hf (tMo ?_ ?_)
      ·exact tY rfl (yL hm 2 isAgg24 rfl) (tAn rfl (tP rfl (λw=>yV jW rfl) (kG hT4_8 λa hf=>⟨aq,(by first | omega | (dsimp only;omega)),(by first | omega | (dsimp only;omega)),hf.sb rfl,hm.pk [0,1,2,3,4,5] rfl rfl⟩)))
      refine tO (tf rfl rfl (λa hf=>iQ hm zeroValue54 rfl rfl) ?_)
      rintro _ w ⟨aL,rfl,hm⟩
      exact tAn rfl (kG hT4_11 λa hf=>⟨aL,aq,hf.sb rfl,hm.pk [1,2,3,4,5,0,6] rfl rfl⟩)
     refine tMo ?_ ?_
     ·refine tf rfl rfl (fun a hf => fL (vs := #[(0, (tV (mkS [102]))), (1, (tV (mkS [103]))), (2, (tV (mkS [104])))]) (cs := [(tV (mkS [102])), (tV (mkS [103])), (tV (mkS [104]))]) lK hf hm rfl rfl (by kernel_rfl) rfl rfl) ?_
      rintro _ w ⟨aL,rfl,hm⟩
      replace hm:=hm.lit (xs:=([(mkS [102]),(mkS [103]),(mkS [104])]:List Str)) 0 rfl rfl rfl rfl
      refine tAn rfl (tMo ?_ ?_)
      ·exact tY rfl (yL hm 3 isAgg24 rfl) (tAn rfl (tP rfl (λw=>yV jW rfl) (kG hT4_12 λa hf=>⟨sV aL 0 3 3,(by first | omega | (dsimp only;omega)),(by first | omega | (dsimp only;omega)),hf.sb rfl,hm.pk [1,2,3,4,5,0] rfl rfl⟩)))
      refine tMo ?_ ?_
      ·obtain ⟨aP, hle, hm1, hsub, aQ⟩ := hm.take2 (L1 := [_]) (L2 := [_, _, _, _, _]) [1] [0, 2, 3, 4, 5] (by decide) rfl rfl
       refine tf rfl rfl (λa hf=>fo hf rfl call18 rfl (fR _ aP (⟨r_.b,aA.1⟩:fG) bp0 v1p (GT.mono hle h1p) 3 hm1  _ aS)) ?_
       rintro aZ w ⟨rfl,hB⟩
       replace hm:=aQ _ _ hB;clear hB
       exact tAn rfl (kG hT4_15 λa hf=>⟨sV aL 0 3 3,hf.sb rfl,hm.pk [0,2,3,4,5,1] rfl rfl⟩)
      refine tO (tf rfl rfl (λa hf=>iQ hm zeroValue54 rfl rfl) ?_)
      rintro _ w ⟨aU,rfl,hm⟩
      exact tAn rfl (kG hT4_14 λa hf=>⟨aU,sV aL 0 3 3,hf.sb rfl,hm.pk [2,3,4,5,6,0,1] rfl rfl⟩)
     refine tMo ?_ ?_
     ·refine tY rfl (yL hm 2 isAgg24 rfl) (tAn rfl (tP rfl (λw=>yV jW rfl) (tMo ?_ ?_)))
      ·refine tf rfl rfl (fun a hf => fL (vs := #[(0, (tV (mkS [102]))), (1, (tV (mkS [103]))), (2, (tV (mkS [104])))]) (cs := [(tV (mkS [102])), (tV (mkS [103])), (tV (mkS [104]))]) lK hf hm rfl rfl (by kernel_rfl) rfl rfl) ?_
       rintro _ w ⟨bb,rfl,hm⟩
       replace hm:=hm.lit (xs:=([(mkS [102]),(mkS [103]),(mkS [104])]:List Str)) 0 rfl rfl rfl rfl
       exact tAn rfl (kG hT4_12 λa hf=>⟨sV bb 0 3 3,(by first | omega | (dsimp only;omega)),(by first | omega | (dsimp only;omega)),hf.sb rfl,hm.pk [1,2,3,4,5,0] rfl rfl⟩)
      refine tMo ?_ ?_
      ·obtain ⟨b9, hle, hm1, hsub, ba⟩ := hm.take2 (L1 := [_]) (L2 := [_, _, _, _]) [0] [1, 2, 3, 4] (by decide) rfl rfl
       refine tf rfl rfl (λa hf=>fo hf rfl call18 rfl (fR _ b9 (⟨r_.b,aA.1⟩:fG) bp0 v1p (GT.mono hle h1p) 3 hm1  _ aS)) ?_
       rintro ai w ⟨rfl,hB⟩
       replace hm:=ba _ _ hB;clear hB
       exact tAn rfl (kG hT4_10 λa hf=>⟨(by first | omega | (dsimp only;omega)),(by first | omega | (dsimp only;omega)),hf.sb rfl,hm.pk [0,1,2,3,4] rfl rfl⟩)
      refine tO (tf rfl rfl (λa hf=>iQ hm zeroValue54 rfl rfl) ?_)
      rintro _ w ⟨bL,rfl,hm⟩
      exact tAn rfl (kG hT4_9 λa hf=>⟨bL,(by first | omega | (dsimp only;omega)),(by first | omega | (dsimp only;omega)),hf.sb rfl,hm.pk [1,2,3,4,5,0] rfl rfl⟩)
     refine tMo ?_ ?_
     ·obtain ⟨bc, hle, hm1, hsub, bd⟩ := hm.take2 (L1 := [_]) (L2 := [_, _, _, _]) [0] [1, 2, 3, 4] (by decide) rfl rfl
      refine tf rfl rfl (λa hf=>fo hf rfl call18 rfl (fR _ bc (⟨r_.b,aA.1⟩:fG) bp0 v1p (GT.mono hle h1p) 3 hm1  _ aS)) ?_
      rintro aj w ⟨rfl,hB⟩
      replace hm:=bd _ _ hB;clear hB
      refine tAn rfl (tMo ?_ ?_)
      ·refine tf rfl rfl (fun a hf => fL (vs := #[(0, (tV (mkS [102]))), (1, (tV (mkS [103]))), (2, (tV (mkS [104])))]) (cs := [(tV (mkS [102])), (tV (mkS [103])), (tV (mkS [104]))]) lK hf hm rfl rfl (by kernel_rfl) rfl rfl) ?_
       rintro _ w ⟨cK,rfl,hm⟩
       replace hm:=hm.lit (xs:=([(mkS [102]),(mkS [103]),(mkS [104])]:List Str)) 0 rfl rfl rfl rfl
       exact tAn rfl (kG hT4_15 λa hf=>⟨sV cK 0 3 3,hf.sb rfl,hm.pk [1,2,3,4,5,0] rfl rfl⟩)
      refine tMo ?_ ?_
      ·exact tY rfl (yL hm 2 isAgg24 rfl) (tAn rfl (tP rfl (λw=>yV jW rfl) (kG hT4_10 λa hf=>⟨(by first | omega | (dsimp only;omega)),(by first | omega | (dsimp only;omega)),hf.sb rfl,hm.pk [0,1,2,3,4] rfl rfl⟩)))
      refine tO (tf rfl rfl (λa hf=>iQ hm zeroValue54 rfl rfl) ?_)
      rintro _ w ⟨cL,rfl,hm⟩
      exact tAn rfl (kG hT4_13 λa hf=>⟨cL,hf.sb rfl,hm.pk [1,2,3,4,5,0] rfl rfl⟩)
     refine tO (tf rfl rfl (λa hf=>iQ hm zeroValue54 rfl rfl) ?_)
     rintro _ w ⟨be,rfl,hm⟩
     refine tAn rfl (tMo ?_ ?_)
     ·refine tf rfl rfl (fun a hf => fL (vs := #[(0, (tV (mkS [102]))), (1, (tV (mkS [103]))), (2, (tV (mkS [104])))]) (cs := [(tV (mkS [102])), (tV (mkS [103])), (tV (mkS [104]))]) lK hf hm rfl rfl (by kernel_rfl) rfl rfl) ?_
      rintro _ w ⟨cN,rfl,hm⟩
      replace hm:=hm.lit (xs:=([(mkS [102]),(mkS [103]),(mkS [104])]:List Str)) 0 rfl rfl rfl rfl
      exact tAn rfl (kG hT4_14 λa hf=>⟨be,sV cN 0 3 3,hf.sb rfl,hm.pk [2,3,4,5,6,1,0] rfl rfl⟩)
     refine tMo ?_ ?_
     ·exact tY rfl (yL hm 3 isAgg24 rfl) (tAn rfl (tP rfl (λw=>yV jW rfl) (kG hT4_9 λa hf=>⟨be,(by first | omega | (dsimp only;omega)),(by first | omega | (dsimp only;omega)),hf.sb rfl,hm.pk [1,2,3,4,5,0] rfl rfl⟩)))
     refine tO ?_
     obtain ⟨cO,hle,hm1,hsub,cP⟩:=hm.take2 (L1:=[_]) (L2:=[_,_,_,_,_]) [1] [0,2,3,4,5] (by decide) rfl rfl
     refine tf rfl rfl (λa hf=>fo hf rfl call18 rfl (fR _ cO (⟨r_.b,aA.1⟩:fG) bp0 v1p (GT.mono hle h1p) 3 hm1  _ aS)) ?_
     rintro bE w ⟨rfl,hB⟩
     replace hm:=cP _ _ hB;clear hB
     exact tAn rfl (kG hT4_13 λa hf=>⟨be,hf.sb rfl,hm.pk [0,2,3,4,5,1] rfl rfl⟩)
    repeat clear hm
    rintro aH a w ⟨af,bU,aV,aX,hf,hm⟩
    refine gv hf (gJg (λbf a w=>∃ (bM:Value),St 69 [(0,(pV bp0)),(2,(pV aC)),(3,(pV aB)),(4,(nV aA.2.2.2.2.2))] w0 hz [blk bp0 [v1p,nV aH.1] 77,blk aC [.slice none 0 0] 26,blk aB [(pV bp0),bM,af,nV aH.2.2.1,nV aH.2.2.2.1] 83,ow [bM] bf,opt (.slice none 0 0) ([]:List Str) af aH.2.1] a w) (λbf=>?_) ?_)
    ·refine gW (.p 0 (.p 1 (.p 2 (.p 3 (.q 5 (.e 4 (.e 6 (.e 7 (.p 8 (.p 9 (.e 10 .fin .nil))) .nil) .nil) (.e 6 (.e 4 (.e 7 (.p 8 (.p 9 (.e 10 .fin .nil))) .nil) .nil) .nil))))))) [4] [0, 1, 2, 3, 8, 9] hm [0, 1, 2, 3, 4, 5] [_, _, _, _, _, _] rfl mxo (by kernel_rfl) (fun _ _ _ h => h.2) fun w hm hS => tP rfl (fun w => yM rfl) (tP rfl (fun w => yM rfl) (tP rfl (fun w => yG rfl (fI rfl rfl)) (tP rfl (fun w => yF oz rfl) (tQ rfl hS (fun w hm => yn (hm.blk_at 5 rfl) isAgg54 sizeOf54 rfl) (gb fun dk bt => tMo ?_ ?_)))))
     ·refine tY rfl (yL hm 2 isAgg24 rfl) (tAs hS (tO (tf rfl rfl (fun a hf => fL (vs := #[(0, (.agg #[(tV aH.2.2.2.2.1), aV, aX]))]) (cs := [(tV aH.2.2.2.2.1), aV, aX]) jL hf hm rfl rfl (by kernel_rfl) rfl rfl) ?_)))
      rintro _ w ⟨dl,rfl,hm⟩
      replace hm:=hm.els_nil (α:=Fn_)
      replace hm:=(nQ aH.2.2.2.2.1 hm 8 9 rfl).pk (L':=[_,_,_,_,_,_,_,_,_]) [0,1,2,3,4,5,6,7,8] rfl rfl
      replace hm:=(hm.els_cons 0 8 (by decide) rfl rfl).pk (L':=[_,_,_,_,_,_,_,_]) [0,1,2,3,4,5,6,7] rfl rfl
      replace hm:=(hm.lit_els 1 0 (by decide) rfl rfl rfl rfl).pk (L':=[_,_,_,_,_,_,_]) [1,2,3,4,5,6,7] rfl rfl
      refine tAn rfl (tO ?_)
      obtain ⟨cQ,cR⟩:=fV.1 bt
      replace hm:=(hm.both 4 0 (by decide) rfl rfl).pk (L':=[_,_,_,_,_,_]) [1,2,3,4,5,6] rfl rfl
      refine tf rfl rfl (λa hf=>hZ (xs:=aA.2.1) (ys:=([(⟨aH.2.2.2.2.1,aH.2.2.2.2.2.1,aH.2.2.2.2.2.2⟩:Fn_)]:List Fn_)) 3 jL hf hm rfl rfl rfl rfl cQ) ?_
      rintro cS w hm
      rw [cR] at hm
      refine tAn rfl (tP rfl (λw=>yG rfl (fI rfl rfl)) (tP rfl (λw=>yF oz rfl) (tO (tf0 rfl rfl (λa hf=>jw 2 hf hm rfl sizeOf24 rfl rfl rfl (fS (hm.ow_rep 3 rfl)) rfl) ?_))))
      rintro _ w hm
      exact tAn rfl (tE (gZ λa hf=>⟨cS,hf.sb rfl,hm.pk [0,1,2,3,4] rfl rfl⟩))
     refine tO (tf rfl rfl (λa hf=>fL (vs:=#[(0,(.agg #[(tV aH.2.2.2.2.1),aV,aX]))]) (cs:=[(tV aH.2.2.2.2.1),aV,aX]) jL hf hm rfl rfl (by kernel_rfl) rfl rfl) ?_)
     rintro _ w ⟨dm,rfl,hm⟩
     replace hm:=hm.els_nil (α:=Fn_)
     replace hm:=(nQ aH.2.2.2.2.1 hm 8 9 rfl).pk (L':=[_,_,_,_,_,_,_,_,_]) [0,1,2,3,4,5,6,7,8] rfl rfl
     replace hm:=(hm.els_cons 0 8 (by decide) rfl rfl).pk (L':=[_,_,_,_,_,_,_,_]) [0,1,2,3,4,5,6,7] rfl rfl
     replace hm:=(hm.lit_els 1 0 (by decide) rfl rfl rfl rfl).pk (L':=[_,_,_,_,_,_,_]) [1,2,3,4,5,6,7] rfl rfl
     refine tAn rfl (tO (tY rfl (yL hm 3 isAgg24 rfl) (tAk hm [1,2,3,4,5,6] rfl λhS=>tO ?_)))
     obtain ⟨cT,cU⟩:=fV.1 bt
     replace hm:=(hm.both 4 0 (by decide) rfl rfl).pk (L':=[_,_,_,_,_,_]) [1,2,3,4,5,6] rfl rfl
     refine tf rfl rfl (λa hf=>hZ (xs:=aA.2.1) (ys:=([(⟨aH.2.2.2.2.1,aH.2.2.2.2.2.1,aH.2.2.2.2.2.2⟩:Fn_)]:List Fn_)) 3 jL hf hm rfl rfl rfl rfl cT) ?_
     rintro cV w hm
     rw [cU] at hm
     refine tAn rfl (tP rfl (λw=>yG rfl (fI rfl rfl)) (tP rfl (λw=>yF oz rfl) (tO (tf0 rfl rfl (λa hf=>jw 2 hf hm rfl sizeOf24 rfl rfl rfl (fS (hm.ow_rep 3 rfl)) rfl) ?_))))
     rintro _ w hm
     exact tAn rfl (tE (gZ λa hf=>⟨cV,hf.sb rfl,hm.pk [0,1,2,3,4] rfl rfl⟩))
    repeat clear hm
    rintro bf a w ⟨bM,hf,hm⟩
    exact gv hf (gR (gM rfl (gB rfl (gA rfl (gE (gZe λa hf=>⟨bM,af,hf.sb rfl,hm.pk [0,1,2,3,4] rfl rfl⟩))))))
   exact gcf rfl (gXt (gHh (gLp cI cH (gZ λa hf=>⟨ae,aE,hf.sb rfl,hm.pk [0,1,2,3,4] rfl rfl⟩))))
  repeat clear hm
  rintro aI a w ⟨aw,ax,hf,hm⟩
  refine gv hf (gS (gR (gM rfl (gM rfl (gf rfl (λa hf=>fL (vs:=#[(0,(nV 0)),(1,(nV 1)),(2,(nV 2)),(3,(nV 1))]) (cs:=[nV 0,nV 1,nV 2,nV 1]) oh hf hm rfl rfl (by kernel_rfl) rfl rfl) ?_)))))
  rintro _ w ⟨cW,rfl,hm⟩
  replace hm:=hm.lit (xs:=([0,1,2,1]:List Int)) 0 rfl rfl rfl rfl
  obtain ⟨cX,hle,hm1,hsub,cY⟩:=hm.take2 (L1:=[_]) (L2:=[_,_,_,_,_]) [1] [0,2,3,4,5] (by decide) rfl rfl
  refine gCg rfl call45 (gV _ cX (⟨r_.b,aI.1⟩:fG) bp0 v1p (GT.mono hle h1p) ([0,1,2,1]:List Int) (sV cW 0 4 4) (kZ (hsub 0 _ rfl)) hm1 ) ?_
  rintro bu dp dq w ⟨rfl,hB⟩
  replace hm:=cY _ _ hB;clear hB
  obtain ⟨cZ,hle,hm1,hsub,c8⟩:=hm.take2 (L1:=[_,_]) (L2:=[_,_,_,_]) [3,0] [1,2,4,5] (by decide) rfl rfl
  refine gCg rfl call46 (my _ cZ (⟨aI.2.1,aI.2.2.1,aI.2.2.2.1,aI.2.2.2.2⟩:ft) bp0 aB aw (kZ (hsub 2 _ rfl)) ax (qC hle vo (hsub 3 _ rfl)) (⟨r_.b,bu.2.p⟩:fG) v1p (GT.mono hle h1p) (mkS [109]) bu.1 hm1 ) ?_
  rintro aD dr dt w ⟨aM,aN,du,rfl,hB⟩
  replace hm:=c8 _ _ hB;clear hB
  replace hm:=(hm.opt_comp 8 4 (by decide) rfl rfl).pk (L':=[_,_,_,_,_,_,_,_]) [0,1,2,3,5,6,7,8] rfl rfl
  refine gAl hm zeroValue54 rfl λdv w hm=>gSN hm 0 sizeOf54 (et rfl (et (fS (hm.ow_rep 3 rfl)) (et (fS (hm.ow_rep 4 rfl)) fK))) rfl λw hm=>gE (gS (gJg (λar a w=>∃ (bN:Nat) (aa:Value),St 69 [(2,(pV aC)),(7,(pV bN))] w0 hz [blk aC [.slice none 0 0] 26,blk bN [aa] 26,ow [aa] ar,blk bp0 [v1p,nV aD.2.2.p] 77] a w) (λar=>?_) ?_))
  ·refine gW (.p 1 (.p 2 (.p 3 (.q 4 (.q 6 (.e 0 (.e 5 (.e 7 af0 (.e 10 (.e 7 qB .nil) .nil)) (.e 7 ae4 (.e 10 ac2 .nil))) (.e 7 (.e 0 ae4 (.e 10 ab3 .nil)) (.e 10 (.e 0 ac2 (.e 7 ab3 .nil)) .nil)))))))) [0, 4, 5, 6, 7, 10] [1, 2, 3, 9] hm [0, 1, 2, 5, 6, 8] [_, _, _, _, _, _] rfl mxo (by kernel_rfl) (fun _ _ _ h => h.2) fun w hm hS => tP rfl (fun w => yM rfl) (tP rfl (fun w => yG rfl (fI rfl rfl)) (tP rfl (fun w => yF oz rfl) (tQ rfl hS (fun w hm => yL hm 1 isAgg24 rfl) (tQ rfl hS (fun w hm => yn (hm.blk_at 0 rfl) isAgg54 sizeOf54 rfl) (gb fun au aT => gb fun aR bO => tSh ((.e 11 .fin .nil)) (fun a w => ∃ (bP : Nat) (bQ : Value), St 69 [(2, (pV aC)), (7, (pV bP)), (57, (.agg #[bQ]))] w0 hz [blk aC [.slice none 0 0] 26, blk bP [.slice none 0 0] 26, ow [bQ] aR, blk bp0 [v1p, nV aD.2.2.p] 77] a w) ?_ fun hT2_1 => ?_)))))
   ·rintro a w ⟨bP,bQ,hf,hm⟩
    refine gv hf (tO (tf0 rfl rfl (λa hf=>j7 1 hf hm rfl sizeOf26 rfl rfl rfl (et (fS (hm.ow_rep 2 rfl)) fK) rfl rfl) ?_))
    rintro _ w hm
    exact tAn rfl (tE (gZ λa hf=>⟨bP,bQ,hf.sb rfl,hm.pk [0,1,2,3] rfl rfl⟩))
   refine tSh (qB) (λa w=>∃ (bR:Nat) (bg bh:Value),St 69 [(2,(pV aC)),(7,(pV bR)),(53,bg),(55,bh)] w0 hz [blk aC [.slice none 0 0] 26,blk bR [.slice none 0 0] 26,ow [bg] au,ow [bh] ([aD.1]:List Fn_),blk bp0 [v1p,nV aD.2.2.p] 77] a w) ?_ λhT2_2=>?_
   ·rintro a w ⟨bR,bg,bh,hf,hm⟩
    refine gv hf (tO ?_)
    obtain ⟨bi,bj⟩:=fV.1 bO
    replace hm:=(hm.both 2 3 (by decide) rfl rfl).pk (L':=[_,_,_,_]) [0,1,2,4] rfl rfl
    refine tf rfl rfl (λa hf=>hZ (xs:=au) (ys:=([aD.1]:List Fn_)) 2 jL hf hm rfl rfl rfl rfl bi) ?_
    rintro c9 w hm
    rw [bj] at hm
    refine tAn rfl ?_
    obtain ⟨ab,ac,rfl,ca⟩:=fE (hm.ow_rep 2 rfl)
    exact tP rfl (λw=>yG rfl (fY (vs:=[(0,(.slice ab aR.length ac))]) (cs:=#[.slice ab aR.length ac]) rfl rfl (by kernel_rfl))) (kG hT2_1 λa hf=>⟨bR,.slice ab aR.length ac,hf.sb rfl,hm.pk [0,1,2,3] rfl rfl⟩)
   refine tMo ?_ ?_
   ·refine tf rfl rfl (λa hf=>ko (α:=Fn_) jL hm rfl) ?_
    rintro c9 w hm
    refine tAk hm [1,2,3,6,7,9] rfl λhS=>tMo ?_ ?_
    ·obtain ⟨bi,bj⟩:=fV.1 aT
     replace hm:=(hm.both 0 8 (by decide) rfl rfl).pk (L':=[_,_,_,_,_,_,_,_,_]) [0,1,2,3,4,5,6,7,9] rfl rfl
     refine tf rfl rfl (λa hf=>hZ (xs:=([]:List Fn_)) (ys:=aI.2.1) 0 jL hf hm rfl rfl rfl rfl bi) ?_
     rintro bv w hm
     rw [bj] at hm
     refine tAk hm [1,2,3,6,7,8] rfl λhS=>tMo ?_ ?_
     ·refine tf rfl rfl (fun a hf => fL (vs := #[(0, (.agg #[(tV aD.1.name), aM, aN]))]) (cs := [(tV aD.1.name), aM, aN]) jL hf hm rfl rfl (by kernel_rfl) rfl rfl) ?_
      rintro _ w ⟨cb,rfl,hm⟩
      replace hm:=hm.els_nil (α:=Fn_)
      replace hm:=(nQ aD.1.name hm 6 7 rfl).pk (L':=[_,_,_,_,_,_,_,_,_,_]) [0,1,2,3,4,5,6,8,9,10] rfl rfl
      replace hm:=(hm.els_cons 0 6 (by decide) rfl rfl).pk (L':=[_,_,_,_,_,_,_,_,_]) [0,1,2,3,4,5,7,8,9] rfl rfl
      replace hm:=(hm.lit_els 1 0 (by decide) rfl rfl rfl rfl).pk (L':=[_,_,_,_,_,_,_,_]) [1,2,3,4,5,6,7,8] rfl rfl
      refine tAk hm [2,3,4,5,6,7] rfl λhS=>tMo ?_ ?_
      ·obtain ⟨cc,cd⟩:=fV.1 bO
       replace hm:=(hm.both 1 0 (by decide) rfl rfl).pk (L':=[_,_,_,_,_,_,_]) [1,2,3,4,5,6,7] rfl rfl
       refine tf rfl rfl (λa hf=>hZ (xs:=au) (ys:=([aD.1]:List Fn_)) 0 jL hf hm rfl rfl rfl rfl cc) ?_
       rintro dw w hm
       rw [cd] at hm
       refine tAn rfl ?_
       obtain ⟨ab,ac,rfl,ca⟩:=fE (hm.ow_rep 0 rfl)
       refine tP rfl (λw=>yG rfl (fY (vs:=[(0,(.slice ab aR.length ac))]) (cs:=#[.slice ab aR.length ac]) rfl rfl (by kernel_rfl))) (tO (tf rfl rfl (λa hf=>iQ hm zeroValue26 rfl rfl) ?_))
       rintro _ w ⟨ce,rfl,hm⟩
       exact tAk hm [2,3,4,5,6,7] rfl λhS=>kG hT2_1 λa hf=>⟨ce,.slice ab aR.length ac,hf.sb rfl,hm.pk [6,0,1,4] rfl rfl⟩
      refine tO (tf rfl rfl (λa hf=>iQ hm zeroValue26 rfl rfl) ?_)
      rintro _ w ⟨cf,rfl,hm⟩
      exact tAk hm [3,4,5,6,7,8] rfl λhS=>kG hT2_2 λa hf=>⟨cf,bv,sV cb 0 1 1,hf.sb rfl,hm.pk [7,0,2,1,5] rfl rfl⟩
     refine tO (tf rfl rfl (λa hf=>iQ hm zeroValue26 rfl rfl) ?_)
     rintro _ w ⟨cg,rfl,hm⟩
     refine tAk hm [2,3,4,7,8,9] rfl λhS=>tO (tf rfl rfl (λa hf=>fL (vs:=#[(0,(.agg #[(tV aD.1.name),aM,aN]))]) (cs:=[(tV aD.1.name),aM,aN]) jL hf hm rfl rfl (by kernel_rfl) rfl rfl) ?_)
     rintro _ w ⟨cj,rfl,hm⟩
     replace hm:=hm.els_nil (α:=Fn_)
     replace hm:=(nQ aD.1.name hm 7 8 rfl).pk (L':=[_,_,_,_,_,_,_,_,_,_,_]) [0,1,2,3,4,5,6,7,9,10,11] rfl rfl
     replace hm:=(hm.els_cons 0 7 (by decide) rfl rfl).pk (L':=[_,_,_,_,_,_,_,_,_,_]) [0,1,2,3,4,5,6,8,9,10] rfl rfl
     replace hm:=(hm.lit_els 1 0 (by decide) rfl rfl rfl rfl).pk (L':=[_,_,_,_,_,_,_,_,_]) [1,2,3,4,5,6,7,8,9] rfl rfl
     exact tAk hm [3,4,5,6,7,8] rfl λhS=>kG hT2_2 λa hf=>⟨cg,bv,sV cj 0 1 1,hf.sb rfl,hm.pk [7,1,2,0,5] rfl rfl⟩
    refine tMo ?_ ?_
    ·refine tf rfl rfl (fun a hf => fL (vs := #[(0, (.agg #[(tV aD.1.name), aM, aN]))]) (cs := [(tV aD.1.name), aM, aN]) jL hf hm rfl rfl (by kernel_rfl) rfl rfl) ?_
     rintro _ w ⟨bw,rfl,hm⟩
     replace hm:=hm.els_nil (α:=Fn_)
     replace hm:=(nQ aD.1.name hm 6 7 rfl).pk (L':=[_,_,_,_,_,_,_,_,_,_,_]) [0,1,2,3,4,5,6,8,9,10,11] rfl rfl
     replace hm:=(hm.els_cons 0 6 (by decide) rfl rfl).pk (L':=[_,_,_,_,_,_,_,_,_,_]) [0,1,2,3,4,5,7,8,9,10] rfl rfl
     replace hm:=(hm.lit_els 1 0 (by decide) rfl rfl rfl rfl).pk (L':=[_,_,_,_,_,_,_,_,_]) [1,2,3,4,5,6,7,8,9] rfl rfl
     refine tAk hm [2,3,4,5,6,8] rfl λhS=>tMo ?_ ?_
     ·obtain ⟨ck,cl⟩:=fV.1 aT
      replace hm:=(hm.both 1 7 (by decide) rfl rfl).pk (L':=[_,_,_,_,_,_,_,_]) [0,1,2,3,4,5,6,8] rfl rfl
      refine tf rfl rfl (λa hf=>hZ (xs:=([]:List Fn_)) (ys:=aI.2.1) 1 jL hf hm rfl rfl rfl rfl ck) ?_
      rintro cm w hm
      rw [cl] at hm
      refine tAk hm [2,3,4,5,6,7] rfl λhS=>tMo ?_ ?_
      ·obtain ⟨cn,co⟩:=fV.1 bO
       replace hm:=(hm.both 1 0 (by decide) rfl rfl).pk (L':=[_,_,_,_,_,_,_]) [1,2,3,4,5,6,7] rfl rfl
       refine tf rfl rfl (λa hf=>hZ (xs:=au) (ys:=([aD.1]:List Fn_)) 0 jL hf hm rfl rfl rfl rfl cn) ?_
       rintro dx w hm
       rw [co] at hm
       refine tAn rfl ?_
       obtain ⟨bk,bl,rfl,dy⟩:=fE (hm.ow_rep 0 rfl)
       refine tP rfl (λw=>yG rfl (fY (vs:=[(0,(.slice bk aR.length bl))]) (cs:=#[.slice bk aR.length bl]) rfl rfl (by kernel_rfl))) (tO (tf rfl rfl (λa hf=>iQ hm zeroValue26 rfl rfl) ?_))
       rintro _ w ⟨cq,rfl,hm⟩
       exact tAk hm [2,3,4,5,6,7] rfl λhS=>kG hT2_1 λa hf=>⟨cq,.slice bk aR.length bl,hf.sb rfl,hm.pk [6,0,1,4] rfl rfl⟩
      refine tO (tf rfl rfl (λa hf=>iQ hm zeroValue26 rfl rfl) ?_)
      rintro _ w ⟨cr,rfl,hm⟩
      exact tAk hm [3,4,5,6,7,8] rfl λhS=>kG hT2_2 λa hf=>⟨cr,cm,sV bw 0 1 1,hf.sb rfl,hm.pk [7,0,2,1,5] rfl rfl⟩
     refine tO (tf rfl rfl (λa hf=>iQ hm zeroValue26 rfl rfl) ?_)
     rintro _ w ⟨ct,rfl,hm⟩
     refine tAk hm [3,4,5,6,7,9] rfl λhS=>tO ?_
     obtain ⟨cu,cv⟩:=fV.1 aT
     replace hm:=(hm.both 2 8 (by decide) rfl rfl).pk (L':=[_,_,_,_,_,_,_,_,_]) [0,1,2,3,4,5,6,7,9] rfl rfl
     refine tf rfl rfl (λa hf=>hZ (xs:=([]:List Fn_)) (ys:=aI.2.1) 2 jL hf hm rfl rfl rfl rfl cu) ?_
     rintro cw w hm
     rw [cv] at hm
     exact tAk hm [3,4,5,6,7,8] rfl λhS=>kG hT2_2 λa hf=>⟨ct,cw,sV bw 0 1 1,hf.sb rfl,hm.pk [7,0,2,1,5] rfl rfl⟩
    refine tO (tf rfl rfl (λa hf=>iQ hm zeroValue26 rfl rfl) ?_)
    rintro _ w ⟨bz,rfl,hm⟩
    refine tAk hm [2,3,4,7,8,10] rfl λhS=>tMo ?_ ?_
    ·obtain ⟨cx,cy⟩:=fV.1 aT
     replace hm:=(hm.both 1 9 (by decide) rfl rfl).pk (L':=[_,_,_,_,_,_,_,_,_,_]) [0,1,2,3,4,5,6,7,8,10] rfl rfl
     refine tf rfl rfl (λa hf=>hZ (xs:=([]:List Fn_)) (ys:=aI.2.1) 1 jL hf hm rfl rfl rfl rfl cx) ?_
     rintro cz w hm
     rw [cy] at hm
     refine tAk hm [2,3,4,7,8,9] rfl λhS=>tO (tf rfl rfl (λa hf=>fL (vs:=#[(0,(.agg #[(tV aD.1.name),aM,aN]))]) (cs:=[(tV aD.1.name),aM,aN]) jL hf hm rfl rfl (by kernel_rfl) rfl rfl) ?_)
     rintro _ w ⟨dA,rfl,hm⟩
     replace hm:=hm.els_nil (α:=Fn_)
     replace hm:=(nQ aD.1.name hm 7 8 rfl).pk (L':=[_,_,_,_,_,_,_,_,_,_,_]) [0,1,2,3,4,5,6,7,9,10,11] rfl rfl
     replace hm:=(hm.els_cons 0 7 (by decide) rfl rfl).pk (L':=[_,_,_,_,_,_,_,_,_,_]) [0,1,2,3,4,5,6,8,9,10] rfl rfl
     replace hm:=(hm.lit_els 1 0 (by decide) rfl rfl rfl rfl).pk (L':=[_,_,_,_,_,_,_,_,_]) [1,2,3,4,5,6,7,8,9] rfl rfl
     exact tAk hm [3,4,5,6,7,8] rfl λhS=>kG hT2_2 λa hf=>⟨bz,cz,sV dA 0 1 1,hf.sb rfl,hm.pk [7,1,2,0,5] rfl rfl⟩
    refine tO (tf rfl rfl (λa hf=>fL (vs:=#[(0,(.agg #[(tV aD.1.name),aM,aN]))]) (cs:=[(tV aD.1.name),aM,aN]) jL hf hm rfl rfl (by kernel_rfl) rfl rfl) ?_)
    rintro _ w ⟨dB,rfl,hm⟩
    replace hm:=hm.els_nil (α:=Fn_)
    replace hm:=(nQ aD.1.name hm 7 8 rfl).pk (L':=[_,_,_,_,_,_,_,_,_,_,_,_]) [0,1,2,3,4,5,6,7,9,10,11,12] rfl rfl
    replace hm:=(hm.els_cons 0 7 (by decide) rfl rfl).pk (L':=[_,_,_,_,_,_,_,_,_,_,_]) [0,1,2,3,4,5,6,8,9,10,11] rfl rfl
    replace hm:=(hm.lit_els 1 0 (by decide) rfl rfl rfl rfl).pk (L':=[_,_,_,_,_,_,_,_,_,_]) [1,2,3,4,5,6,7,8,9,10] rfl rfl
    refine tAk hm [3,4,5,6,7,9] rfl λhS=>tO ?_
    obtain ⟨dC,dD⟩:=fV.1 aT
    replace hm:=(hm.both 2 8 (by decide) rfl rfl).pk (L':=[_,_,_,_,_,_,_,_,_]) [0,1,2,3,4,5,6,7,9] rfl rfl
    refine tf rfl rfl (λa hf=>hZ (xs:=([]:List Fn_)) (ys:=aI.2.1) 2 jL hf hm rfl rfl rfl rfl dC) ?_
    rintro dE w hm
    rw [dD] at hm
    exact tAk hm [3,4,5,6,7,8] rfl λhS=>kG hT2_2 λa hf=>⟨bz,dE,sV dB 0 1 1,hf.sb rfl,hm.pk [7,1,2,0,5] rfl rfl⟩
   refine tMo ?_ ?_
   ·refine tf rfl rfl (fun a hf => fL (vs := #[(0, (.agg #[(tV aD.1.name), aM, aN]))]) (cs := [(tV aD.1.name), aM, aN]) jL hf hm rfl rfl (by kernel_rfl) rfl rfl) ?_
    rintro _ w ⟨bm,rfl,hm⟩
    replace hm:=hm.els_nil (α:=Fn_)
    replace hm:=(nQ aD.1.name hm 5 6 rfl).pk (L':=[_,_,_,_,_,_,_,_,_,_]) [0,1,2,3,4,5,7,8,9,10] rfl rfl
    replace hm:=(hm.els_cons 0 5 (by decide) rfl rfl).pk (L':=[_,_,_,_,_,_,_,_,_]) [0,1,2,3,4,6,7,8,9] rfl rfl
    replace hm:=(hm.lit_els 1 0 (by decide) rfl rfl rfl rfl).pk (L':=[_,_,_,_,_,_,_,_]) [1,2,3,4,5,6,7,8] rfl rfl
    refine tAk hm [1,2,3,4,5,7] rfl λhS=>tMo ?_ ?_
    ·refine tf rfl rfl (λa hf=>ko (α:=Fn_) jL hm rfl) ?_
     rintro dz w hm
     refine tAk hm [2,3,4,5,6,8] rfl λhS=>tMo ?_ ?_
     ·obtain ⟨dF,dG⟩:=fV.1 aT
      replace hm:=(hm.both 0 7 (by decide) rfl rfl).pk (L':=[_,_,_,_,_,_,_,_]) [0,1,2,3,4,5,6,8] rfl rfl
      refine tf rfl rfl (λa hf=>hZ (xs:=([]:List Fn_)) (ys:=aI.2.1) 0 jL hf hm rfl rfl rfl rfl dF) ?_
      rintro dH w hm
      rw [dG] at hm
      refine tAk hm [2,3,4,5,6,7] rfl λhS=>tMo ?_ ?_
      ·obtain ⟨dI,dJ⟩:=fV.1 bO
       replace hm:=(hm.both 0 1 (by decide) rfl rfl).pk (L':=[_,_,_,_,_,_,_]) [0,2,3,4,5,6,7] rfl rfl
       refine tf rfl rfl (λa hf=>hZ (xs:=au) (ys:=([aD.1]:List Fn_)) 0 jL hf hm rfl rfl rfl rfl dI) ?_
       rintro eA w hm
       rw [dJ] at hm
       refine tAn rfl ?_
       obtain ⟨bo,bp,rfl,eD⟩:=fE (hm.ow_rep 0 rfl)
       refine tP rfl (λw=>yG rfl (fY (vs:=[(0,(.slice bo aR.length bp))]) (cs:=#[.slice bo aR.length bp]) rfl rfl (by kernel_rfl))) (tO (tf rfl rfl (λa hf=>iQ hm zeroValue26 rfl rfl) ?_))
       rintro _ w ⟨dK,rfl,hm⟩
       exact tAk hm [2,3,4,5,6,7] rfl λhS=>kG hT2_1 λa hf=>⟨dK,.slice bo aR.length bp,hf.sb rfl,hm.pk [6,0,1,4] rfl rfl⟩
      refine tO (tf rfl rfl (λa hf=>iQ hm zeroValue26 rfl rfl) ?_)
      rintro _ w ⟨dL,rfl,hm⟩
      exact tAk hm [3,4,5,6,7,8] rfl λhS=>kG hT2_2 λa hf=>⟨dL,dH,sV bm 0 1 1,hf.sb rfl,hm.pk [7,0,1,2,5] rfl rfl⟩
     refine tO (tf rfl rfl (λa hf=>iQ hm zeroValue26 rfl rfl) ?_)
     rintro _ w ⟨dM,rfl,hm⟩
     refine tAk hm [3,4,5,6,7,9] rfl λhS=>tO ?_
     obtain ⟨dN,dO⟩:=fV.1 aT
     replace hm:=(hm.both 1 8 (by decide) rfl rfl).pk (L':=[_,_,_,_,_,_,_,_,_]) [0,1,2,3,4,5,6,7,9] rfl rfl
     refine tf rfl rfl (λa hf=>hZ (xs:=([]:List Fn_)) (ys:=aI.2.1) 1 jL hf hm rfl rfl rfl rfl dN) ?_
     rintro dP w hm
     rw [dO] at hm
     exact tAk hm [3,4,5,6,7,8] rfl λhS=>kG hT2_2 λa hf=>⟨dM,dP,sV bm 0 1 1,hf.sb rfl,hm.pk [7,0,1,2,5] rfl rfl⟩
    refine tO (tf rfl rfl (λa hf=>iQ hm zeroValue26 rfl rfl) ?_)
    rintro _ w ⟨dQ,rfl,hm⟩
    refine tAk hm [2,3,4,5,6,8] rfl λhS=>tO (tf rfl rfl (λa hf=>ko (α:=Fn_) jL hm rfl) ?_)
    rintro eF w hm
    refine tAk hm [3,4,5,6,7,9] rfl λhS=>tO ?_
    obtain ⟨dR,dS⟩:=fV.1 aT
    replace hm:=(hm.both 0 8 (by decide) rfl rfl).pk (L':=[_,_,_,_,_,_,_,_,_]) [0,1,2,3,4,5,6,7,9] rfl rfl
    refine tf rfl rfl (λa hf=>hZ (xs:=([]:List Fn_)) (ys:=aI.2.1) 0 jL hf hm rfl rfl rfl rfl dR) ?_
    rintro dT w hm
    rw [dS] at hm
    exact tAk hm [3,4,5,6,7,8] rfl λhS=>kG hT2_2 λa hf=>⟨dQ,dT,sV bm 0 1 1,hf.sb rfl,hm.pk [7,1,0,2,5] rfl rfl⟩
   refine tO (tf rfl rfl (λa hf=>iQ hm zeroValue26 rfl rfl) ?_)
   rintro _ w ⟨bq,rfl,hm⟩
   refine tAk hm [1,2,3,6,7,9] rfl λhS=>tMo ?_ ?_
   ·refine tf rfl rfl (λa hf=>ko (α:=Fn_) jL hm rfl) ?_
    rintro eG w hm
    refine tAk hm [2,3,4,7,8,10] rfl λhS=>tMo ?_ ?_
    ·obtain ⟨dU,dV⟩:=fV.1 aT
     replace hm:=(hm.both 0 9 (by decide) rfl rfl).pk (L':=[_,_,_,_,_,_,_,_,_,_]) [0,1,2,3,4,5,6,7,8,10] rfl rfl
     refine tf rfl rfl (λa hf=>hZ (xs:=([]:List Fn_)) (ys:=aI.2.1) 0 jL hf hm rfl rfl rfl rfl dU) ?_
     rintro dW w hm
     rw [dV] at hm
     refine tAk hm [2,3,4,7,8,9] rfl λhS=>tO (tf rfl rfl (λa hf=>fL (vs:=#[(0,(.agg #[(tV aD.1.name),aM,aN]))]) (cs:=[(tV aD.1.name),aM,aN]) jL hf hm rfl rfl (by kernel_rfl) rfl rfl) ?_)
     rintro _ w ⟨dX,rfl,hm⟩
     replace hm:=hm.els_nil (α:=Fn_)
     replace hm:=(nQ aD.1.name hm 7 8 rfl).pk (L':=[_,_,_,_,_,_,_,_,_,_,_]) [0,1,2,3,4,5,6,7,9,10,11] rfl rfl
     replace hm:=(hm.els_cons 0 7 (by decide) rfl rfl).pk (L':=[_,_,_,_,_,_,_,_,_,_]) [0,1,2,3,4,5,6,8,9,10] rfl rfl
     replace hm:=(hm.lit_els 1 0 (by decide) rfl rfl rfl rfl).pk (L':=[_,_,_,_,_,_,_,_,_]) [1,2,3,4,5,6,7,8,9] rfl rfl
     exact tAk hm [3,4,5,6,7,8] rfl λhS=>kG hT2_2 λa hf=>⟨bq,dW,sV dX 0 1 1,hf.sb rfl,hm.pk [7,2,1,0,5] rfl rfl⟩
    refine tO (tf rfl rfl (λa hf=>fL (vs:=#[(0,(.agg #[(tV aD.1.name),aM,aN]))]) (cs:=[(tV aD.1.name),aM,aN]) jL hf hm rfl rfl (by kernel_rfl) rfl rfl) ?_)
    rintro _ w ⟨dY,rfl,hm⟩
    replace hm:=hm.els_nil (α:=Fn_)
    replace hm:=(nQ aD.1.name hm 7 8 rfl).pk (L':=[_,_,_,_,_,_,_,_,_,_,_,_]) [0,1,2,3,4,5,6,7,9,10,11,12] rfl rfl
    replace hm:=(hm.els_cons 0 7 (by decide) rfl rfl).pk (L':=[_,_,_,_,_,_,_,_,_,_,_]) [0,1,2,3,4,5,6,8,9,10,11] rfl rfl
    replace hm:=(hm.lit_els 1 0 (by decide) rfl rfl rfl rfl).pk (L':=[_,_,_,_,_,_,_,_,_,_]) [1,2,3,4,5,6,7,8,9,10] rfl rfl
    refine tAk hm [3,4,5,6,7,9] rfl λhS=>tO ?_
    obtain ⟨dZ,d4⟩:=fV.1 aT
    replace hm:=(hm.both 1 8 (by decide) rfl rfl).pk (L':=[_,_,_,_,_,_,_,_,_]) [0,1,2,3,4,5,6,7,9] rfl rfl
    refine tf rfl rfl (λa hf=>hZ (xs:=([]:List Fn_)) (ys:=aI.2.1) 1 jL hf hm rfl rfl rfl rfl dZ) ?_
    rintro d5 w hm
    rw [d4] at hm
    exact tAk hm [3,4,5,6,7,8] rfl λhS=>kG hT2_2 λa hf=>⟨bq,d5,sV dY 0 1 1,hf.sb rfl,hm.pk [7,2,1,0,5] rfl rfl⟩
   refine tO (tf rfl rfl (λa hf=>fL (vs:=#[(0,(.agg #[(tV aD.1.name),aM,aN]))]) (cs:=[(tV aD.1.name),aM,aN]) jL hf hm rfl rfl (by kernel_rfl) rfl rfl) ?_)
   rintro _ w ⟨d6,rfl,hm⟩
   replace hm:=hm.els_nil (α:=Fn_)
   replace hm:=(nQ aD.1.name hm 6 7 rfl).pk (L':=[_,_,_,_,_,_,_,_,_,_,_]) [0,1,2,3,4,5,6,8,9,10,11] rfl rfl
   replace hm:=(hm.els_cons 0 6 (by decide) rfl rfl).pk (L':=[_,_,_,_,_,_,_,_,_,_]) [0,1,2,3,4,5,7,8,9,10] rfl rfl
   replace hm:=(hm.lit_els 1 0 (by decide) rfl rfl rfl rfl).pk (L':=[_,_,_,_,_,_,_,_,_]) [1,2,3,4,5,6,7,8,9] rfl rfl
   refine tAk hm [2,3,4,5,6,8] rfl λhS=>tO (tf rfl rfl (λa hf=>ko (α:=Fn_) jL hm rfl) ?_)
   rintro eH w hm
   refine tAk hm [3,4,5,6,7,9] rfl λhS=>tO ?_
   obtain ⟨d7,d8⟩:=fV.1 aT
   replace hm:=(hm.both 0 8 (by decide) rfl rfl).pk (L':=[_,_,_,_,_,_,_,_,_]) [0,1,2,3,4,5,6,7,9] rfl rfl
   refine tf rfl rfl (λa hf=>hZ (xs:=([]:List Fn_)) (ys:=aI.2.1) 0 jL hf hm rfl rfl rfl rfl d7) ?_
   rintro d9 w hm
   rw [d8] at hm
   exact tAk hm [3,4,5,6,7,8] rfl λhS=>kG hT2_2 λa hf=>⟨bq,d9,sV d6 0 1 1,hf.sb rfl,hm.pk [7,2,0,1,5] rfl rfl⟩
  repeat clear hm
  rintro ar a w ⟨bN,aa,hf,hm⟩
  refine gv hf (gS (gS (gR (gY (yn (hm.blk_at 1 rfl) isAgg26 sizeOf26 rfl) (gC hm rfl call25 (ny _ (⟨ar⟩:fZ) aa (hm.ow_rep 2 rfl)) λeI eJ w hm=>gN rfl (gE (gsn 60 rfl (λda=>?_) λda=>?_)))))))
  ·refine gct rfl (gS (gR (gY (yG rfl (fY (vs := [(0, (nV 1)), (1, (nV 1))]) (cs := #[nV 1, nV 1, (tV (mkS [])), .slice none 0 0]) rfl rfl (by kernel_rfl))) (gf rfl (fun a hf => fL (vs := #[(0, (.agg #[nV 1, nV 1, (tV (mkS [])), .slice none 0 0]))]) (cs := [nV 1, nV 1, (tV (mkS [])), .slice none 0 0]) jl hf hm rfl rfl (by kernel_rfl) rfl rfl) ?_))))
   rintro _ w ⟨av,rfl,hm⟩
   replace hm:=hm.els_nil (α:=ey)
   replace hm:=hm.nilow (α:=ey)
   replace hm:Mem w0 hz _ [ow [nV 1,nV 1,(tV (mkS [])),.slice none 0 0] ((⟨1,1,(mkS []),[]⟩:ey):ey),els [] ([]:List ey),blk av [nV 1,nV 1,(tV (mkS [])),.slice none 0 0] 86,blk aC [.slice none 0 0] 26,blk bN [aa] 26,ow [aa] ar,blk bp0 [v1p,nV aD.2.2.p] 77]:=lC 1 1 (mkS []) hm 0 rfl
   replace hm:=(hm.els_cons 1 0 (by decide) rfl rfl).pk (L':=[_,_,_,_,_,_]) [1,2,3,4,5,6] rfl rfl
   replace hm:=(hm.lit_els 1 0 (by decide) rfl rfl rfl rfl).pk (L':=[_,_,_,_,_]) [1,2,3,4,5] rfl rfl
   refine gY (yG rfl (fY (vs:=[(0,(nV 3)),(2,(sV av 0 1 1))]) (cs:=#[nV 3,(tV (mkS [])),sV av 0 1 1,.slice none 0 0,.slice none 0 0]) rfl rfl (by kernel_rfl))) (gf rfl (λa hf=>fL (vs:=#[(0,(.agg #[nV 3,(tV (mkS [])),sV av 0 1 1,.slice none 0 0,.slice none 0 0]))]) (cs:=[nV 3,(tV (mkS [])),sV av 0 1 1,.slice none 0 0,.slice none 0 0]) lg hf hm rfl rfl (by kernel_rfl) rfl rfl) ?_)
   rintro _ w ⟨bS,rfl,hm⟩
   replace hm:=hm.els_nil (α:=fB)
   replace hm:=hm.nilow (α:=fB)
   replace hm:=hm.nilow (α:=fB)
   replace hm:=(lO 3 (mkS []) hm 4 1 0 rfl).pk (L':=[_,_,_,_,_,_,_]) [2,3,4,5,6,7,8] rfl rfl
   replace hm:=(hm.els_cons 0 2 (by decide) rfl rfl).pk (L':=[_,_,_,_,_,_]) [0,1,3,4,5,6] rfl rfl
   replace hm:=(hm.lit_els 1 0 (by decide) rfl rfl rfl rfl).pk (L':=[_,_,_,_,_]) [1,2,3,4,5] rfl rfl
   refine gY (yG rfl (fY (vs:=[(0,(tV (mkS [109]))),(2,(sV bS 0 1 1))]) (cs:=#[(tV (mkS [109])),.slice none 0 0,sV bS 0 1 1]) rfl rfl (by kernel_rfl))) (gf rfl (λa hf=>fL (vs:=#[(0,(.agg #[(tV (mkS [109])),.slice none 0 0,sV bS 0 1 1]))]) (cs:=[(tV (mkS [109])),.slice none 0 0,sV bS 0 1 1]) jL hf hm rfl rfl (by kernel_rfl) rfl rfl) ?_)
   rintro _ w ⟨br,rfl,hm⟩
   replace hm:=hm.els_nil (α:=Fn_)
   replace hm:=hm.nilow (α:=Str)
   replace hm:=(nQ (mkS [109]) hm 0 3 rfl).pk (L':=[_,_,_,_,_,_,_]) [0,1,2,4,5,6,7] rfl rfl
   replace hm:=(hm.els_cons 1 0 (by decide) rfl rfl).pk (L':=[_,_,_,_,_,_]) [1,2,3,4,5,6] rfl rfl
   replace hm:=(hm.lit_els 1 0 (by decide) rfl rfl rfl rfl).pk (L':=[_,_,_,_,_]) [1,2,3,4,5] rfl rfl
   exact gY (yG rfl (fY (vs:=[(0,(sV br 0 1 1))]) (cs:=#[sV br 0 1 1]) rfl rfl (by kernel_rfl))) (gSN hm 1 sizeOf26 (et rfl fK) rfl λw hm=>gE (gRt (grc 1 results17 hm rfl isAgg26 sizeOf26 ⟨sV br 0 1 1,rfl,hm.pk [4,0] rfl rfl⟩)))
  exact gcf rfl (gSk (gS (gR (gY (yn (hm.blk_at 1 rfl) isAgg26 sizeOf26 rfl) (gSN hm 0 sizeOf26 (et (fS (hm.ow_rep 2 rfl)) fK) rfl λw hm=>gE (gRt (grc 0 results17 hm rfl isAgg26 sizeOf26 ⟨aa,rfl,hm.pk [3,2] rfl rfl⟩)))))))
theorem qO (w0:World) (op:Int) :
    iF Tryz.prog 128 [nV op] w0 (mW op) λr v w'=>v=(nV r)∧Below w0.heap.size w0 w':=by
  unfold mW
  refine iR func128 rfl λr=>?_
  have hm:=Mem.start w0
  refine gS (gR (gA rfl (gE (gS (gS (gR (gM rfl (gE (gBk (gS (gR (gB rfl (gA rfl (gE (gsd 4 rfl (λaF=>?_) λaF=>?_)))))))))))))))
  ·exact gct rfl (gS (gR (gA rfl (gE (gRt (gr1 results128 rfl ⟨rfl,hm.below⟩))))))
  refine gcf rfl (gS (gS (gR (gB rfl (gA rfl (gE (gJ hm (λaA=>[(3,(nV op)),(6,(.bool (aA)))]) (λaA=>[]) (λaA=>?_) ?_)))))))
  ·refine gsd 6 rfl (λaG=>?_) λaG=>?_
   ·exact gct rfl (gSk (gz hm [] rfl))
   exact gcf rfl (gR (gB rfl (gA rfl (gE (gz hm [] rfl)))))
  repeat clear hm
  intro aA w hm
  refine gs 6 rfl (λaH=>?_) λaH=>?_
  ·exact gct rfl (gS (gR (gA rfl (gE (gRt (gr1 results128 rfl ⟨rfl,hm.below⟩))))))
  refine gcf rfl (gS (gS (gR (gB rfl (gA rfl (gE (gJ hm (λaB=>[(3,(nV op)),(9,(.bool (aB)))]) (λaB=>[]) (λaB=>?_) ?_)))))))
  ·refine gsd 9 rfl (λaI=>?_) λaI=>?_
   ·exact gct rfl (gSk (gz hm [] rfl))
   exact gcf rfl (gR (gB rfl (gA rfl (gE (gz hm [] rfl)))))
  repeat clear hm
  intro aB w hm
  refine gs 9 rfl (λaJ=>?_) λaJ=>?_
  ·exact gct rfl (gS (gR (gA rfl (gE (gRt (gr1 results128 rfl ⟨rfl,hm.below⟩))))))
  refine gcf rfl (gS (gS (gR (gB rfl (gA rfl (gE (gJ hm (λaC=>[(3,(nV op)),(12,(.bool (aC)))]) (λaC=>[]) (λaC=>?_) ?_)))))))
  ·refine gsd 12 rfl (λaK=>?_) λaK=>?_
   ·exact gct rfl (gSk (gz hm [] rfl))
   refine gcf rfl (gS (gR (gB rfl (gA rfl (gE (gJ hm (λaD=>[(3,(nV op)),(12,(.bool (aD)))]) (λaD=>[]) (λaD=>?_) ?_))))))
   ·refine gsd 12 rfl (λaL=>?_) λaL=>?_
    ·exact gct rfl (gSk (gz hm [] rfl))
    exact gcf rfl (gR (gB rfl (gA rfl (gE (gz hm [] rfl)))))
   repeat clear hm
   intro aD w hm
   exact gz hm [] rfl
  repeat clear hm
  intro aC w hm
  refine gs 12 rfl (λaM=>?_) λaM=>?_
  ·exact gct rfl (gS (gR (gA rfl (gE (gRt (gr1 results128 rfl ⟨rfl,hm.below⟩))))))
  refine gcf rfl (gS (gS (gR (gB rfl (gA rfl (gE (gJ hm (λaE=>[(16,(.bool (aE)))]) (λaE=>[]) (λaE=>?_) ?_)))))))
  ·refine gsd 16 rfl (λaN=>?_) λaN=>?_
   ·exact gct rfl (gSk (gz hm [] rfl))
   exact gcf rfl (gR (gB rfl (gA rfl (gE (gz hm [] rfl)))))
  repeat clear hm
  intro aE w hm
  refine gs 16 rfl (λaO=>?_) λaO=>?_
  ·exact gct rfl (gS (gR (gA rfl (gE (gRt (gr1 results128 rfl ⟨rfl,hm.below⟩))))))
  exact gcf rfl (gSk (gS (gR (gA rfl (gE (gRt (gr1 results128 rfl ⟨rfl,hm.below⟩)))))))
theorem uv  : ∀ (n_:Int) (r:Str),lX n_=some r→∀ (w0:World) , Con Tryz.prog 84 [nV n_] w0 (λv w'=>v=(tV r)∧Below w0.heap.size w0 w'):=by
  refine lX.partial_correctness  (motive:=λn_ r=>∀ (w0:World) , Con Tryz.prog 84 [nV n_] w0 (λv w'=>v=(tV r)∧Below w0.heap.size w0 w')) ?_
  intro rec_ ih_ n_ r hq w0
  have spec_l30Dec_rec:∀ (w0:World) (n_:Int) (r:Str) (hq:rec_ n_=some r),Con Tryz.prog 84 [nV n_] w0 (λv w'=>v=(tV r)∧Below w0.heap.size w0 w'):=λw0 n_ r hq=>ih_ n_ r hq w0
  refine kI (ρ:=Str) (R:=λr v w'=>v=(tV r)∧Below w0.heap.size w0 w') func84 rfl hq ?_
  have hm:=Mem.start w0
  refine gS (gR (gA rfl (gE (gS (gS (gR (gM rfl (gB rfl (gE (gsd 5 rfl (λaC=>?_) λaC=>?_))))))))))
  ·exact gct rfl (gS (gR (gA rfl (gE (gRt (gr1 results84 rfl ⟨rfl,hm.below⟩))))))
  refine gcf rfl (gSk (gS (gS (gR (gM rfl (gB rfl (gE (gsd 7 rfl (λaD=>?_) λaD=>?_))))))))
  ·refine gct rfl (gS (gR (gM rfl (gY (yG rfl (bb0 rfl rfl)) (gC hm rfl call84 (spec_l30Dec_rec _ (w64 (0 - n_))) λaE aR w hm=>gb λaF aG=>?_)))))
   have aH:=fX.1 aG
   exact gY (yG rfl (gj (p:=(mkS [45])) (q:=aE) (u:=aF) rfl rfl rfl aH)) (gA rfl (gE (gRt (gr1 results84 rfl ⟨rfl,hm.below⟩))))
  refine gcf rfl (gSk (gS (gR (gA rfl (gE (gS (gJg (λaA a w=>aA.1≤9∧St 31 [(0,(nV aA.1)),(3,(tV aA.2))] w0 (hp w0) [] a w) (λaA=>?_) ?_)))))))
  ·refine gBk (gMf hm (λaB=>[(0,(nV aB.1)),(3,(tV aB.2))]) (λaB=>[]) [] rfl ?_)
   repeat clear hm
   intro aS aI aB w hm aT aJ
   refine gS (gS (gR (gM rfl (gB rfl (gE (gsd 13 rfl (λaK=>?_) λaK=>?_))))))
   ·refine gct rfl (gSk (gBk (gS (gR (gM rfl (gY (yG rfl (u9 rfl rfl rfl (by decide))) (gB rfl (gY (yG rfl (ab4 underlying3 underlying5 rfl rfl)) (gf rfl (fun a hf => fL (vs := #[(0, (.int .u8 (((mY (w64 (48 + (aB.1.tmod 10))))).toNat : Int)))]) (cs := [(.int .u8 (((mY (w64 (48 + (aB.1.tmod 10))))).toNat : Int))]) bb6 hf hm rfl rfl (by kernel_rfl) rfl rfl) ?_)))))))))
    rintro _ w ⟨aU,rfl,hm⟩
    replace hm:=hm.lit (xs:=([(mY (w64 (48+(aB.1.tmod 10))))]:List UInt8)) 0 rfl rfl rfl rfl
    refine gY (yG rfl (wX (xs:=([(mY (w64 (48+(aB.1.tmod 10))))]:List UInt8)) underlying22 underlying5 underlying9 rfl rfl (hm.ow_rep 0 rfl))) (gM rfl (gb λaL aM=>?_))
    have aN:=fX.1 aM
    exact gY (yG rfl (gj (p:=(uh ([(mY (w64 (48+(aB.1.tmod 10))))]:List UInt8))) (q:=aB.2) (u:=aL) rfl rfl rfl aN)) (gA rfl (gE (gR (gM rfl (gY (yG rfl (ae7 rfl rfl rfl (by decide))) (gA rfl (gE (gze hm [] rfl))))))))
   exact gcf rfl (gXt (gHh (gLp aJ aI (gZ λa hf=>⟨(by first | omega | (dsimp only;omega)),hf.sb rfl,hm.pk [] rfl rfl⟩))))
  repeat clear hm
  rintro aA a w ⟨aV,hf,hm⟩
  refine gv hf (gS (gR (gM rfl (gB rfl (gY (yG rfl (ab4 underlying3 underlying5 rfl rfl)) (gf rfl (λa hf=>fL (vs:=#[(0,(.int .u8 (((mY (w64 (48+aA.1)))).toNat:Int)))]) (cs:=[(.int .u8 (((mY (w64 (48+aA.1)))).toNat:Int))]) bb6 hf hm rfl rfl (by kernel_rfl) rfl rfl) ?_))))))
  rintro _ w ⟨aX,rfl,hm⟩
  replace hm:=hm.lit (xs:=([(mY (w64 (48+aA.1)))]:List UInt8)) 0 rfl rfl rfl rfl
  refine gY (yG rfl (wX (xs:=([(mY (w64 (48+aA.1)))]:List UInt8)) underlying22 underlying5 underlying9 rfl rfl (hm.ow_rep 0 rfl))) (gM rfl (gb λaO aP=>?_))
  have aQ:=fX.1 aP
  exact gY (yG rfl (gj (p:=(uh ([(mY (w64 (48+aA.1)))]:List UInt8))) (q:=aA.2) (u:=aO) rfl rfl rfl aQ)) (gA rfl (gE (gRt (gr1 results84 rfl ⟨rfl,hm.below⟩))))
theorem qk (w0:World) (n_:Int) (r:Str) (hq:lX n_=some r):Con Tryz.prog 84 [nV n_] w0 (λv w'=>v=(tV r)∧Below w0.heap.size w0 w'):=uv n_ r hq w0
theorem nR (w0:World) (op:Int) :
    iF Tryz.prog 129 [nV op] w0 (iw op) λr v w'=>v=(tV r)∧Below w0.heap.size w0 w':=by
  unfold iw
  refine iR func129 rfl λr=>?_
  have hm:=Mem.start w0
  refine gS (gR (gA rfl (gE (gS (gS (gR (gM rfl (gC hm rfl call66 (lD _ op 3 12) λaE aF w hm=>gN rfl (gE (gsn 6 rfl (λaA=>?_) λaA=>?_))))))))))
  ·exact gct rfl (gS (gR (gA rfl (gE (gRt (gr1 results129 rfl ⟨rfl,hm.below⟩))))))
  refine gcf rfl (gSk (gS (gR (gM rfl (gB rfl (gA rfl (gE (gS (gR (gM rfl (gM rfl (gB rfl (gb λaG aB=>?_)))))))))))))
  obtain ⟨aC,aD⟩:=ky.1 aB
  refine gY (yG rfl (vu (s:=(mkS [43,45,42,47,37,60,61,38,33,64])) underlying9 rfl rfl rfl rfl aC _)) ?_
  rw [aD]
  exact gA rfl (gE (gRt (gr1 results129 rfl ⟨rfl,hm.below⟩)))
theorem uf  : ∀ (e:ey) (need:Int) (r:Str),j4 e need=some r→∀ (w0:World) (v1:Value) (h1:GT.rep (hp w0) [v1] e.kids),Con Tryz.prog 109 [(.agg #[nV e.op,nV e.n_,(tV e.name),v1]),nV need] w0 (λv w'=>v=(tV r)∧Below w0.heap.size w0 w'):=by
  refine j4.partial_correctness  (motive:=λe need r=>∀ (w0:World) (v1:Value) (h1:GT.rep (hp w0) [v1] e.kids),Con Tryz.prog 109 [(.agg #[nV e.op,nV e.n_,(tV e.name),v1]),nV need] w0 (λv w'=>v=(tV r)∧Below w0.heap.size w0 w')) ?_
  intro rec_ ih_ e need r hq w0 v1 h1
  have spec_l2Text_rec:∀ (w0:World) (e:ey) (v1:Value) (h1:GT.rep (hp w0) [v1] e.kids) (need:Int) (r:Str) (hq:rec_ e need=some r),Con Tryz.prog 109 [(.agg #[nV e.op,nV e.n_,(tV e.name),v1]),nV need] w0 (λv w'=>v=(tV r)∧Below w0.heap.size w0 w'):=λw0 e v1 h1 need r hq=>ih_ e need r hq w0 v1 h1
  refine kI (ρ:=Str) (R:=λr v w'=>v=(tV r)∧Below w0.heap.size w0 w') func109 rfl hq ?_
  have hm:=Mem.start w0
  refine gS (gR (gBx hm rfl λaB w hm=>gA rfl (gE (gS (gR (gF ik rfl (gL hm 0 isAgg3 rfl (gC hm rfl call128 (qO _ e.op) λaA bt w hm=>gA rfl (gE (gS (gR (gA rfl (gE (gS (gJ hm (λaC=>[(1,(nV need)),(5,(nV aA)),(6,(tV aC))]) (λaC=>[]) (λaC=>?_) ?_)))))))))))))))
  ·refine gBk (gS (gR (gF ik rfl (gL hm 0 isAgg3 rfl (gB rfl (gA rfl (gE (gJ hm (λaE=>[(1,(nV need)),(5,(nV aA)),(6,(tV aE))]) (λaE=>[]) (λaE=>?_) ?_))))))))
   ·refine gsd 31 rfl (λaU=>?_) λaU=>?_
    ·exact gct rfl (gR (gF mC rfl (gL hm 0 isAgg3 rfl (gC hm rfl call84 (qk _ e.n_) λbu bv w hm=>gA rfl (gE (gz hm [] rfl))))))
    refine gcf rfl (gS (gR (gF ik rfl (gL hm 0 isAgg3 rfl (gB rfl (gA rfl (gE (gJ hm (λaF=>[(1,(nV need)),(5,(nV aA)),(6,(tV aF))]) (λaF=>[]) (λaF=>?_) ?_))))))))
    ·refine gsd 38 rfl (λaV=>?_) λaV=>?_
     ·exact gct rfl (gR (gF mB rfl (gL hm 0 isAgg9 rfl (gA rfl (gE (gz hm [] rfl))))))
     refine gcf rfl (gS (gR (gF ik rfl (gL hm 0 isAgg3 rfl (gB rfl (gA rfl (gE (gJ hm (λaG=>[(1,(nV need)),(5,(nV aA)),(6,(tV aG))]) (λaG=>[]) (λaG=>?_) ?_))))))))
     ·refine gsd 44 rfl (λaX=>?_) λaX=>?_
      ·refine gct rfl (gS (gR (gF mB rfl (gL hm 0 isAgg9 rfl (gb λaY aZ=>?_)))))
       have a8:=fX.1 aZ
       refine gY (yG rfl (gj (p:=e.name) (q:=(mkS [32,40])) (u:=aY) rfl rfl rfl a8)) (gA rfl (gE (gS (gS (gR (gA rfl (gE (gBk (gNf hm (λaH aI=>[(1,(nV need)),(2,(pV aB)),(5,(nV aA)),(6,(tV aI)),(7,(nV aH))]) (λaH aI=>[blk aB [nV e.op,nV e.n_,(tV e.name),v1] 86]) [0] rfl ?_ ?_)))))))))
       ·repeat clear hm
        intro _ _ aH aI w hm bw bz cA _
        refine gS (gS (gR (gM rfl (gF iT rfl (gL hm 0 isAgg69 rfl ?_)))))
        obtain ⟨aa,ab,rfl,cC⟩:=fE h1
        refine gY (yV iu rfl) (gB rfl (gE (go _ 55 rfl (decide_eq_true (by omega)) (gct rfl (gSk (gS (gBk (gS (gS (gR (gM rfl (gB rfl (gE (gJ hm (λaD=>[(1,(nV need)),(2,(pV aB)),(5,(nV aA)),(6,(tV aD)),(7,(nV aH))]) (λaD=>[blk aB [nV e.op,nV e.n_,(tV e.name),.slice aa e.kids.length ab] 86]) (λaD=>?_) ?_))))))))))))))
        ·refine gsd 59 rfl (λac=>?_) λac=>?_
         ·refine gct rfl (gR (gM rfl (gb λae af=>?_)))
          have ag:=fX.1 af
          exact gY (yG rfl (gj (p:=aI) (q:=(mkS [32,44])) (u:=ae) rfl rfl rfl ag)) (gA rfl (gE (gz hm [0] rfl)))
         exact gcf rfl (gSk (gz hm [0] rfl))
        repeat clear hm
        intro aD w hm
        refine gR (gM rfl (gb λaN ah=>?_))
        have ai:=fX.1 ah
        refine gY (yG rfl (gj (p:=aD) (q:=(mkS [32])) (u:=aN) rfl rfl rfl ai)) (gF iT rfl (gL hm 0 isAgg69 rfl (gM rfl (gg λaj ak aK=>?_))))
        obtain ⟨cD,cE,cF,he⟩:=fp h1 aK
        obtain ⟨rfl,_,rfl⟩:=sl3 he
        obtain ⟨al,am,an⟩:=jE h1 aK
        refine gI iu ak (ff aK) rfl (gY (yn (am.mono hm.lez) isAgg86 sizeOf86 rfl) (gC hm rfl call109 (spec_l2Text_rec _ aj al (hm.now an) 1) λao cG w hm=>gb λaq ar=>?_))
        have au:=fX.1 ar
        exact gY (yG rfl (gj (p:=aN) (q:=ao) (u:=aq) rfl rfl rfl au)) (gA rfl (gE (gR (gM rfl (gP (by omega) (by omega) rfl (gA rfl (gE (gze hm [0] rfl))))))))
       repeat clear hm
       intro cH av w hm cI cJ
       refine gS (gS (gR (gM rfl (gF iT rfl (gL hm 0 isAgg69 rfl ?_)))))
       obtain ⟨cK,cL,rfl,cN⟩:=fE h1
       refine gY (yV iu rfl) (gB rfl (gE (go _ 55 rfl (decide_eq_false (by omega)) (gcf rfl (gXt (gHh (gR (gM rfl (gb λaw ax=>?_)))))))))
       have ay:=fX.1 ax
       exact gY (yG rfl (gj (p:=av) (q:=(mkS [32,41])) (u:=aw) rfl rfl rfl ay)) (gA rfl (gE (gz hm [] rfl)))
      refine gcf rfl (gS (gR (gM rfl (gB rfl (gA rfl (gE (gJ hm (λaJ=>[(1,(nV need)),(5,(nV aA)),(6,(tV aJ))]) (λaJ=>[]) (λaJ=>?_) ?_)))))))
      ·refine gsd 73 rfl (λaz=>?_) λaz=>?_
       ·refine gct rfl (gW (.p 0 (.p 4 (.q 1 (.q 5 (.p 6 (.q 7 (.e 2 (.p 3 (.e 8 (.p 9 (.p 10 .fin)) .nil)) .nil))))))) [1, 2, 5, 7] [0, 3, 4, 6, 9, 10] hm [0] [blk aB [nV e.op, nV e.n_, (tV e.name), v1] 86] rfl mxo (by kernel_rfl) (fun _ _ _ h => h.2) fun w hm hS => tP rfl (fun w => yF ik rfl) (tP rfl (fun w => yF iT rfl) (tQ rfl hS (fun w hm => yL hm 0 isAgg3 rfl) (tQ rfl hS (fun w hm => yL hm 0 isAgg69 rfl) (gg fun bA bB aL => ?_)))))
        obtain ⟨cO,cP,cQ,he⟩:=fp h1 aL
        subst he
        obtain ⟨bC,bD,bE⟩:=jE h1 aL
        refine tP rfl (λw=>yI iu bB (ff aL) rfl) (tQ rfl hS (λw hm=>yn (bD.mono hm.lez) isAgg86 sizeOf86 rfl) (tO (gb λbF bG=>tf rfl rfl (λa hf=>fo hf rfl call129 rfl (nR _ e.op _ bG)) ?_)))
        rintro cR w ⟨rfl,hB⟩
        replace hm:=hm.below' hB;clear hB
        refine tAk hm [0] rfl λhS=>gb λaO bH=>?_
        have bJ:=fX.1 bH
        refine tP rfl (λw=>yG rfl (gj (p:=bF) (q:=(mkS [32])) (u:=aO) rfl rfl rfl bJ)) (tO (gb λbK bL=>tf rfl rfl (λa hf=>fo hf rfl call109 rfl (spec_l2Text_rec _ bA bC (hm.now bE) 5 _ bL)) ?_))
        rintro cS w ⟨rfl,hB⟩
        replace hm:=hm.below' hB;clear hB
        refine tAn rfl (gb λbM bN=>?_)
        have bO:=fX.1 bN
        exact tP rfl (λw=>yG rfl (gj (p:=aO) (q:=bK) (u:=bM) rfl rfl rfl bO)) (tP rfl (λw=>yA rfl) (tE (gz hm [] rfl)))
       refine gcf rfl (gW (.p 0 (.p 4 (.p 7 (.p 12 (.p 16 (.p 17 (.q 1 (.p 2 (.q 3 (.q 8 (.q 13 (.p 14 (.q 15 (.e 5 (.p 6 (.e 9 (.p 10 (.p 11 (.e 18 (.p 19 (.p 20 .fin)) .nil))) .nil)) .nil)))))))))))))) [1,3,5,8,9,13,15] [0,2,4,6,7,10,11,12,14,16,17,19,20] hm [0] [blk aB [nV e.op,nV e.n_,(tV e.name),v1] 86] rfl mxo (by kernel_rfl) (λ_ _ _ h=>h.2) λw hm hS=>tP rfl (λw=>yF iT rfl) (tP rfl (λw=>yM rfl) (tP rfl (λw=>yF ik rfl) (tP rfl (λw=>yF iT rfl) (tP rfl (λw=>yM rfl) (tP rfl (λw=>yB rfl) (tQ rfl hS (λw hm=>yL hm 0 isAgg69 rfl) (gg λbP bQ aM=>?_))))))))
       obtain ⟨cT,cU,cV,he⟩:=fp h1 aM
       subst he
       obtain ⟨bR,bS,bT⟩:=jE h1 aM
       refine tP rfl (λw=>yI iu bQ (ff aM) rfl) (tQ rfl hS (λw hm=>yn (bS.mono hm.lez) isAgg86 sizeOf86 rfl) (tQ rfl hS (λw hm=>yL hm 0 isAgg3 rfl) (tQ rfl hS (λw hm=>yL hm 0 isAgg69 rfl) (gg λbU bV aP=>?_))))
       obtain ⟨bW,bX,bY⟩:=jE h1 aP
       refine tP rfl (λw=>yI iu bV (ff aP) rfl) (tQ rfl hS (λw hm=>yn (bX.mono hm.lez) isAgg86 sizeOf86 rfl) (tO (gb λbZ b8=>tf rfl rfl (λa hf=>fo hf rfl call109 rfl (spec_l2Text_rec _ bP bR (hm.now bT) aA _ b8)) ?_)))
       rintro cW w ⟨rfl,hB⟩
       replace hm:=hm.below' hB;clear hB
       refine tAk hm [0] rfl λhS=>gb λaQ b9=>?_
       have ba:=fX.1 b9
       refine tP rfl (λw=>yG rfl (gj (p:=bZ) (q:=(mkS [32])) (u:=aQ) rfl rfl rfl ba)) (tO (gb λbb bc=>tf rfl rfl (λa hf=>fo hf rfl call129 rfl (nR _ e.op _ bc)) ?_))
       rintro cX w ⟨rfl,hB⟩
       replace hm:=hm.below' hB;clear hB
       refine tAk hm [0] rfl λhS=>gb λaR bd=>?_
       have be:=fX.1 bd
       refine tP rfl (λw=>yG rfl (gj (p:=aQ) (q:=bb) (u:=aR) rfl rfl rfl be)) (gb λaS bf=>?_)
       have bg:=fX.1 bf
       refine tP rfl (λw=>yG rfl (gj (p:=aR) (q:=(mkS [32])) (u:=aS) rfl rfl rfl bg)) (tO (gb λbh bi=>tf rfl rfl (λa hf=>fo hf rfl call109 rfl (spec_l2Text_rec _ bU bW (hm.now bY) (w64 (aA+1)) _ bi)) ?_))
       rintro cY w ⟨rfl,hB⟩
       replace hm:=hm.below' hB;clear hB
       refine tAn rfl (gb λbj bk=>?_)
       have bl:=fX.1 bk
       exact tP rfl (λw=>yG rfl (gj (p:=aS) (q:=bh) (u:=bj) rfl rfl rfl bl)) (tP rfl (λw=>yA rfl) (tE (gz hm [] rfl)))
      repeat clear hm
      intro aJ w hm
      exact gz hm [] rfl
     repeat clear hm
     intro aG w hm
     exact gz hm [] rfl
    repeat clear hm
    intro aF w hm
    exact gz hm [] rfl
   repeat clear hm
   intro aE w hm
   exact gz hm [] rfl
  repeat clear hm
  intro aC w hm
  refine gS (gS (gR (gM rfl (gM rfl (gB rfl (gE (gsd 88 rfl (λbm=>?_) λbm=>?_)))))))
  ·refine gct rfl (gS (gR (gM rfl (gb λaT bo=>?_))))
   have bp:=fX.1 bo
   refine gY (yG rfl (gj (p:=(mkS [40,32])) (q:=aC) (u:=aT) rfl rfl rfl bp)) (gb λbq br=>?_)
   have bs:=fX.1 br
   exact gY (yG rfl (gj (p:=aT) (q:=(mkS [32,41])) (u:=bq) rfl rfl rfl bs)) (gA rfl (gE (gRt (gr1 results109 rfl ⟨rfl,hm.below⟩))))
  exact gcf rfl (gSk (gS (gR (gM rfl (gA rfl (gE (gRt (gr1 results109 rfl ⟨rfl,hm.below⟩))))))))
theorem qg (w0:World) (e:ey) (v1:Value) (h1:GT.rep (hp w0) [v1] e.kids) (need:Int) (r:Str) (hq:j4 e need=some r):Con Tryz.prog 109 [(.agg #[nV e.op,nV e.n_,(tV e.name),v1]),nV need] w0 (λv w'=>v=(tV r)∧Below w0.heap.size w0 w'):=uf e need r hq w0 v1 h1
theorem tT  : (∀ (list:List fB) (r:Str),jS list=some r→∀ (w0:World) (v1:Value) (h1:GT.rep (hp w0) [v1] list),Con Tryz.prog 44 [v1] w0 (λv w'=>v=(tV r)∧Below w0.heap.size w0 w')) ∧
    (∀ (s_:fB) (r:Str),mE s_=some r→∀ (w0:World) (v1:Value) (h1:GT.rep (hp w0) [v1] s_.args) (v2:Value) (h2:GT.rep (hp w0) [v2] s_.body) (v3:Value) (h3:GT.rep (hp w0) [v3] s_.else_),Con Tryz.prog 81 [(.agg #[nV s_.op,(tV s_.name),v1,v2,v3])] w0 (λv w'=>v=(tV r)∧Below w0.heap.size w0 w')):=by
  refine jS.mutual_partial_correctness  (motive_1:=λlist r=>∀ (w0:World) (v1:Value) (h1:GT.rep (hp w0) [v1] list),Con Tryz.prog 44 [v1] w0 (λv w'=>v=(tV r)∧Below w0.heap.size w0 w')) (motive_2:=λs_ r=>∀ (w0:World) (v1:Value) (h1:GT.rep (hp w0) [v1] s_.args) (v2:Value) (h2:GT.rep (hp w0) [v2] s_.body) (v3:Value) (h3:GT.rep (hp w0) [v3] s_.else_),Con Tryz.prog 81 [(.agg #[nV s_.op,(tV s_.name),v1,v2,v3])] w0 (λv w'=>v=(tV r)∧Below w0.heap.size w0 w')) ?_ ?_
  · intro rec_ ih_ list r hq w0 v1 h1
    have spec_l3Line_rec:∀ (w0:World) (s_:fB) (v1:Value) (h1:GT.rep (hp w0) [v1] s_.args) (v2:Value) (h2:GT.rep (hp w0) [v2] s_.body) (v3:Value) (h3:GT.rep (hp w0) [v3] s_.else_) (r:Str) (hq:rec_ s_=some r),Con Tryz.prog 81 [(.agg #[nV s_.op,(tV s_.name),v1,v2,v3])] w0 (λv w'=>v=(tV r)∧Below w0.heap.size w0 w'):=λw0 s_ v1 h1 v2 h2 v3 h3 r hq=>ih_ s_ r hq w0 v1 h1 v2 h2 v3 h3
    refine kI (ρ:=Str) (R:=λr v w'=>v=(tV r)∧Below w0.heap.size w0 w') func44 rfl hq ?_
    have hm:=Mem.start w0
    refine gS (gR (gA rfl (gE (gS (gR (gA rfl (gE (gS (gS (gR (gA rfl (gE (gBk (gNf hm (λaF aD=>[(0,v1),(3,(tV aD)),(4,(nV aF))]) (λaF aD=>[]) [] rfl ?_ ?_))))))))))))))
    ·repeat clear hm
     intro _ _ aF aD w hm cW cX cY _
     refine gS (gS (gR (gM rfl (gM rfl ?_))))
     obtain ⟨cZ,c8,rfl,c9⟩:=fE h1
     refine gY (yV jN rfl) (gB rfl (gE (go _ 8 rfl (decide_eq_true (by omega)) (gct rfl (gSk (gS (gBk (gR (gM rfl (gb λaB aG=>?_))))))))))
     have aH:=fX.1 aG
     refine gY (yG rfl (gj (p:=aD) (q:=(mkS [32])) (u:=aB) rfl rfl rfl aH)) (gM rfl (gM rfl (gg λaI aJ aC=>?_)))
     obtain ⟨ca,cb,cc,he⟩:=fp h1 aC
     obtain ⟨rfl,_,rfl⟩:=sl3 he
     obtain ⟨ai,aj,ak,al,aK,am,an⟩:=lJ h1 aC
     refine gI jN aJ (ff aC) rfl (gY (yn (al.mono hm.lez) isAgg71 sizeOf71 rfl) (gC hm rfl call81 (spec_l3Line_rec _ aI ai (hm.now aK) aj (hm.now am) ak (hm.now an)) λaL cd w hm=>gb λao aq=>?_))
     have ar:=fX.1 aq
     exact gY (yG rfl (gj (p:=aB) (q:=aL) (u:=ao) rfl rfl rfl ar)) (gA rfl (gE (gR (gM rfl (gP (by omega) (by omega) rfl (gA rfl (gE (gze hm [] rfl))))))))
    repeat clear hm
    intro ce au w hm cf cg
    refine gS (gS (gR (gM rfl (gM rfl ?_))))
    obtain ⟨aP,av,rfl,aw⟩:=fE h1
    refine gY (yV jN rfl) (gB rfl (gE (go _ 8 rfl (decide_eq_false (by omega)) (gcf rfl (gXt (gHh (gS (gR (gM rfl (gb λaM ax=>?_))))))))))
    have aN:=fX.1 ax
    exact gY (yG rfl (gj (p:=au) (q:=(mkS [32,125])) (u:=aM) rfl rfl rfl aN)) (gA rfl (gE (gRt (gr1 results44 rfl ⟨rfl,hm.below⟩))))
  · intro rec_ ih_ s_ r hq w0 v1 h1 v2 h2 v3 h3
    have spec_l3Block_rec:∀ (w0:World) (list:List fB) (v1:Value) (h1:GT.rep (hp w0) [v1] list) (r:Str) (hq:rec_ list=some r),Con Tryz.prog 44 [v1] w0 (λv w'=>v=(tV r)∧Below w0.heap.size w0 w'):=λw0 list v1 h1 r hq=>ih_ list r hq w0 v1 h1
    refine kI (ρ:=Str) (R:=λr v w'=>v=(tV r)∧Below w0.heap.size w0 w') func81 rfl hq ?_
    have hm:=Mem.start w0
    refine gS (gR (gBx hm rfl λcj w hm=>gA rfl (gE (gS (gR (gF je rfl (gL hm 0 isAgg69 rfl (gg λaM aN aO=>?_))))))))
    obtain ⟨ck,cl,av,he⟩:=fp h1 aO
    subst he
    obtain ⟨ay,az,bA⟩:=jE h1 aO
    refine gI iu aN (ff aO) rfl (gY (yn (az.mono hm.lez) isAgg86 sizeOf86 rfl) (gC hm rfl call109 (qg _ aM ay (hm.now bA) 1) λaA cm w hm=>gA rfl (gE (gS (gS (gR (gF jY rfl (gL hm 0 isAgg3 rfl (gE (gBk (gS (gR (gB rfl (gA rfl (gE (gsd 12 rfl (λbB=>?_) λbB=>?_))))))))))))))))
    ·refine gct rfl (gS (gR (gF lL rfl (gL hm 0 isAgg9 rfl (gb λaQ bC=>?_)))))
     have bD:=fX.1 bC
     refine gY (yG rfl (gj (p:=(mkS [108,101,116,32])) (q:=s_.name) (u:=aQ) rfl rfl rfl bD)) (gb λaR bE=>?_)
     have bF:=fX.1 bE
     refine gY (yG rfl (gj (p:=aQ) (q:=(mkS [32,61,32])) (u:=aR) rfl rfl rfl bF)) (gM rfl (gb λaS bG=>?_))
     have bH:=fX.1 bG
     refine gY (yG rfl (gj (p:=aR) (q:=aA) (u:=aS) rfl rfl rfl bH)) (gb λbJ bK=>?_)
     have bL:=fX.1 bK
     exact gY (yG rfl (gj (p:=aS) (q:=(mkS [32,59])) (u:=bJ) rfl rfl rfl bL)) (gA rfl (gE (gRt (gr1 results81 rfl ⟨rfl,hm.below⟩))))
    refine gcf rfl (gS (gR (gB rfl (gA rfl (gE (gsd 21 rfl (λbM=>?_) λbM=>?_))))))
    ·refine gct rfl (gS (gR (gF lL rfl (gL hm 0 isAgg9 rfl (gb λaT bN=>?_)))))
     have bO:=fX.1 bN
     refine gY (yG rfl (gj (p:=s_.name) (q:=(mkS [32,61,32])) (u:=aT) rfl rfl rfl bO)) (gM rfl (gb λaU bP=>?_))
     have bQ:=fX.1 bP
     refine gY (yG rfl (gj (p:=aT) (q:=aA) (u:=aU) rfl rfl rfl bQ)) (gb λbR bS=>?_)
     have bT:=fX.1 bS
     exact gY (yG rfl (gj (p:=aU) (q:=(mkS [32,59])) (u:=bR) rfl rfl rfl bT)) (gA rfl (gE (gRt (gr1 results81 rfl ⟨rfl,hm.below⟩))))
    refine gcf rfl (gS (gR (gB rfl (gA rfl (gE (gsd 29 rfl (λbU=>?_) λbU=>?_))))))
    ·refine gct rfl (gS (gR (gM rfl (gb λaV bV=>?_))))
     have bW:=fX.1 bV
     refine gY (yG rfl (gj (p:=(mkS [115,97,121,32])) (q:=aA) (u:=aV) rfl rfl rfl bW)) (gb λbX bY=>?_)
     have bZ:=fX.1 bY
     exact gY (yG rfl (gj (p:=aV) (q:=(mkS [32,59])) (u:=bX) rfl rfl rfl bZ)) (gA rfl (gE (gRt (gr1 results81 rfl ⟨rfl,hm.below⟩))))
    refine gcf rfl (gS (gR (gB rfl (gA rfl (gE (gsd 34 rfl (λb8=>?_) λb8=>?_))))))
    ·refine gct rfl (gS (gR (gM rfl (gb λaX b9=>?_))))
     have ba:=fX.1 b9
     refine gY (yG rfl (gj (p:=(mkS [112,117,116,32])) (q:=aA) (u:=aX) rfl rfl rfl ba)) (gb λaY bb=>?_)
     have bc:=fX.1 bb
     refine gY (yG rfl (gj (p:=aX) (q:=(mkS [32,44,32])) (u:=aY) rfl rfl rfl bc)) (gF je rfl (gL hm 0 isAgg69 rfl (gg λbd be aZ=>?_)))
     obtain ⟨bf,bg,bh⟩:=jE h1 aZ
     refine gI iu be (ff aZ) rfl (gY (yn (bg.mono hm.lez) isAgg86 sizeOf86 rfl) (gC hm rfl call109 (qg _ bd bf (hm.now bh) 1) λbi cn w hm=>gb λa8 bj=>?_))
     have bk:=fX.1 bj
     refine gY (yG rfl (gj (p:=aY) (q:=bi) (u:=a8) rfl rfl rfl bk)) (gb λbl bm=>?_)
     have bo:=fX.1 bm
     exact gY (yG rfl (gj (p:=a8) (q:=(mkS [32,59])) (u:=bl) rfl rfl rfl bo)) (gA rfl (gE (gRt (gr1 results81 rfl ⟨rfl,hm.below⟩))))
    refine gcf rfl (gS (gR (gB rfl (gA rfl (gE (gsd 46 rfl (λbp=>?_) λbp=>?_))))))
    ·refine gct rfl (gS (gR (gM rfl (gb λaa bq=>?_))))
     have br:=fX.1 bq
     refine gY (yG rfl (gj (p:=(mkS [108,111,111,112,32])) (q:=aA) (u:=aa) rfl rfl rfl br)) (gb λab bs=>?_)
     have bt:=fX.1 bs
     refine gY (yG rfl (gj (p:=aa) (q:=(mkS [32])) (u:=ab) rfl rfl rfl bt)) (gF lB rfl (gL hm 0 isAgg52 rfl (gC hm rfl call44 (spec_l3Block_rec _ s_.body v2 (hm.now h2)) λbu co w hm=>gb λbv bw=>?_)))
     have bz:=fX.1 bw
     exact gY (yG rfl (gj (p:=ab) (q:=bu) (u:=bv) rfl rfl rfl bz)) (gA rfl (gE (gRt (gr1 results81 rfl ⟨rfl,hm.below⟩))))
    refine gcf rfl (gS (gR (gB rfl (gA rfl (gE (gsd 55 rfl (λcA=>?_) λcA=>?_))))))
    ·refine gct rfl (gS (gR (gM rfl (gb λac cC=>?_))))
     have cD:=fX.1 cC
     refine gY (yG rfl (gj (p:=(mkS [98,97,99,107,32])) (q:=aA) (u:=ac) rfl rfl rfl cD)) (gb λcE cF=>?_)
     have cG:=fX.1 cF
     exact gY (yG rfl (gj (p:=ac) (q:=(mkS [32,59])) (u:=cE) rfl rfl rfl cG)) (gA rfl (gE (gRt (gr1 results81 rfl ⟨rfl,hm.below⟩))))
    refine gcf rfl (gS (gR (gB rfl (gA rfl (gE (gsd 60 rfl (λcH=>?_) λcH=>?_))))))
    ·refine gct rfl (gS (gR (gM rfl (gb λae cI=>?_))))
     have cJ:=fX.1 cI
     refine gY (yG rfl (gj (p:=(mkS [100,111,32])) (q:=aA) (u:=ae) rfl rfl rfl cJ)) (gb λcK cL=>?_)
     have cN:=fX.1 cL
     exact gY (yG rfl (gj (p:=ae) (q:=(mkS [32,59])) (u:=cK) rfl rfl rfl cN)) (gA rfl (gE (gRt (gr1 results81 rfl ⟨rfl,hm.below⟩))))
    refine gcf rfl (gSk (gS (gR (gM rfl (gb λaf cO=>?_)))))
    have cP:=fX.1 cO
    refine gY (yG rfl (gj (p:=(mkS [105,102,32])) (q:=aA) (u:=af) rfl rfl rfl cP)) (gb λag cQ=>?_)
    have cR:=fX.1 cQ
    refine gY (yG rfl (gj (p:=af) (q:=(mkS [32])) (u:=ag) rfl rfl rfl cR)) (gF lB rfl (gL hm 0 isAgg52 rfl (gC hm rfl call44 (spec_l3Block_rec _ s_.body v2 (hm.now h2)) λcS cq w hm=>gb λah cT=>?_)))
    have cU:=fX.1 cT
    refine gY (yG rfl (gj (p:=ag) (q:=cS) (u:=ah) rfl rfl rfl cU)) (gA rfl (gE (gS (gS (gR (gF lH rfl (gL hm 0 isAgg52 rfl ?_)))))))
    obtain ⟨aP,cV,rfl,aw⟩:=fE h3
    refine gY (yV jN rfl) (gB rfl (gE (gJ hm (λaE=>[(4,(tV aE))]) (λaE=>[]) (λaE=>?_) ?_)))
    ·refine gsd 75 rfl (λaH=>?_) λaH=>?_
     ·refine gct rfl (gR (gM rfl (gb λaB aG=>?_)))
      have aJ:=fX.1 aG
      refine gY (yG rfl (gj (p:=ah) (q:=(mkS [32,101,108,115,101,32])) (u:=aB) rfl rfl rfl aJ)) (gF lH rfl (gL hm 0 isAgg52 rfl (gC hm rfl call44 (spec_l3Block_rec _ s_.else_ (.slice aP s_.else_.length cV) (hm.now h3)) λaL cr w hm=>gb λaI aC=>?_)))
      have aK:=fX.1 aC
      exact gY (yG rfl (gj (p:=aB) (q:=aL) (u:=aI) rfl rfl rfl aK)) (gA rfl (gE (gz hm [] rfl)))
     exact gcf rfl (gSk (gz hm [] rfl))
    repeat clear hm
    intro aE w hm
    exact gS (gR (gM rfl (gA rfl (gE (gRt (gr1 results81 rfl ⟨rfl,hm.below⟩))))))
theorem uu (w0:World) (list:List fB) (v1:Value) (h1:GT.rep (hp w0) [v1] list) (r:Str) (hq:jS list=some r):Con Tryz.prog 44 [v1] w0 (λv w'=>v=(tV r)∧Below w0.heap.size w0 w'):=(tT ).1 list r hq w0 v1 h1
theorem wJ (w0:World) (p_:fZ) (v1:Value) (h1:GT.rep (hp w0) [v1] p_.fns) :
    iF Tryz.prog 16 [(.agg #[v1])] w0 (nt p_) λr v w'=>v=(tV r)∧Below w0.heap.size w0 w':=by
  unfold nt
  refine iR func16 rfl λr=>?_
  have hm:=Mem.start w0
  refine gS (gR (gBx hm rfl λaA w hm=>gA rfl (gE (gS (gR (gA rfl (gE (gS (gS (gR (gA rfl (gE (gBk (gNf hm (λaB aH=>[(1,(pV aA)),(3,(tV aH)),(4,(nV aB))]) (λaB aH=>[blk aA [v1] 26]) [0] rfl ?_ ?_))))))))))))))
  ·repeat clear hm
   intro _ _ aB aH w hm bH bJ bK _
   refine gS (gS (gR (gM rfl (gF im rfl (gL hm 0 isAgg24 rfl ?_)))))
   obtain ⟨bL,aL,rfl,bM⟩:=fE h1
   refine gY (yV jW rfl) (gB rfl (gE (go _ 11 rfl (decide_eq_true (by omega)) (gct rfl (gSk (gS (gBk (gS (gR (gF im rfl (gL hm 0 isAgg24 rfl (gM rfl (gg λaC aY aM=>?_)))))))))))))
   obtain ⟨aN,aO,bN,he⟩:=fp h1 aM
   obtain ⟨rfl,_,rfl⟩:=sl3 he
   obtain ⟨aQ,aI,aZ,aE,aR⟩:=oK h1 aM
   refine gI jW aY (ff aM) rfl (gY (yn (aZ.mono hm.lez) isAgg54 sizeOf54 rfl) (gAl hm zeroValue54 rfl λaD w hm=>gSN hm 0 sizeOf54 (et rfl (et (fS aE) (et (fS aR) fK))) rfl λw hm=>gE (gS (gS (gR (gM rfl (gB rfl (gE (gJ hm (λaF=>[(1,(pV aA)),(3,(tV aF)),(4,(nV aB)),(5,(pV aD))]) (λaF=>[blk aA [sV aN aO p_.fns.length aL] 26,blk aD [(tV aC.name),aQ,aI] 54]) (λaF=>?_) ?_)))))))))
   ·refine gsd 20 rfl (λa8=>?_) λa8=>?_
    ·refine gct rfl (gR (gM rfl (gb λaa ab=>?_)))
     have ac:=fX.1 ab
     exact gY (yG rfl (gj (p:=aH) (q:=(mkS [32])) (u:=aa) rfl rfl rfl ac)) (gA rfl (gE (gz hm [1,0] rfl)))
    exact gcf rfl (gSk (gz hm [1,0] rfl))
   repeat clear hm
   intro aF w hm
   refine gS (gR (gM rfl (gb λaS ae=>?_)))
   have af:=fX.1 ae
   refine gY (yG rfl (gj (p:=aF) (q:=(mkS [102,110,32])) (u:=aS) rfl rfl rfl af)) (gF oT rfl (gL hm 1 isAgg9 rfl (gb λaT ag=>?_)))
   have ah:=fX.1 ag
   refine gY (yG rfl (gj (p:=aS) (q:=aC.name) (u:=aT) rfl rfl rfl ah)) (gb λai aj=>?_)
   have ak:=fX.1 aj
   refine gY (yG rfl (gj (p:=aT) (q:=(mkS [32,40])) (u:=ai) rfl rfl rfl ak)) (gA rfl (gE (gS (gS (gR (gA rfl (gE (gBk (gNf hm (λaJ aK=>[(1,(pV aA)),(3,(tV aK)),(4,(nV aB)),(5,(pV aD)),(6,(nV aJ))]) (λaJ aK=>[blk aA [sV aN aO p_.fns.length aL] 26,blk aD [(tV aC.name),aQ,aI] 54]) [0,1] rfl ?_ ?_)))))))))
   ·repeat clear hm
    intro _ _ aJ aK w hm bO bP bQ _
    refine gS (gS (gR (gM rfl (gF kE rfl (gL hm 1 isAgg47 rfl ?_)))))
    obtain ⟨al,am,rfl,bR⟩:=fE aE
    refine gY (yV jO rfl) (gB rfl (gE (go _ 33 rfl (decide_eq_true (by omega)) (gct rfl (gSk (gS (gBk (gS (gS (gR (gM rfl (gB rfl (gE (gJ hm (λaG=>[(1,(pV aA)),(3,(tV aG)),(4,(nV aB)),(5,(pV aD)),(6,(nV aJ))]) (λaG=>[blk aA [sV aN aO p_.fns.length aL] 26,blk aD [(tV aC.name),.slice al aC.params.length am,aI] 54]) (λaG=>?_) ?_))))))))))))))
    ·refine gsd 37 rfl (λan=>?_) λan=>?_
     ·refine gct rfl (gR (gM rfl (gb λao aq=>?_)))
      have ar:=fX.1 aq
      exact gY (yG rfl (gj (p:=aK) (q:=(mkS [32,44])) (u:=ao) rfl rfl rfl ar)) (gA rfl (gE (gz hm [0,1] rfl)))
     exact gcf rfl (gSk (gz hm [0,1] rfl))
    repeat clear hm
    intro aG w hm
    refine gR (gM rfl (gb λaU au=>?_))
    have av:=fX.1 au
    refine gY (yG rfl (gj (p:=aG) (q:=(mkS [32])) (u:=aU) rfl rfl rfl av)) (gF kE rfl (gL hm 1 isAgg47 rfl (gM rfl (gg λaV aw aP=>?_))))
    obtain ⟨bS,bT,bU,he⟩:=iS aE aP
    obtain ⟨rfl,_,rfl⟩:=sl3 he
    refine gI jO aw (ff aP) rfl (gY (yl isAgg9 ((gK (cs:=[(tV aV)]) (hm.now aE) aP rfl).cell (j:=0) rfl) rfl) (gb λax ay=>?_))
    have az:=fX.1 ay
    exact gY (yG rfl (gj (p:=aU) (q:=aV) (u:=ax) rfl rfl rfl az)) (gA rfl (gE (gR (gM rfl (gP (by omega) (by omega) rfl (gA rfl (gE (gze hm [0,1] rfl))))))))
   repeat clear hm
   intro bV bA w hm bW bX
   refine gS (gS (gR (gM rfl (gF kE rfl (gL hm 1 isAgg47 rfl ?_)))))
   obtain ⟨bY,bZ,rfl,b8⟩:=fE aE
   refine gY (yV jO rfl) (gB rfl (gE (go _ 33 rfl (decide_eq_false (by omega)) (gcf rfl (gXt (gHh (gR (gM rfl (gb λaX bB=>?_)))))))))
   have bC:=fX.1 bB
   refine gY (yG rfl (gj (p:=bA) (q:=(mkS [32,41,32])) (u:=aX) rfl rfl rfl bC)) (gF l0 rfl (gL hm 1 isAgg52 rfl (gC hm rfl call44 (uu _ aC.body aI (hm.now aR)) λbD b9 w hm=>gb λbE bF=>?_)))
   have bG:=fX.1 bF
   exact gY (yG rfl (gj (p:=aX) (q:=bD) (u:=bE) rfl rfl rfl bG)) (gA rfl (gE (gR (gM rfl (gP (by omega) (by omega) rfl (gA rfl (gE (gze hm [0] rfl))))))))
  repeat clear hm
  intro ba bb w hm bc bd
  refine gS (gS (gR (gM rfl (gF im rfl (gL hm 0 isAgg24 rfl ?_)))))
  obtain ⟨be,bf,rfl,bg⟩:=fE h1
  exact gY (yV jW rfl) (gB rfl (gE (go _ 11 rfl (decide_eq_false (by omega)) (gcf rfl (gXt (gHh (gS (gR (gM rfl (gA rfl (gE (gRt (gr1 results16 rfl ⟨rfl,hm.below⟩)))))))))))))
theorem qd (w0:World) (hz:fU) (r_:fG) (bp0:Nat) (v1p:Value) (h1p:GT.rep hz [v1p] r_.b) (hm0:Mem w0 hz w0 [blk bp0 [v1p,nV r_.p] 77]) :
    iF Tryz.prog 48 [(pV bp0)] w0 (nC r_) λr v w'=>v=(tV r.1)∧Mem w0 hz w' [blk bp0 [v1p,nV r.2.p] 77]:=by
  unfold nC
  refine iR func48 rfl λr=>?_
  have hm:=hm0
  refine gS (gR (gA rfl (gE (gS (gS (gR (gM rfl ?_)))))))
  obtain ⟨aB,hle,hm1,hsub,aC⟩:=hm.take2 (L1:=[_]) (L2:=[]) [0] [] (by decide) rfl rfl
  refine gCg rfl call18 (fR _ aB r_ bp0 v1p (GT.mono hle h1p) 5 hm1 ) ?_
  rintro aA aU aV w ⟨rfl,hB⟩
  replace hm:=aC _ _ hB;clear hB
  refine gE (gBk (gS (gR (gB rfl (gA rfl (gE (gsd 5 rfl (λaD=>?_) λaD=>?_)))))))
  ·refine gct rfl (gS (gR (gM rfl (gf rfl (fun a hf => fL (vs := #[(0, (tV (mkS [97]))), (1, (tV (mkS [98]))), (2, (tV (mkS [120]))), (3, (tV (mkS [103, 111]))), (4, (tV (mkS [97, 98, 99, 100]))), (5, (tV (mkS [122, 122])))]) (cs := [(tV (mkS [97])), (tV (mkS [98])), (tV (mkS [120])), (tV (mkS [103, 111])), (tV (mkS [97, 98, 99, 100])), (tV (mkS [122, 122]))]) lK hf hm rfl rfl (by kernel_rfl) rfl rfl) ?_))))
   rintro _ w ⟨aE,rfl,hm⟩
   replace hm:=hm.lit (xs:=([(mkS [97]),(mkS [98]),(mkS [120]),(mkS [103,111]),(mkS [97,98,99,100]),(mkS [122,122])]:List Str)) 0 rfl rfl rfl rfl
   obtain ⟨aF,hle,hm1,hsub,aG⟩:=hm.take2 (L1:=[_]) (L2:=[_]) [1] [0] (by decide) rfl rfl
   refine gCg rfl call19 (ig _ aF (⟨r_.b,aA.2.p⟩:fG) bp0 v1p (GT.mono hle h1p) ([(mkS [97]),(mkS [98]),(mkS [120]),(mkS [103,111]),(mkS [97,98,99,100]),(mkS [122,122])]:List Str) (sV aE 0 6 6) (kZ (hsub 0 _ rfl)) hm1 ) ?_
   rintro aX aY aZ w ⟨rfl,hB⟩
   replace hm:=aG _ _ hB;clear hB
   exact gA rfl (gE (gRt (gr1 results48 rfl ⟨rfl,hm.pk [0] rfl rfl⟩)))
  refine gcf rfl (gS (gR (gB rfl (gA rfl (gE (gsd 10 rfl (λaH=>?_) λaH=>?_))))))
  ·refine gct rfl (gS (gR (gM rfl (gf rfl (fun a hf => fL (vs := #[(0, (nV 0)), (1, (nV 1)), (2, (nV 7)), (3, (nV 10)), (4, (nV 99)), (5, (nV 100)), (6, (nV 255))]) (cs := [nV 0, nV 1, nV 7, nV 10, nV 99, nV 100, nV 255]) oh hf hm rfl rfl (by kernel_rfl) rfl rfl) ?_))))
   rintro _ w ⟨aI,rfl,hm⟩
   replace hm:=hm.lit (xs:=([0,1,7,10,99,100,255]:List Int)) 0 rfl rfl rfl rfl
   obtain ⟨aJ,hle,hm1,hsub,aK⟩:=hm.take2 (L1:=[_]) (L2:=[_]) [1] [0] (by decide) rfl rfl
   refine gCg rfl call45 (gV _ aJ (⟨r_.b,aA.2.p⟩:fG) bp0 v1p (GT.mono hle h1p) ([0,1,7,10,99,100,255]:List Int) (sV aI 0 7 7) (kZ (hsub 0 _ rfl)) hm1 ) ?_
   rintro aL a8 aa w ⟨rfl,hB⟩
   replace hm:=aK _ _ hB;clear hB
   exact gC hm rfl call84 (qk _ aL.1) λab ac w hm=>gA rfl (gE (gRt (gr1 results48 rfl ⟨rfl,hm.pk [0] rfl rfl⟩)))
  refine gcf rfl (gS (gR (gB rfl (gA rfl (gE (gsd 16 rfl (λaM=>?_) λaM=>?_))))))
  ·refine gct rfl (gS (gR (gM rfl (gCg rfl call85 (p5 _ ) ?_))))
   rintro aN ae aO w ⟨_,rfl,hB⟩
   replace hm:=hm.give hB;clear hB
   obtain ⟨aP,hle,hm1,hsub,aQ⟩:=hm.take2 (L1:=[_]) (L2:=[_]) [1] [0] (by decide) rfl rfl
   refine gCg rfl call19 (ig _ aP (⟨r_.b,aA.2.p⟩:fG) bp0 v1p (GT.mono hle h1p) aN aO (kZ (hsub 0 _ rfl)) hm1 ) ?_
   rintro af ag ah w ⟨rfl,hB⟩
   replace hm:=aQ _ _ hB;clear hB
   exact gA rfl (gE (gRt (gr1 results48 rfl ⟨rfl,hm.pk [0] rfl rfl⟩)))
  refine gcf rfl (gSk (gS (gR (gM rfl (gf rfl (λa hf=>fL (vs:=#[(0,(tV (mkS [40]))),(1,(tV (mkS [41]))),(2,(tV (mkS [123]))),(3,(tV (mkS [125]))),(4,(tV (mkS [59]))),(5,(tV (mkS [44]))),(6,(tV (mkS [43]))),(7,(tV (mkS [45]))),(8,(tV (mkS [42]))),(9,(tV (mkS [47]))),(10,(tV (mkS [37]))),(11,(tV (mkS [60]))),(12,(tV (mkS [61]))),(13,(tV (mkS [38]))),(14,(tV (mkS [33]))),(15,(tV (mkS [64])))]) (cs:=[(tV (mkS [40])),(tV (mkS [41])),(tV (mkS [123])),(tV (mkS [125])),(tV (mkS [59])),(tV (mkS [44])),(tV (mkS [43])),(tV (mkS [45])),(tV (mkS [42])),(tV (mkS [47])),(tV (mkS [37])),(tV (mkS [60])),(tV (mkS [61])),(tV (mkS [38])),(tV (mkS [33])),(tV (mkS [64]))]) lK hf hm rfl rfl (by kernel_rfl) rfl rfl) ?_)))))
  rintro _ w ⟨aR,rfl,hm⟩
  replace hm:=hm.lit (xs:=([(mkS [40]),(mkS [41]),(mkS [123]),(mkS [125]),(mkS [59]),(mkS [44]),(mkS [43]),(mkS [45]),(mkS [42]),(mkS [47]),(mkS [37]),(mkS [60]),(mkS [61]),(mkS [38]),(mkS [33]),(mkS [64])]:List Str)) 0 rfl rfl rfl rfl
  obtain ⟨aS,hle,hm1,hsub,aT⟩:=hm.take2 (L1:=[_]) (L2:=[_]) [1] [0] (by decide) rfl rfl
  refine gCg rfl call19 (ig _ aS (⟨r_.b,aA.2.p⟩:fG) bp0 v1p (GT.mono hle h1p) ([(mkS [40]),(mkS [41]),(mkS [123]),(mkS [125]),(mkS [59]),(mkS [44]),(mkS [43]),(mkS [45]),(mkS [42]),(mkS [47]),(mkS [37]),(mkS [60]),(mkS [61]),(mkS [38]),(mkS [33]),(mkS [64])]:List Str) (sV aR 0 16 16) (kZ (hsub 0 _ rfl)) hm1 ) ?_
  rintro ai aj ak w ⟨rfl,hB⟩
  replace hm:=aT _ _ hB;clear hB
  exact gA rfl (gE (gRt (gr1 results48 rfl ⟨rfl,hm.pk [0] rfl rfl⟩)))
theorem wv (w0:World) (hz:fU) (r_:fG) (bp0:Nat) (v1p:Value) (h1p:GT.rep hz [v1p] r_.b) (hm0:Mem w0 hz w0 [blk bp0 [v1p,nV r_.p] 77]) :
    iF Tryz.prog 47 [(pV bp0)] w0 (ob r_) λr v w'=>v=(tV r.1)∧Mem w0 hz w' [blk bp0 [v1p,nV r.2.p] 77]:=by
  unfold ob
  refine iR func47 rfl λr=>?_
  have hm:=hm0
  refine gS (gR (gA rfl (gE (gS (gS (gR (gM rfl ?_)))))))
  obtain ⟨aB,hle,hm1,hsub,aC⟩:=hm.take2 (L1:=[_]) (L2:=[]) [0] [] (by decide) rfl rfl
  refine gCg rfl call18 (fR _ aB r_ bp0 v1p (GT.mono hle h1p) 10 hm1 ) ?_
  rintro aA aJ aK w ⟨rfl,hB⟩
  replace hm:=aC _ _ hB;clear hB
  refine gB rfl (gE (gsd 5 rfl (λaD=>?_) λaD=>?_))
  ·refine gct rfl (gS (gR (gM rfl (gf rfl (fun a hf => fL (vs := #[(0, (tV (mkS [97, 98, 99, 100, 101]))), (1, (tV (mkS [50, 53, 54]))), (2, (tV (mkS [48, 49]))), (3, (tV (mkS [48, 48]))), (4, (tV (mkS [63]))), (5, (tV (mkS [65]))), (6, (tV (mkS [9]))), (7, (tV (mkS [36]))), (8, (tV (mkS [120, 95, 121]))), (9, (tV (mkS [])))]) (cs := [(tV (mkS [97, 98, 99, 100, 101])), (tV (mkS [50, 53, 54])), (tV (mkS [48, 49])), (tV (mkS [48, 48])), (tV (mkS [63])), (tV (mkS [65])), (tV (mkS [9])), (tV (mkS [36])), (tV (mkS [120, 95, 121])), (tV (mkS []))]) lK hf hm rfl rfl (by kernel_rfl) rfl rfl) ?_))))
   rintro _ w ⟨aE,rfl,hm⟩
   replace hm:=hm.lit (xs:=([(mkS [97,98,99,100,101]),(mkS [50,53,54]),(mkS [48,49]),(mkS [48,48]),(mkS [63]),(mkS [65]),(mkS [9]),(mkS [36]),(mkS [120,95,121]),(mkS [])]:List Str)) 0 rfl rfl rfl rfl
   obtain ⟨aF,hle,hm1,hsub,aG⟩:=hm.take2 (L1:=[_]) (L2:=[_]) [1] [0] (by decide) rfl rfl
   refine gCg rfl call19 (ig _ aF (⟨r_.b,aA.2.p⟩:fG) bp0 v1p (GT.mono hle h1p) ([(mkS [97,98,99,100,101]),(mkS [50,53,54]),(mkS [48,49]),(mkS [48,48]),(mkS [63]),(mkS [65]),(mkS [9]),(mkS [36]),(mkS [120,95,121]),(mkS [])]:List Str) (sV aE 0 10 10) (kZ (hsub 0 _ rfl)) hm1 ) ?_
   rintro aL aM aN w ⟨rfl,hB⟩
   replace hm:=aG _ _ hB;clear hB
   exact gA rfl (gE (gRt (gr1 results47 rfl ⟨rfl,hm.pk [0] rfl rfl⟩)))
  refine gcf rfl (gSk (gS (gR (gM rfl ?_))))
  obtain ⟨aH,hle,hm1,hsub,aI⟩:=hm.take2 (L1:=[_]) (L2:=[]) [0] [] (by decide) rfl rfl
  refine gCg rfl call48 (qd _ aH (⟨r_.b,aA.2.p⟩:fG) bp0 v1p (GT.mono hle h1p) hm1 ) ?_
  rintro aO aP aQ w ⟨rfl,hB⟩
  replace hm:=aI _ _ hB;clear hB
  exact gA rfl (gE (gRt (gr1 results47 rfl ⟨rfl,hm.pk [0] rfl rfl⟩)))
theorem qL (w0:World) (s_:Str) (n_:Int) :
    iF Tryz.prog 49 [(tV s_),nV n_] w0 (l9 s_ n_) λr v w'=>v=(tV r)∧Below w0.heap.size w0 w':=by
  unfold l9
  refine iR func49 rfl λr=>?_
  have hm:=Mem.start w0
  refine gS (gR (gA rfl (gE (gS (gR (gA rfl (gE (gS (gJ hm (λaB=>[(5,(tV aB))]) (λaB=>[]) (λaB=>?_) ?_)))))))))
  ·refine gBk (gMf hm (λaA=>[(0,(tV aA.1)),(1,(nV aA.2.1)),(5,(tV aA.2.2))]) (λaA=>[]) [] rfl ?_)
   repeat clear hm
   intro aN aD aA w hm aO aE
   refine gS (gS (gR (gM rfl (gB rfl (gE (gsd 7 rfl (λaF=>?_) λaF=>?_))))))
   ·refine gct rfl (gSk (gBk (gS (gS (gR (gM rfl (gY (yG rfl (u9 rfl rfl rfl (by decide))) (gB rfl (gE (gJ hm (fun aC => [(0, (tV aA.1)), (1, (nV aA.2.1)), (5, (tV aC))]) (fun aC => []) (fun aC => ?_) ?_))))))))))
    ·refine gsd 10 rfl (λaG=>?_) λaG=>?_
     ·refine gct rfl (gR (gM rfl (gM rfl (gb λaH aI=>?_))))
      have aJ:=fX.1 aI
      exact gY (yG rfl (gj (p:=aA.2.2) (q:=aA.1) (u:=aH) rfl rfl rfl aJ)) (gA rfl (gE (gz hm [] rfl)))
     exact gcf rfl (gSk (gz hm [] rfl))
    repeat clear hm
    intro aC w hm
    refine gS (gR (gM rfl (gM rfl (gb λaK aL=>?_))))
    have aM:=fX.1 aL
    exact gY (yG rfl (gj (p:=aA.1) (q:=aA.1) (u:=aK) rfl rfl rfl aM)) (gA rfl (gE (gR (gM rfl (gY (yG rfl (ae7 rfl rfl rfl (by decide))) (gA rfl (gE (gze hm [] rfl))))))))
   exact gcf rfl (gXt (gHh (gLp aE aD (gz hm [] rfl))))
  repeat clear hm
  intro aB w hm
  exact gS (gR (gM rfl (gA rfl (gE (gRt (gr1 results49 rfl ⟨rfl,hm.below⟩))))))
theorem w7 (w0:World) (hz:fU) (r_:fG) (bp0:Nat) (v1p:Value) (h1p:GT.rep hz [v1p] r_.b) (hm0:Mem w0 hz w0 [blk bp0 [v1p,nV r_.p] 77]) :
    iF Tryz.prog 20 [(pV bp0)] w0 (nw r_) λr v w'=>v=(tV r.1)∧Mem w0 hz w' [blk bp0 [v1p,nV r.2.p] 77]:=by
  unfold nw
  refine iR func20 rfl λr=>?_
  have hm:=hm0
  refine gS (gR (gA rfl (gE (gS (gR (gM rfl (gf rfl (λa hf=>fL (vs:=#[(0,(tV (mkS []))),(1,(tV (mkS []))),(2,(tV (mkS [32]))),(3,(tV (mkS [10,32])))]) (cs:=[(tV (mkS [])),(tV (mkS [])),(tV (mkS [32])),(tV (mkS [10,32]))]) lK hf hm rfl rfl (by kernel_rfl) rfl rfl) ?_)))))))
  rintro _ w ⟨aF,rfl,hm⟩
  replace hm:=hm.lit (xs:=([(mkS []),(mkS []),(mkS [32]),(mkS [10,32])]:List Str)) 0 rfl rfl rfl rfl
  obtain ⟨aG,hle,hm1,hsub,aH⟩:=hm.take2 (L1:=[_]) (L2:=[_]) [1] [0] (by decide) rfl rfl
  refine gCg rfl call19 (ig _ aG r_ bp0 v1p (GT.mono hle h1p) ([(mkS []),(mkS []),(mkS [32]),(mkS [10,32])]:List Str) (sV aF 0 4 4) (kZ (hsub 0 _ rfl)) hm1 ) ?_
  rintro aI bF bG w ⟨rfl,hB⟩
  replace hm:=aH _ _ hB;clear hB
  refine gA rfl (gE (gS (gR (gM rfl ?_))))
  obtain ⟨aJ,hle,hm1,hsub,aK⟩:=hm.take2 (L1:=[_]) (L2:=[_]) [0] [1] (by decide) rfl rfl
  refine gCg rfl call18 (fR _ aJ (⟨r_.b,aI.2.p⟩:fG) bp0 v1p (GT.mono hle h1p) 4 hm1 ) ?_
  rintro aD bH bJ w ⟨rfl,hB⟩
  replace hm:=aK _ _ hB;clear hB
  refine gB rfl (gA rfl (gE (gS (gS (gR (gM rfl (gf rfl (λa hf=>fL (vs:=#[(0,(nV 3)),(1,(nV 6)),(2,(nV 10)),(3,(nV 1)),(4,(nV 0)),(5,(nV 20))]) (cs:=[nV 3,nV 6,nV 10,nV 1,nV 0,nV 20]) oh hf hm rfl rfl (by kernel_rfl) rfl rfl) ?_)))))))
  rintro _ w ⟨aL,rfl,hm⟩
  replace hm:=hm.lit (xs:=([3,6,10,1,0,20]:List Int)) 0 rfl rfl rfl rfl
  obtain ⟨aM,hle,hm1,hsub,aN⟩:=hm.take2 (L1:=[_]) (L2:=[_,_]) [1] [0,2] (by decide) rfl rfl
  refine gCg rfl call45 (gV _ aM (⟨r_.b,aD.2.p⟩:fG) bp0 v1p (GT.mono hle h1p) ([3,6,10,1,0,20]:List Int) (sV aL 0 6 6) (kZ (hsub 0 _ rfl)) hm1 ) ?_
  rintro bK bL bM w ⟨rfl,hB⟩
  replace hm:=aN _ _ hB;clear hB
  refine gA rfl (gE (gJ hm (λaC=>[(0,(pV bp0)),(3,(tV aC.2))]) (λaC=>[blk bp0 [v1p,nV aC.1] 77]) (λaC=>?_) ?_))
  ·refine gBk (gMf hm (λaA=>[(0,(pV bp0)),(3,(tV aA.2.1)),(4,(.bool (decide (aD.1=0)))),(5,(nV aA.2.2))]) (λaA=>[blk bp0 [v1p,nV aA.1] 77]) [0] rfl ?_)
   repeat clear hm
   intro bN aO aA w hm bO aP
   refine gS (gS (gR (gM rfl (gB rfl (gE (gsd 16 rfl (λaQ=>?_) λaQ=>?_))))))
   ·refine gct rfl (gSk (gS (gBk (gS (gS (gR (gM rfl (gE (gJ hm (λaB=>[(0,(pV bp0)),(3,(tV aB.2)),(4,(.bool (decide (aD.1=0)))),(5,(nV aA.2.2))]) (λaB=>[blk bp0 [v1p,nV aB.1] 77]) (λaB=>?_) ?_)))))))))
    ·refine gsd 19 rfl (λaR=>?_) λaR=>?_
     ·refine gct rfl (gR (gM rfl (gM rfl ?_)))
      obtain ⟨aS,hle,hm1,hsub,aT⟩:=hm.take2 (L1:=[_]) (L2:=[]) [0] [] (by decide) rfl rfl
      refine gCg rfl call47 (wv _ aS (⟨r_.b,aA.1⟩:fG) bp0 v1p (GT.mono hle h1p) hm1 ) ?_
      rintro aU bP bQ w ⟨rfl,hB⟩
      replace hm:=aT _ _ hB;clear hB
      refine gb λaV aX=>?_
      have aY:=fX.1 aX
      exact gY (yG rfl (gj (p:=aA.2.1) (q:=aU.1) (u:=aV) rfl rfl rfl aY)) (gA rfl (gE (gz hm [0] rfl)))
     refine gcf rfl (gR (gM rfl (gM rfl ?_)))
     obtain ⟨aZ,hle,hm1,hsub,a8⟩:=hm.take2 (L1:=[_]) (L2:=[]) [0] [] (by decide) rfl rfl
     refine gCg rfl call48 (qd _ aZ (⟨r_.b,aA.1⟩:fG) bp0 v1p (GT.mono hle h1p) hm1 ) ?_
     rintro aa bR bS w ⟨rfl,hB⟩
     replace hm:=a8 _ _ hB;clear hB
     refine gb λab ac=>?_
     have ae:=fX.1 ac
     exact gY (yG rfl (gj (p:=aA.2.1) (q:=aa.1) (u:=ab) rfl rfl rfl ae)) (gA rfl (gE (gz hm [0] rfl)))
    repeat clear hm
    intro aB w hm
    refine gR (gM rfl (gM rfl (gf rfl (λa hf=>fL (vs:=#[(0,(tV (mkS [32]))),(1,(tV (mkS [32]))),(2,(tV (mkS [32]))),(3,(tV (mkS [32,32]))),(4,(tV (mkS [10]))),(5,(tV (mkS [])))]) (cs:=[(tV (mkS [32])),(tV (mkS [32])),(tV (mkS [32])),(tV (mkS [32,32])),(tV (mkS [10])),(tV (mkS []))]) lK hf hm rfl rfl (by kernel_rfl) rfl rfl) ?_)))
    rintro _ w ⟨af,rfl,hm⟩
    replace hm:=hm.lit (xs:=([(mkS [32]),(mkS [32]),(mkS [32]),(mkS [32,32]),(mkS [10]),(mkS [])]:List Str)) 0 rfl rfl rfl rfl
    obtain ⟨ag,hle,hm1,hsub,ah⟩:=hm.take2 (L1:=[_]) (L2:=[_]) [1] [0] (by decide) rfl rfl
    refine gCg rfl call19 (ig _ ag (⟨r_.b,aB.1⟩:fG) bp0 v1p (GT.mono hle h1p) ([(mkS [32]),(mkS [32]),(mkS [32]),(mkS [32,32]),(mkS [10]),(mkS [])]:List Str) (sV af 0 6 6) (kZ (hsub 0 _ rfl)) hm1 ) ?_
    rintro ai bT bU w ⟨rfl,hB⟩
    replace hm:=ah _ _ hB;clear hB
    refine gb λaj ak=>?_
    have al:=fX.1 ak
    exact gY (yG rfl (gj (p:=aB.2) (q:=ai.1) (u:=aj) rfl rfl rfl al)) (gA rfl (gE (gR (gM rfl (gB rfl (gA rfl (gE (gze hm [0] rfl))))))))
   exact gcf rfl (gXt (gHh (gLp aP aO (gz hm [0] rfl))))
  repeat clear hm
  intro aC w hm
  refine gS (gS (gR (gM rfl ?_)))
  obtain ⟨am,hle,hm1,hsub,an⟩:=hm.take2 (L1:=[_]) (L2:=[]) [0] [] (by decide) rfl rfl
  refine gCg rfl call18 (fR _ am (⟨r_.b,aC.1⟩:fG) bp0 v1p (GT.mono hle h1p) 60 hm1 ) ?_
  rintro ao bV bW w ⟨rfl,hB⟩
  replace hm:=an _ _ hB;clear hB
  refine gB rfl (gE (gsd 35 rfl (λaq=>?_) λaq=>?_))
  ·refine gct rfl (gS (gR (gM rfl (gf rfl (fun a hf => fL (vs := #[(0, (nV 600)), (1, (nV 601))]) (cs := [nV 600, nV 601]) oh hf hm rfl rfl (by kernel_rfl) rfl rfl) ?_))))
   rintro _ w ⟨ar,rfl,hm⟩
   replace hm:=hm.lit (xs:=([600,601]:List Int)) 0 rfl rfl rfl rfl
   obtain ⟨au,hle,hm1,hsub,av⟩:=hm.take2 (L1:=[_]) (L2:=[_]) [1] [0] (by decide) rfl rfl
   refine gCg rfl call45 (gV _ au (⟨r_.b,ao.2.p⟩:fG) bp0 v1p (GT.mono hle h1p) ([600,601]:List Int) (sV ar 0 2 2) (kZ (hsub 0 _ rfl)) hm1 ) ?_
   rintro aE bX bY w ⟨rfl,hB⟩
   replace hm:=av _ _ hB;clear hB
   refine gC hm rfl call49 (qL _ (mkS [59]) aE.1) λaw bZ w hm=>gM rfl (gf rfl (λa hf=>fL (vs:=#[(0,(nV 0)),(1,(nV 2399)),(2,(nV 2400)),(3,(nV 2401))]) (cs:=[nV 0,nV 2399,nV 2400,nV 2401]) oh hf hm rfl rfl (by kernel_rfl) rfl rfl) ?_)
   rintro _ w ⟨ax,rfl,hm⟩
   replace hm:=hm.lit (xs:=([0,2399,2400,2401]:List Int)) 0 rfl rfl rfl rfl
   obtain ⟨ay,hle,hm1,hsub,az⟩:=hm.take2 (L1:=[_]) (L2:=[_,_]) [1] [0,2] (by decide) rfl rfl
   refine gCg rfl call45 (gV _ ay (⟨r_.b,aE.2.p⟩:fG) bp0 v1p (GT.mono hle h1p) ([0,2399,2400,2401]:List Int) (sV ax 0 4 4) (kZ (hsub 0 _ rfl)) hm1 ) ?_
   rintro bA b8 b9 w ⟨rfl,hB⟩
   replace hm:=az _ _ hB;clear hB
   refine gC hm rfl call49 (qL _ (mkS [32]) bA.1) λbB ba w hm=>gb λbC bD=>?_
   have bE:=fX.1 bD
   exact gY (yG rfl (gj (p:=aw) (q:=bB) (u:=bC) rfl rfl rfl bE)) (gA rfl (gE (gRt (gr1 results20 rfl ⟨rfl,hm.pk [0] rfl rfl⟩))))
  exact gcf rfl (gSk (gS (gR (gM rfl (gA rfl (gE (gRt (gr1 results20 rfl ⟨rfl,hm.pk [0] rfl rfl⟩))))))))
theorem nJ (w0:World) (code:List UInt8) (v1:Value) (h1:GT.rep (hp w0) [v1] code) :
    iF Tryz.prog 6 [v1] w0 (ia code) λr v w'=>v=(tV r)∧Below w0.heap.size w0 w':=by
  unfold ia
  refine iR func6 rfl λr=>?_
  have hm:=Mem.start w0
  refine gS (gR (gA rfl (gE (gS (gR (gM rfl (gCg rfl call15 (ur _ _ hm.lez code v1 h1 ) ?_)))))))
  rintro aE az bA w ⟨aB,aC,bB,rfl,aD,aF,hB⟩
  replace hm:=Mem.giveA hm aD hB;clear hB
  refine gA rfl (gE (gS (gR (gM rfl ?_))))
  obtain ⟨aK,hle,hm1,hsub,aL⟩:=hm.take2 (L1:=[_]) (L2:=[]) [0] [] (by decide) rfl rfl
  refine gCg rfl call17 (wD _ aK aE aB aC (GT.mono hle aF) hm1 ) ?_
  rintro aG bC bD w ⟨aI,rfl,hB⟩
  replace hm:=aL _ _ hB;clear hB
  refine gC hm rfl call16 (wJ _ aG.1 aI (hm.ow_rep 1 rfl)) λaA bE w hm=>gA rfl (gE (gS (gR (gM rfl (gM rfl (gY (yG rfl (iH (p:=aA) underlying9 rfl rfl)) ?_))))))
  have bF:=(aA).h
  refine gP (by omega) (by omega) rfl ?_
  obtain ⟨aM,hle,hm1,hsub,aN⟩:=hm.take2 (L1:=[_]) (L2:=[_]) [0] [1] (by decide) rfl rfl
  refine gCg rfl call18 (fR _ aM (⟨aE.b,aG.2.p⟩:fG) aB aC (GT.mono hle aF) ((((aA).b.length:Int))+1) hm1 ) ?_
  rintro aO bG bH w ⟨rfl,hB⟩
  replace hm:=aN _ _ hB;clear hB
  refine gA rfl (gE (gS (gS (gR (gM rfl ?_)))))
  obtain ⟨aP,hle,hm1,hsub,aQ⟩:=hm.take2 (L1:=[_]) (L2:=[_]) [0] [1] (by decide) rfl rfl
  refine gCg rfl call18 (fR _ aP (⟨aE.b,aO.2.p⟩:fG) aB aC (GT.mono hle aF) 10 hm1 ) ?_
  rintro aH bJ bK w ⟨rfl,hB⟩
  replace hm:=aQ _ _ hB;clear hB
  refine gE (gBk (gS (gR (gB rfl (gA rfl (gE (gsd 18 rfl (λaR=>?_) λaR=>?_)))))))
  ·refine gct rfl (gS (gW (.p 0 (.p 1 (.p 2 (.p 3 (.p 7 (.p 8 (.p 9 (.e 4 (.e 5 (.p 6 (.p 10 (.p 11 .fin))) .nil) .nil)))))))) [] [0, 1, 2, 3, 6, 7, 8, 9, 10, 11] hm [0, 1] [blk aB [aC, nV aH.2.p] 77, ow [aI] aG.1.fns] rfl mxo (by kernel_rfl) (fun _ _ _ h => h.2) fun w hm hS => tP rfl (fun w => yM rfl) (tP rfl (fun w => yM rfl) (gb fun aS aT => ?_))))
   obtain ⟨aU,aV⟩:=ky.1 aT
   refine tP rfl (λw=>yG rfl (aa4 (s:=aA) underlying9 rfl rfl rfl aU _)) ?_
   rw [aV]
   refine tP rfl (λw=>yM rfl) (tP rfl (λw=>yM rfl) (tP rfl (λw=>yM rfl) (gb λaX aY=>?_)))
   obtain ⟨aZ,a8⟩:=ky.1 aY
   refine tP rfl (λw=>yG rfl (ae0 (s:=aA) underlying9 rfl rfl rfl aZ _)) ?_
   rw [a8]
   refine tO (tf rfl rfl (λa hf=>fL (vs:=#[(0,(tV (mkS [32,101,108,115,101,32,123,32,125]))),(1,(tV (mkS [123]))),(2,(tV (mkS [125]))),(3,(tV (mkS [59]))),(4,(tV (mkS [49]))),(5,(tV (mkS [102,110])))]) (cs:=[(tV (mkS [32,101,108,115,101,32,123,32,125])),(tV (mkS [123])),(tV (mkS [125])),(tV (mkS [59])),(tV (mkS [49])),(tV (mkS [102,110]))]) lK hf hm rfl rfl (by kernel_rfl) rfl rfl) ?_)
   rintro _ w ⟨aa,rfl,hm⟩
   replace hm:=hm.lit (xs:=([(mkS [32,101,108,115,101,32,123,32,125]),(mkS [123]),(mkS [125]),(mkS [59]),(mkS [49]),(mkS [102,110])]:List Str)) 0 rfl rfl rfl rfl
   refine tAn rfl (tO (gb λab ac=>?_))
   obtain ⟨ae,hle,hm1,hsub,af⟩:=hm.take2 (L1:=[_]) (L2:=[_,_]) [1] [0,2] (by decide) rfl rfl
   refine tf rfl rfl (λa hf=>fo hf rfl call19 rfl (ig _ ae (⟨aE.b,aH.2.p⟩:fG) aB aC (GT.mono hle aF) ([(mkS [32,101,108,115,101,32,123,32,125]),(mkS [123]),(mkS [125]),(mkS [59]),(mkS [49]),(mkS [102,110])]:List Str) (sV aa 0 6 6) (kZ (hsub 0 _ rfl)) hm1  _ ac)) ?_
   rintro bL w ⟨rfl,hB⟩
   replace hm:=af _ _ hB;clear hB
   refine tAn rfl (gb λaJ ag=>?_)
   have ah:=fX.1 ag
   refine tP rfl (λw=>yG rfl (gj (p:=aS) (q:=ab.1) (u:=aJ) rfl rfl rfl ah)) (gb λai aj=>?_)
   have ak:=fX.1 aj
   refine tP rfl (λw=>yG rfl (gj (p:=aJ) (q:=aX) (u:=ai) rfl rfl rfl ak)) (tP rfl (λw=>yA rfl) (tE (gRt ?_)))
   replace hm:=hm.thaw aD
   exact gr1 results6 rfl ⟨rfl,hm.below⟩
  refine gcf rfl (gS (gR (gB rfl (gA rfl (gE (gsd 31 rfl (λal=>?_) λal=>?_))))))
  ·refine gct rfl (gS (gR (gM rfl (gM rfl (gb λbM am=>?_)))))
   obtain ⟨an,ao⟩:=ky.1 am
   refine gY (yG rfl (aa4 (s:=aA) underlying9 rfl rfl rfl an _)) ?_
   rw [ao]
   refine gA rfl (gE (gRt ?_))
   replace hm:=hm.thaw aD
   exact gr1 results6 rfl ⟨rfl,hm.below⟩
  refine gcf rfl (gS (gR (gB rfl (gA rfl (gE (gsd 36 rfl (λaq=>?_) λaq=>?_))))))
  ·refine gct rfl (gS (gR (gM rfl ?_)))
   obtain ⟨ar,hle,hm1,hsub,au⟩:=hm.take2 (L1:=[_]) (L2:=[_]) [0] [1] (by decide) rfl rfl
   refine gCg rfl call20 (w7 _ ar (⟨aE.b,aH.2.p⟩:fG) aB aC (GT.mono hle aF) hm1 ) ?_
   rintro bN bO bP w ⟨rfl,hB⟩
   replace hm:=au _ _ hB;clear hB
   refine gA rfl (gE (gRt ?_))
   replace hm:=hm.thaw aD
   exact gr1 results6 rfl ⟨rfl,hm.below⟩
  refine gcf rfl (gS (gR (gB rfl (gA rfl (gE (gsd 40 rfl (λav=>?_) λav=>?_))))))
  ·refine gct rfl (gS (gR (gM rfl (gb λaw ax=>?_))))
   have ay:=fX.1 ax
   refine gY (yG rfl (gj (p:=aA) (q:=(mkS [32,102,110,32,113,32,40,32,41,32,123,32,105,102,32,49,32,123,32,125,32,101,108,115,101,32,123,32,125,32,125])) (u:=aw) rfl rfl rfl ay)) (gA rfl (gE (gRt ?_)))
   replace hm:=hm.thaw aD
   exact gr1 results6 rfl ⟨rfl,hm.below⟩
  refine gcf rfl (gSk (gS (gR (gM rfl (gA rfl (gE (gRt ?_)))))))
  replace hm:=hm.thaw aD
  exact gr1 results6 rfl ⟨rfl,hm.below⟩
theorem r9 (w0:World) (p0:UInt8) :
    iF Tryz.prog 28 [(.int .u8 ((p0).toNat:Int))] w0 (lj p0) λr v w'=>v=(.bool (r))∧Below w0.heap.size w0 w':=by
  unfold lj
  refine iR func28 rfl λr=>?_
  have hm:=Mem.start w0
  exact gS (gR (gA rfl (gE (gS (gR (gA rfl (gE (gRt (gr1 results28 rfl ⟨rfl,hm.below⟩)))))))))
theorem nh (w0:World) (b_:UInt8) :
    iF Tryz.prog 29 [(.int .u8 ((b_).toNat:Int))] w0 (ja b_) λr v w'=>v=(.bool (r))∧Below w0.heap.size w0 w':=by
  unfold ja
  refine iR func29 rfl λr=>?_
  have hm:=Mem.start w0
  refine gS (gR (gA rfl (gE (gS (gJ hm (λaA=>[(2,(.bool (aA)))]) (λaA=>[]) (λaA=>?_) ?_)))))
  ·refine gR (gM rfl (gY (yG rfl (tC (b:=(97:UInt8)) (c:=b_) rfl rfl rfl)) (gM rfl (gsd 5 rfl (λaB=>?_) λaB=>?_))))
   ·exact gM rfl (gY (yG rfl (tC (b:=b_) (c:=(122:UInt8)) rfl rfl rfl)) (gKt rfl (gA rfl (gE (gz hm [] rfl)))))
   exact gO rfl (gO rfl (gKf rfl (gA rfl (gE (gz hm [] rfl)))))
  repeat clear hm
  intro aA w hm
  exact gRt (gr1 results29 rfl ⟨rfl,hm.below⟩)
theorem mr (w0:World) (b_:UInt8) :
    iF Tryz.prog 30 [(.int .u8 ((b_).toNat:Int))] w0 (jU b_) λr v w'=>v=(.bool (r))∧Below w0.heap.size w0 w':=by
  unfold jU
  refine iR func30 rfl λr=>?_
  have hm:=Mem.start w0
  refine gS (gR (gA rfl (gE (gS (gJ hm (λaA=>[(2,(.bool (aA)))]) (λaA=>[]) (λaA=>?_) ?_)))))
  ·refine gR (gM rfl (gY (yG rfl (tC (b:=(48:UInt8)) (c:=b_) rfl rfl rfl)) (gM rfl (gsd 5 rfl (λaB=>?_) λaB=>?_))))
   ·exact gM rfl (gY (yG rfl (tC (b:=b_) (c:=(57:UInt8)) rfl rfl rfl)) (gKt rfl (gA rfl (gE (gz hm [] rfl)))))
   exact gO rfl (gO rfl (gKf rfl (gA rfl (gE (gz hm [] rfl)))))
  repeat clear hm
  intro aA w hm
  exact gRt (gr1 results30 rfl ⟨rfl,hm.below⟩)
theorem nY (w0:World) (s_:List Str) (v1:Value) (h1:GT.rep (hp w0) [v1] s_) (v_:Str) :
    iF Tryz.prog 103 [v1,(tV v_)] w0 (jc s_ v_) λr v w'=>v=(nV r)∧Below w0.heap.size w0 w':=by
  unfold jc
  refine iR func103 rfl λr=>?_
  have hm:=Mem.start w0
  refine gS (gR (gA rfl (gE (gS (gS (gR (gM rfl ?_)))))))
  obtain ⟨aE,aF,rfl,aK⟩:=fE h1
  refine gY (yV jO rfl) (gM rfl (gE (gBk (gNf hm (λaA aC=>[(0,(.slice aE s_.length aF)),(1,(tV v_)),(7,(nV ((s_.length:Int)))),(8,(nV aA))]) (λaA aC=>[]) [] rfl ?_ ?_))))
  ·repeat clear hm
   intro aL aG aA aC w hm aM aN aO aH
   refine gS (gR (gB rfl (gE (gS (go _ 9 rfl (decide_eq_true (by omega)) (gct rfl (gSk (gS (gBk (gS (gR (gM rfl (gA rfl (gE (gS (gR (gM rfl (gM rfl (gM rfl (gg λaD aI aB=>?_))))))))))))))))))))
   obtain ⟨aP,aQ,aR,he⟩:=iS h1 aB
   obtain ⟨rfl,_,rfl⟩:=sl3 he
   refine gI jO aI (ff aB) rfl (gY (yl isAgg9 ((gK (cs:=[(tV aD)]) (hm.now h1) aB rfl).cell (j:=0) rfl) rfl) (gY (yG rfl (qm (p:=v_) (q:=aD) rfl rfl rfl)) (gE (gsd 16 rfl (λaJ=>?_) λaJ=>?_))))
   ·exact gct rfl (gS (gR (gM rfl (gA rfl (gE (gRt (gLr aH aG (gr1 results103 rfl ⟨rfl,hm.below⟩))))))))
   exact gcf rfl (gSk (gR (gP (by omega) (by omega) rfl (gM rfl (gE (gze hm [] rfl))))))
  repeat clear hm
  intro aS aT w hm aU aV
  exact gS (gR (gB rfl (gE (gS (go _ 9 rfl (decide_eq_false (by omega)) (gcf rfl (gXt (gHh (gS (gR (gA rfl (gE (gRt (gr1 results103 rfl ⟨rfl,hm.below⟩))))))))))))))
theorem ji (w0:World) (s_:List Str) (v1:Value) (h1:GT.rep (hp w0) [v1] s_) (v_:Str) :
    iF Tryz.prog 70 [v1,(tV v_)] w0 (hY s_ v_) λr v w'=>v=(.bool (r))∧Below w0.heap.size w0 w':=by
  unfold hY
  refine iR func70 rfl λr=>?_
  have hm:=Mem.start w0
  exact gS (gR (gA rfl (gE (gS (gR (gM rfl (gM rfl (gC hm rfl call103 (nY _ s_ v1 (hm.now h1) v_) λaA aB w hm=>gB rfl (gA rfl (gE (gRt (gr1 results70 rfl ⟨rfl,hm.below⟩))))))))))))
theorem wh (w0:World) (s_:Str) (hG0:GT.rep (hp w0) [.slice (some ⟨0,0,none⟩) 9 9] fP) :
    iF Tryz.prog 31 [(tV s_)] w0 (nK s_) λr v w'=>v=(.agg #[nV r.kind,(tV r.text)])∧Below w0.heap.size w0 w':=by
  unfold nK
  refine iR func31 rfl λr=>?_
  have hm:=Mem.start w0
  refine gS (gR (gAl hm zeroValue36 rfl λaJ w hm=>gE (gS (gBk (gS (gR (gM rfl (gg λaA aB aC=>gY (yG rfl (jJ (p:=s_) underlying9 rfl rfl rfl aB aC)) (gC hm rfl call30 (mr _ aA) λaK aL w hm=>gA rfl (gE (gs 3 rfl (λaD=>?_) λaD=>?_)))))))))))
  ·exact gct rfl (gS (gR (gM rfl (gY (yG rfl (fY (vs:=[(0,(nV 2)),(1,(tV s_))]) (cs:=#[nV 2,(tV s_)]) rfl rfl (by kernel_rfl))) (gSN hm 0 sizeOf36 (et rfl (et rfl fK)) rfl λw hm=>gE (gRt (grc 0 results31 hm rfl isAgg36 sizeOf36 ⟨rfl,hm.below⟩)))))))
  refine gcf rfl (gS (gR (gY (yG rfl (wL (n:=9) underlying101 rfl rfl sizeOf9)) (gM rfl (gC hm rfl call70 (ji _ fP (sV 0 0 9 9) (hm.now hG0) s_) λaM aN w hm=>gA rfl (gE (gs 9 rfl (λaE=>?_) λaE=>?_)))))))
  ·exact gct rfl (gS (gR (gM rfl (gY (yG rfl (fY (vs:=[(0,(nV 4)),(1,(tV s_))]) (cs:=#[nV 4,(tV s_)]) rfl rfl (by kernel_rfl))) (gSN hm 0 sizeOf36 (et rfl (et rfl fK)) rfl λw hm=>gE (gRt (grc 0 results31 hm rfl isAgg36 sizeOf36 ⟨rfl,hm.below⟩)))))))
  refine gcf rfl (gS (gR (gM rfl (gg λaF aG aH=>gY (yG rfl (jJ (p:=s_) underlying9 rfl rfl rfl aG aH)) (gC hm rfl call29 (nh _ aF) λaO aP w hm=>gA rfl (gE (gs 15 rfl (λaI=>?_) λaI=>?_)))))))
  ·exact gct rfl (gS (gR (gM rfl (gY (yG rfl (fY (vs:=[(0,(nV 1)),(1,(tV s_))]) (cs:=#[nV 1,(tV s_)]) rfl rfl (by kernel_rfl))) (gSN hm 0 sizeOf36 (et rfl (et rfl fK)) rfl λw hm=>gE (gRt (grc 0 results31 hm rfl isAgg36 sizeOf36 ⟨rfl,hm.below⟩)))))))
  exact gcf rfl (gSk (gS (gR (gM rfl (gY (yG rfl (fY (vs:=[(0,(nV 3)),(1,(tV s_))]) (cs:=#[nV 3,(tV s_)]) rfl rfl (by kernel_rfl))) (gSN hm 0 sizeOf36 (et rfl (et rfl fK)) rfl λw hm=>gE (gRt (grc 0 results31 hm rfl isAgg36 sizeOf36 ⟨rfl,hm.below⟩))))))))
theorem mK (w0:World) (n_:Int) (low:Int) (high:Int) :
    iF Tryz.prog 54 [nV n_,nV low,nV high] w0 (lI n_ low high) λr v w'=>v=(.bool (r))∧Below w0.heap.size w0 w':=by
  unfold lI
  refine iR func54 rfl λr=>?_
  have hm:=Mem.start w0
  refine gS (gR (gA rfl (gE (gS (gJ hm (λaA=>[(6,(.bool (aA)))]) (λaA=>[]) (λaA=>?_) ?_)))))
  ·refine gR (gM rfl (gM rfl (gB rfl (gM rfl (gsd 10 rfl (λaB=>?_) λaB=>?_)))))
   ·exact gM rfl (gM rfl (gB rfl (gKt rfl (gA rfl (gE (gz hm [] rfl))))))
   exact gO rfl (gO rfl (gO rfl (gKf rfl (gA rfl (gE (gz hm [] rfl))))))
  repeat clear hm
  intro aA w hm
  exact gRt (gr1 results54 rfl ⟨rfl,hm.below⟩)
theorem qs (w0:World) (s_:Str) (f:Int→Option Bool) (fv1:Value) (hfn1:∀ (w:World) (y0:Int) (r:Bool),Below w0.heap.size w0 w→f y0=some r→th Tryz.prog fv1 [(.int .i32 (y0))] w (λv w'=>v=(.bool (r))∧Below w.heap.size w w')) :
    iF Tryz.prog 89 [(tV s_),fv1] w0 (mD s_ f) λr v w'=>v=(nV r)∧Below w0.heap.size w0 w':=yx laysGw15 w0 s_ f fv1 hfn1
theorem tF (w0:World) (r_:Int) :
    iF Tryz.prog 90 [(.int .i32 (r_))] w0 (ju r_) λr v w'=>v=(.bool (r))∧Below w0.heap.size w0 w':=by
  unfold ju
  refine iR func90 rfl λr=>?_
  have hm:=Mem.start w0
  refine gS (gR (gA rfl (gE (gS (gJ hm (λaA=>[(2,(.bool (aA)))]) (λaA=>[]) (λaA=>?_) ?_)))))
  ·refine gR (gM rfl (gB rfl (gM rfl (gsd 5 rfl (λaB=>?_) λaB=>?_))))
   ·exact gO rfl (gO rfl (gKt rfl (gA rfl (gE (gz hm [] rfl)))))
   exact gM rfl (gB rfl (gKf rfl (gA rfl (gE (gz hm [] rfl)))))
  repeat clear hm
  intro aA w hm
  exact gRt (gr1 results90 rfl ⟨rfl,hm.below⟩)
theorem lS (w0:World) (s_:Str) (hG0:GT.rep (hp w0) [.slice (some ⟨0,0,none⟩) 9 9] fP) :
    iF Tryz.prog 55 [(tV s_)] w0 (kA s_) λr v w'=>v=(.bool (r))∧Below w0.heap.size w0 w':=by
  unfold kA
  refine iR func55 rfl λr=>?_
  have hm:=Mem.start w0
  refine gS (gR (gA rfl (gE (gS (gJ hm (λaA=>[(2,(.bool (aA)))]) (λaA=>[]) (λaA=>?_) ?_)))))
  ·refine gR (gM rfl (gY (yG rfl (iH (p:=s_) underlying9 rfl rfl)) ?_))
   have aD:=(s_).h
   refine gC hm rfl call54 (mK _ ((s_).b.length:Int) 1 4) λaE aF w hm=>gM rfl (gs 6 rfl (λaB=>?_) λaB=>?_)
   ·refine gM rfl (gC hm rfl call89 (qs _ s_ (λy0=>ju y0) (.func (.func 90) #[] #[]) (λw y0 r hB hq=>⟨90,[],rfl,call90,tF w y0  r hq⟩)) λaG aH w hm=>gB rfl (gKt rfl (gM rfl (gsd 11 rfl (λaC=>?_) λaC=>?_))))
    ·exact gY (yG rfl (wL (n:=9) underlying101 rfl rfl sizeOf9)) (gM rfl (gC hm rfl call70 (ji _ fP (sV 0 0 9 9) (hm.now hG0) s_) λaI aJ w hm=>gN rfl (gKt rfl (gA rfl (gE (gz hm [] rfl))))))
    exact gO rfl (gO rfl (gO rfl (gO rfl (gKf rfl (gA rfl (gE (gz hm [] rfl)))))))
   exact gO rfl (gO rfl (gO rfl (gKf rfl (gM rfl (gO rfl (gO rfl (gO rfl (gO rfl (gKf rfl (gA rfl (gE (gz hm [] rfl))))))))))))
  repeat clear hm
  intro aA w hm
  exact gRt (gr1 results55 rfl ⟨rfl,hm.below⟩)
theorem ub (w0:World) (s_:Str) :
    iF Tryz.prog 104 [(tV s_)] w0 (strconv_Atoi s_) λr v w'=>v=(.tuple #[nV r.1,.nilIface])∧Below w0.heap.size w0 w':=aj2 lays172 w0 s_
theorem qP (w0:World) (s_:Str) (most:Int) :
    iF Tryz.prog 71 [(tV s_),nV most] w0 (mV s_ most) λr v w'=>v=(nV r)∧Below w0.heap.size w0 w':=by
  unfold mV
  refine iR func71 rfl λr=>?_
  have hm:=Mem.start w0
  refine gS (gR (gA rfl (gE (gS (gS (gJ hm (λaA=>[(0,(tV s_)),(1,(nV most)),(24,(.bool (aA)))]) (λaA=>[]) (λaA=>?_) ?_))))))
  ·refine gR (gM rfl (gY (yG rfl (qm (p:=s_) (q:=(mkS [])) rfl rfl rfl)) (gM rfl (gsd 10 rfl (λaD=>?_) λaD=>?_))))
   ·exact gO rfl (gO rfl (gO rfl (gKt rfl (gM rfl (gO rfl (gO rfl (gO rfl (gO rfl (gO rfl (gO rfl (gO rfl (gO rfl (gKt rfl (gE (gz hm [] rfl)))))))))))))))
   refine gM rfl (gY (yG rfl (iH (p:=s_) underlying9 rfl rfl)) ?_)
   have aR:=(s_).h
   refine gB rfl (gKf rfl (gM rfl (gsd 15 rfl (λaE=>?_) λaE=>?_)))
   ·exact gO rfl (gO rfl (gO rfl (gO rfl (gO rfl (gO rfl (gO rfl (gO rfl (gKt rfl (gE (gz hm [] rfl))))))))))
   refine gM rfl (gY (yG rfl (iH (p:=s_) underlying9 rfl rfl)) (gB rfl (gM rfl (gsd 19 rfl (λaF=>?_) λaF=>?_))))
   ·exact gM rfl (gg λaG aH aI=>gY (yG rfl (jJ (p:=s_) underlying9 rfl rfl rfl aH aI)) (gY (yG rfl (qe (b:=aG) (c:=(48:UInt8)) rfl rfl rfl)) (gKt rfl (gKf rfl (gE (gz hm [] rfl))))))
   exact gO rfl (gO rfl (gO rfl (gKf rfl (gKf rfl (gE (gz hm [] rfl))))))
  repeat clear hm
  intro aA w hm
  refine gs 24 rfl (λaJ=>?_) λaJ=>?_
  ·exact gct rfl (gS (gR (gA rfl (gE (gRt (gr1 results71 rfl ⟨rfl,hm.below⟩))))))
  refine gcf rfl (gSk (gS (gS (gR (gM rfl (gY (yG rfl (iH (p:=s_) underlying9 rfl rfl)) ?_))))))
  have aS:=(s_).h
  refine gM rfl (gE (gBk (gNf hm (λaB aC=>[(0,(tV s_)),(1,(nV most)),(26,(nV (((s_).b.length:Int)))),(27,(nV aB))]) (λaB aC=>[]) [] rfl ?_ ?_)))
  ·repeat clear hm
   intro aT aK aB aC w hm aU aV aX aL
   refine gS (gR (gB rfl (gE (gS (go _ 28 rfl (decide_eq_true (by omega)) (gct rfl (gSk (gS (gBk (gS (gR (gM rfl (gA rfl (gE (gS (gR (gM rfl (gM rfl (gg λaM aN aO=>gY (yG rfl (jJ (p:=s_) underlying9 rfl rfl rfl aN aO)) (gC hm rfl call30 (mr _ aM) λaY aZ w hm=>gN rfl (gE (gsn 34 rfl (λaP=>?_) λaP=>?_))))))))))))))))))))))
   ·exact gct rfl (gS (gR (gA rfl (gE (gRt (gLr aL aK (gr1 results71 rfl ⟨rfl,hm.below⟩)))))))
   exact gcf rfl (gSk (gR (gP (by omega) (by omega) rfl (gM rfl (gE (gze hm [] rfl))))))
  repeat clear hm
  intro a8 aa w hm ab ac
  refine gS (gR (gB rfl (gE (gS (go _ 28 rfl (decide_eq_false (by omega)) (gcf rfl (gXt (gHh (gS (gR (gM rfl (gC hm rfl call104 (ub _ s_) λae af w hm=>gM rfl (gX rfl (gX rfl (gA rfl (gA rfl (gE (gS (gS (gR (gM rfl (gM rfl (gB rfl (gE (gsd 43 rfl (λaQ=>?_) λaQ=>?_)))))))))))))))))))))))))
  ·exact gct rfl (gS (gR (gA rfl (gE (gRt (gr1 results71 rfl ⟨rfl,hm.below⟩))))))
  exact gcf rfl (gSk (gS (gR (gM rfl (gA rfl (gE (gRt (gr1 results71 rfl ⟨rfl,hm.below⟩))))))))
theorem rO (w0:World) (s_:Str) (substr:Str) :
    iF Tryz.prog 72 [(tV s_),(tV substr)] w0 (mS s_ substr) λr v w'=>v=(.bool (r))∧Below w0.heap.size w0 w':=xj lays144 w0 s_ substr
theorem pA (w0:World) (w_:eu) (hG0:GT.rep (hp w0) [.slice (some ⟨0,0,none⟩) 9 9] fP) :
    iF Tryz.prog 32 [(.agg #[nV w_.kind,(tV w_.text)])] w0 (kM w_) λr v w'=>v=(.bool (r))∧Below w0.heap.size w0 w':=by
  unfold kM
  refine iR func32 rfl λr=>?_
  have hm:=Mem.start w0
  refine gS (gR (gBx hm rfl λaB w hm=>gA rfl (gE (gS (gS (gR (gF mP rfl (gL hm 0 isAgg3 rfl (gE (gBk (gS (gR (gB rfl (gA rfl (gE (gsd 5 rfl (λaC=>?_) λaC=>?_))))))))))))))))
  ·exact gct rfl (gS (gR (gF jk rfl (gL hm 0 isAgg9 rfl (gC hm rfl call55 (lS _ w_.text (hm.now hG0)) λaI aJ w hm=>gA rfl (gE (gRt (gr1 results32 rfl ⟨rfl,hm.below⟩))))))))
  refine gcf rfl (gS (gR (gB rfl (gA rfl (gE (gsd 10 rfl (λaD=>?_) λaD=>?_))))))
  ·exact gct rfl (gS (gR (gF jk rfl (gL hm 0 isAgg9 rfl (gC hm rfl call71 (qP _ w_.text 255) λaK aL w hm=>gB rfl (gA rfl (gE (gRt (gr1 results32 rfl ⟨rfl,hm.below⟩)))))))))
  refine gcf rfl (gS (gR (gB rfl (gA rfl (gE (gsd 16 rfl (λaE=>?_) λaE=>?_))))))
  ·refine gct rfl (gS (gJ hm (λaA=>[(2,(.bool (aA)))]) (λaA=>[]) (λaA=>?_) ?_))
   ·refine gR (gF jk rfl (gL hm 0 isAgg9 rfl (gY (yG rfl (iH (p:=w_.text) underlying9 rfl rfl)) ?_)))
    have aM:=(w_.text).h
    refine gB rfl (gM rfl (gsd 22 rfl (λaF=>?_) λaF=>?_))
    ·exact gF jk rfl (gL hm 0 isAgg9 rfl (gC hm rfl call72 (rO _ (mkS [40,41,123,125,59,44,43,45,42,47,37,60,61,38,33,64]) w_.text) λaN aO w hm=>gKt rfl (gA rfl (gE (gz hm [] rfl)))))
    exact gO rfl (gO rfl (gO rfl (gKf rfl (gA rfl (gE (gz hm [] rfl))))))
   repeat clear hm
   intro aA w hm
   exact gRt (gr1 results32 rfl ⟨rfl,hm.below⟩)
  refine gcf rfl (gS (gR (gB rfl (gA rfl (gE (gsd 27 rfl (λaG=>?_) λaG=>?_))))))
  ·refine gct rfl (gS (gW (.p 0 (.p 1 (.e 2 (.e 3 (.p 4 .fin) .nil) .nil))) [] [0, 1, 4] hm [0] [blk aB [nV w_.kind, (tV w_.text)] 36] rfl mxo (by kernel_rfl) (fun _ _ _ h => h.2) fun w hm hS => tP rfl (fun w => yG rfl (wL (n := 9) underlying101 rfl rfl sizeOf9)) (tP rfl (fun w => yF jk rfl) (tO (tY rfl (yL hm 0 isAgg9 rfl) (tAn rfl (tO (gb fun aP aH => tf rfl rfl (fun a hf => fo hf rfl call70 rfl (ji _ fP (sV 0 0 9 9) (hm.now hG0) w_.text _ aH)) ?_))))))))
   rintro aQ w ⟨rfl,hB⟩
   replace hm:=hm.below' hB;clear hB
   exact tAn rfl (tP rfl (λw=>yA rfl) (tE (gRt (gr1 results32 rfl ⟨rfl,hm.below⟩))))
  exact gcf rfl (gSk (gS (gR (gA rfl (gE (gRt (gr1 results32 rfl ⟨rfl,hm.below⟩)))))))
theorem ni (w0:World) (s_:Str) (hG0:GT.rep (hp w0) [.slice (some ⟨0,0,none⟩) 9 9] fP) :
    iF Tryz.prog 10 [(tV s_)] w0 (jr s_) λr v w'=>∃ (x1:Value),v=(.tuple #[x1,(.bool (r.2))])∧Mem w0 (hp w0) w' [ow [x1] r.1]:=by
  unfold jr
  refine iR func10 rfl λr=>?_
  have hm:=Mem.start w0
  refine gS (gR (gA rfl (gA rfl (gE (gS (gS (gR (gM rfl (gY (yG rfl (iH (p:=s_) underlying9 rfl rfl)) ?_)))))))))
  have bR:=(s_).h
  refine gB rfl (gE (gsd 11 rfl (λaY=>?_) λaY=>?_))
  ·refine gct rfl (gS (gR (gA rfl (gA rfl (gE (gRt ?_))))))
   replace hm:=hm.nilow (α:=eu)
   exact gr2 results10 rfl ⟨.slice none 0 0,rfl,hm.pk [0] rfl rfl⟩
  refine gcf rfl (gSk (gS (gR (gA rfl (gE (gS (gS (gR (gA rfl (gE (sn (λaT a w=>∃ (aH:Value),St 72 [(4,aH)] w0 (hp w0) [ow [aH] aT] a w) (λbS aZ=>?_) ?_)))))))))))
  ·refine gBk ?_
   replace hm:=hm.nilow (α:=eu)
   refine gMg (λaA a w=>∃ (aB:Value),St 72 [(0,(tV s_)),(4,aB),(5,(nV aA.2))] w0 (hp w0) [ow [aB] aA.1] a w) (λa hf=>⟨.slice none 0 0,hf.sb rfl,hm.pk [0] rfl rfl⟩) ?_
   repeat clear hm
   rintro bT aU aA a w ⟨aB,hf,hm⟩ bU aV
   refine gv hf (gS (gS (gR (gM rfl (gM rfl (gY (yG rfl (iH (p:=s_) underlying9 rfl rfl)) (gB rfl (gE (gsd 15 rfl (λa8=>?_) λa8=>?_)))))))))
   ·refine gct rfl (gSk (sn (λaP a w=>∃ (aI:Value),St 72 [(0,(tV s_)),(4,aI),(5,(nV aP.2))] w0 (hp w0) [ow [aI] aP.1] a w) (λbV aa=>?_) ?_))
    ·refine gBk (gS (gS (gJ hm (λaJ=>[(0,(tV s_)),(4,aB),(5,(nV aA.2)),(25,(.bool (aJ)))]) (λaJ=>[ow [aB] aA.1]) (λaJ=>?_) ?_)))
     ·refine gR (gM rfl (gM rfl (gg λab ac ae=>gY (yG rfl (jJ (p:=s_) underlying9 rfl rfl rfl ac ae)) (gY (yG rfl (qe (b:=ab) (c:=(32:UInt8)) rfl rfl rfl)) (gM rfl (gsd 20 rfl (λaf=>?_) λaf=>?_))))))
      ·exact gO rfl (gO rfl (gO rfl (gO rfl (gKt rfl (gE (gz hm [0] rfl))))))
      exact gM rfl (gM rfl (gg λag ah ai=>gY (yG rfl (jJ (p:=s_) underlying9 rfl rfl rfl ah ai)) (gY (yG rfl (qe (b:=ag) (c:=(10:UInt8)) rfl rfl rfl)) (gKf rfl (gE (gz hm [0] rfl))))))
     repeat clear hm
     intro aJ w hm
     refine gs 25 rfl (λaj=>?_) λaj=>?_
     ·exact gct rfl (gS (gR (gM rfl (gB rfl (gA rfl (gE (gXt (gHh (gZe λa hf=>⟨aB,hf.sb rfl,hm.pk [0] rfl rfl⟩)))))))))
     refine gcf rfl (gSk (gS (gR (gA rfl (gE (gS (gJg (λaQ a w=>∃ (aF:Value),(∀ (w:World) (y0:UInt8) (r:Bool),Below w0.heap.size w0 w→aQ y0=some r→th Tryz.prog aF [(.int .u8 ((y0).toNat:Int))] w (λv w'=>v=(.bool (r))∧Below w.heap.size w w'))∧St 72 [(0,(tV s_)),(4,aB),(5,(nV aA.2)),(6,aF)] w0 (hp w0) [ow [aB] aA.1] a w) (λaQ=>?_) ?_)))))))
     ·refine gBk (gS (gR (gM rfl (gM rfl (gg λak al am=>gY (yG rfl (jJ (p:=s_) underlying9 rfl rfl rfl al am)) (gC hm rfl call29 (nh _ ak) λbW bX w hm=>gA rfl (gE (gJg (λaR a w=>∃ (aK:Value),(∀ (w:World) (y0:UInt8) (r:Bool),Below w0.heap.size w0 w→aR y0=some r→th Tryz.prog aK [(.int .u8 ((y0).toNat:Int))] w (λv w'=>v=(.bool (r))∧Below w.heap.size w w'))∧St 72 [(0,(tV s_)),(4,aB),(5,(nV aA.2)),(6,aK)] w0 (hp w0) [ow [aB] aA.1] a w) (λaR=>?_) ?_))))))))
      ·refine gs 28 rfl (λan=>?_) λan=>?_
       ·exact gct rfl (gR (gA rfl (gE (gZ λa hf=>⟨(.func (.func 29) #[] #[]),(λw y0 r _ hq=>⟨29,[],rfl,call29,nh w y0 r hq⟩),hf.sb rfl,hm.pk [0] rfl rfl⟩))))
       refine gcf rfl (gS (gR (gM rfl (gM rfl (gg λao aq ar=>gY (yG rfl (jJ (p:=s_) underlying9 rfl rfl rfl aq ar)) (gC hm rfl call30 (mr _ ao) λbY bZ w hm=>gA rfl (gE (gJg (λaS a w=>∃ (aL:Value),(∀ (w:World) (y0:UInt8) (r:Bool),Below w0.heap.size w0 w→aS y0=some r→th Tryz.prog aL [(.int .u8 ((y0).toNat:Int))] w (λv w'=>v=(.bool (r))∧Below w.heap.size w w'))∧St 72 [(0,(tV s_)),(4,aB),(5,(nV aA.2)),(6,aL)] w0 (hp w0) [ow [aB] aA.1] a w) (λaS=>?_) ?_))))))))
       ·refine gs 33 rfl (λau=>?_) λau=>?_
        ·exact gct rfl (gR (gA rfl (gE (gZ λa hf=>⟨(.func (.func 30) #[] #[]),(λw y0 r _ hq=>⟨30,[],rfl,call30,mr w y0 r hq⟩),hf.sb rfl,hm.pk [0] rfl rfl⟩))))
        exact gcf rfl (gSk (gZ λa hf=>⟨(.func (.func 28) #[] #[]),(λw y0 r _ hq=>⟨28,[],rfl,call28,r9 w y0 r hq⟩),hf.sb rfl,hm.pk [0] rfl rfl⟩))
       repeat clear hm
       rintro aS a w ⟨aL,av,hf,hm⟩
       exact gv hf (gZ λa hf=>⟨aL,av,hf.sb rfl,hm.pk [0] rfl rfl⟩)
      repeat clear hm
      rintro aR a w ⟨aK,aw,hf,hm⟩
      exact gv hf (gZ λa hf=>⟨aK,aw,hf.sb rfl,hm.pk [0] rfl rfl⟩)
     repeat clear hm
     rintro aQ a w ⟨aF,ax,hf,hm⟩
     refine gv hf (gS (gR (gM rfl (gB rfl (gA rfl (gE (gS ?_)))))))
     obtain ⟨aC,aD,rfl,b8⟩:=fE (hm.ow_rep 0 rfl)
     refine gJ hm (λaG=>[(0,(tV s_)),(4,(.slice aC aA.1.length aD)),(5,(nV aA.2)),(7,(nV aG))]) (λaG=>[ow [.slice aC aA.1.length aD] aA.1]) (λaG=>?_) ?_
     ·refine gBk (gMf hm (λaM=>[(0,(tV s_)),(4,(.slice aC aA.1.length aD)),(5,(nV aA.2)),(6,aF),(7,(nV aM))]) (λaM=>[ow [.slice aC aA.1.length aD] aA.1]) [0] rfl ?_)
      repeat clear hm
      intro b9 ay aM w hm ba az
      refine gS (gS (gJ hm (λaN=>[(0,(tV s_)),(4,(.slice aC aA.1.length aD)),(5,(nV aA.2)),(6,aF),(7,(nV aM)),(50,(.bool (aN)))]) (λaN=>[ow [.slice aC aA.1.length aD] aA.1]) (λaN=>?_) ?_))
      ·refine gR (gM rfl (gM rfl (gY (yG rfl (iH (p:=s_) underlying9 rfl rfl)) (gB rfl (gM rfl (gsd 44 rfl (λbA=>?_) λbA=>?_))))))
       ·refine gM rfl (gM rfl (gM rfl (gg λbB bC bD=>gY (yG rfl (jJ (p:=s_) underlying9 rfl rfl rfl bC bD)) (gb λbb bE=>gf rfl (λa hf=>py hf rfl rfl rfl (ax _ bB _ hm.below bE)) ?_))))
        rintro bc w ⟨rfl,hB⟩
        replace hm:=hm.below' hB;clear hB
        exact gKt rfl (gE (gz hm [0] rfl))
       exact gO rfl (gO rfl (gO rfl (gO rfl (gO rfl (gKf rfl (gE (gz hm [0] rfl)))))))
      repeat clear hm
      intro aN w hm
      refine gs 50 rfl (λbF=>?_) λbF=>?_
      ·exact gct rfl (gSk (gBk (gR (gM rfl (gB rfl (gA rfl (gE (gze hm [0] rfl))))))))
      exact gcf rfl (gXt (gHh (gLp az ay (gz hm [0] rfl))))
     repeat clear hm
     intro aG w hm
     refine gS (gR (gM rfl (gM rfl (gM rfl (gb λbG bH=>?_)))))
     obtain ⟨bJ,bK⟩:=ky.1 bH
     refine gY (yG rfl (vu (s:=s_) underlying9 rfl rfl rfl rfl bJ _)) ?_
     rw [bK]
     refine gC hm rfl call31 (wh _ bG (hm.now hG0)) λaE bd w hm=>gAl hm zeroValue36 rfl λaX w hm=>gSN hm 0 sizeOf36 (et rfl (et rfl fK)) rfl λw hm=>gE (gS (gS (gJ hm (λaO=>[(0,(tV s_)),(4,(.slice aC aA.1.length aD)),(7,(nV aG)),(8,(pV aX)),(65,(.bool (aO)))]) (λaO=>[ow [.slice aC aA.1.length aD] aA.1,blk aX [nV aE.kind,(tV aE.text)] 36]) (λaO=>?_) ?_)))
     ·refine gR (gY (yn (hm.blk_at 0 rfl) isAgg36 sizeOf36 rfl) (gC hm rfl call32 (pA _ aE (hm.now hG0)) λbe bf w hm=>gN rfl (gM rfl (gsn 61 rfl (λbL=>?_) λbL=>?_))))
      ·exact gO rfl (gO rfl (gO rfl (gKt rfl (gE (gz hm [1,0] rfl)))))
      exact gM rfl (gY (yV kq rfl) (gB rfl (gKf rfl (gE (gz hm [1,0] rfl)))))
     repeat clear hm
     intro aO w hm
     refine gs 65 rfl (λbM=>?_) λbM=>?_
     ·refine gct rfl (gS (gR (gA rfl (gA rfl (gE (gRt (gEr aa (gLp aV aU (gl (gEr aZ ?_))))))))))
      replace hm:=hm.nilow (α:=eu)
      exact gr2 results10 rfl ⟨.slice none 0 0,rfl,hm.pk [0] rfl rfl⟩
     refine gcf rfl (gSk (gS (gR (gM rfl (gY (yn (hm.blk_at 1 rfl) isAgg36 sizeOf36 rfl) (gf rfl (λa hf=>fL (vs:=#[(0,(.agg #[nV aE.kind,(tV aE.text)]))]) (cs:=[nV aE.kind,(tV aE.text)]) iY hf hm rfl rfl (by kernel_rfl) rfl rfl) ?_))))))
     rintro _ w ⟨bg,rfl,hm⟩
     replace hm:=hm.lit (xs:=([aE]:List eu)) 0 rfl rfl rfl rfl
     refine gb λbh bN=>?_
     obtain ⟨bO,bP⟩:=fV.1 bN
     refine gf rfl (λa hf=>iL 1 iY hf hm rfl (hm.ow_rep 0 rfl) rfl rfl rfl bO) ?_
     rintro bQ w hm
     rw [bP] at hm
     exact gA rfl (gE (gR (gM rfl (gA rfl (gE (gZe λa hf=>⟨bQ,hf.sb rfl,hm.pk [1] rfl rfl⟩))))))
    repeat clear hm
    rintro aP a w ⟨aI,hf,hm⟩
    exact gv hf (gZe λa hf=>⟨aI,hf.sb rfl,hm.pk [0] rfl rfl⟩)
   exact gcf rfl (gXt (gHh (gLp aV aU (gr (gZe λa hf=>⟨aB,hf.sb rfl,hm.pk [0] rfl rfl⟩)))))
  repeat clear hm
  rintro aT a w ⟨aH,hf,hm⟩
  exact gv hf (gS (gR (gM rfl (gA rfl (gA rfl (gE (gRt (gr2 results10 rfl ⟨aH,rfl,hm.pk [0] rfl rfl⟩))))))))
theorem kr (w0:World) (r_:ez) (bp0:Nat) (v1p:Value) (h1p:GT.rep (hp w0) [v1p] r_.list) (hbbp0:(hp w0) bp0=some (.cells ([v1p,(.bool (r_.bad))]:List Value).toArray 51 (0,0))) :
    iF Tryz.prog 87 [(pV bp0)] w0 (gD r_) λr v w'=>v=(.agg #[nV r.kind,(tV r.text)])∧Below w0.heap.size w0 w':=by
  unfold gD
  refine iR func87 rfl λr=>?_
  have hm:=Mem.start w0
  refine gS (gR (gAl hm zeroValue36 rfl λaE w hm=>gE (gS (gS (gR (gM rfl (gY (yG rfl (fI rfl rfl)) (gF oR rfl (gY (yl isAgg30 (hm.hz_cell hbbp0 rfl) rfl) ?_)))))))))
  obtain ⟨aF,aG,rfl,aH⟩:=fE h1p
  refine gY (yV kq rfl) (gB rfl (gE (gsd 8 rfl (λaC=>?_) λaC=>?_)))
  ·exact gct rfl (gS (gR (gY (yG rfl (fY (vs:=[]) (cs:=#[nV 0,(tV (mkS []))]) rfl rfl (by kernel_rfl))) (gSN hm 0 sizeOf36 (et rfl (et rfl fK)) rfl λw hm=>gE (gRt (grc 0 results87 hm rfl isAgg36 sizeOf36 ⟨rfl,hm.below⟩))))))
  refine gcf rfl (gSk (gS (gR (gM rfl (gY (yG rfl (fI rfl rfl)) (gF oR rfl (gY (yl isAgg30 (hm.hz_cell hbbp0 rfl) rfl) (gg λaB aD aA=>?_))))))))
  obtain ⟨aI,aJ,aK,he⟩:=iS h1p aA
  obtain ⟨rfl,_,rfl⟩:=sl3 he
  exact gI kq aD (ff aA) rfl (gY (yn (gK (cs:=[nV aB.kind,(tV aB.text)]) (hm.now h1p) aA rfl) isAgg36 sizeOf36 rfl) (gSN hm 0 sizeOf36 (et rfl (et rfl fK)) rfl λw hm=>gE (gRt (grc 0 results87 hm rfl isAgg36 sizeOf36 ⟨rfl,hm.below⟩))))
theorem jA (w0:World) (hz:fU) (r_:ez) (bp0:Nat) (v1p:Value) (kind:Int) (text:Str) (hm0:Mem w0 hz w0 [blk bp0 [v1p,(.bool (r_.bad))] 51,ow [v1p] r_.list]) :
    iF Tryz.prog 52 [(pV bp0),nV kind,(tV text)] w0 (fJ r_ kind text) λr v w'=>∃ (x1:Value),v=(.bool (r.1))∧Mem w0 hz w' [blk bp0 [x1,(.bool (r.2.bad))] 51,ow [x1] r.2.list]:=by
  unfold fJ
  refine iR func52 rfl λr=>?_
  have hm:=hm0
  refine gS (gR (gA rfl (gE (gS (gS (gR (gM rfl (gC hm rfl call87 (kr _ r_ bp0 v1p (hm.ow_rep 1 rfl) (hm.blk_cells 0 rfl).1) λaF aM w hm=>gAl hm zeroValue36 rfl λaN w hm=>gSN hm 0 sizeOf36 (et rfl (et rfl fK)) rfl λw hm=>gE (gS (gJ hm (λaA=>[(0,(pV bp0)),(27,(.bool (aA)))]) (λaA=>[blk bp0 [v1p,(.bool (r_.bad))] 51,ow [v1p] r_.list]) (λaA=>?_) ?_))))))))))
  ·refine gR (gM rfl (gY (yG rfl (fI rfl rfl)) (gF oR rfl (gL hm 1 isAgg30 rfl ?_))))
   obtain ⟨aO,aP,rfl,aQ⟩:=fE (hm.ow_rep 2 rfl)
   refine gY (yV kq rfl) (gB rfl (gM rfl (gsd 16 rfl (λaG=>?_) λaG=>?_)))
   ·exact gO rfl (gO rfl (gO rfl (gO rfl (gKt rfl (gM rfl (gO rfl (gO rfl (gO rfl (gO rfl (gKt rfl (gE (gz hm [1,2] rfl))))))))))))
   refine gF mP rfl (gL hm 0 isAgg3 rfl (gM rfl (gB rfl (gKf rfl (gM rfl (gsd 22 rfl (λaH=>?_) λaH=>?_))))))
   ·exact gO rfl (gO rfl (gO rfl (gO rfl (gKt rfl (gE (gz hm [1,2] rfl))))))
   exact gF jk rfl (gL hm 0 isAgg9 rfl (gM rfl (gY (yG rfl (oM (p:=aF.text) (q:=text) rfl rfl rfl)) (gKf rfl (gE (gz hm [1,2] rfl))))))
  repeat clear hm
  intro aA w hm
  refine gs 27 rfl (λaI=>?_) λaI=>?_
  ·exact gct rfl (gS (gR (gA rfl (gE (gRt (gr1 results52 rfl ⟨v1p,rfl,hm.pk [0,1] rfl rfl⟩))))))
  refine gcf rfl (gSk (gS (gR (gM rfl (gM rfl (gY (yG rfl (fI rfl rfl)) (gF oR rfl (gL hm 0 isAgg30 rfl (gb λaJ aK=>?_)))))))))
  obtain ⟨aC,aD⟩:=p9.1 aK
  have aL:=(hm.ow_rep 1 rfl)
  obtain ⟨aE,aB⟩:∃ nv,nv=rJ (GT.sz (eu)) v1p (1:Int).toNat ((r_.list.length:Int):Int).toNat:=⟨_,rfl⟩
  refine gY (yG rfl (aa6 aB (ai9 (α:=eu) kq aL rfl rfl rfl aC _))) (gY (yG rfl (fI rfl rfl)) (gF oR rfl (gS1 hm 0 sizeOf30 (fS (yR aB aD aC (hm.ow_rep 1 rfl))) rfl λw hm=>gE (gS (gR (gA rfl (gE (gRt ?_))))))))
  replace hm:=hm.imp (c':=ow [aE] aJ) 1 rfl (λF h0=>by rw [aB,← aD];exact wR h0 (by omega) (by omega))
  exact gr1 results52 rfl ⟨aE,rfl,hm.pk [0,1] rfl rfl⟩
theorem gm (w0:World) (hz:fU) (r_:ez) (bp0:Nat) (v1p:Value) (kind:Int) (text:Str) (hm0:Mem w0 hz w0 [blk bp0 [v1p,(.bool (r_.bad))] 51,ow [v1p] r_.list]) :
    iF Tryz.prog 50 [(pV bp0),nV kind,(tV text)] w0 (fC r_ kind text) λr v w'=>∃ (x1:Value),v=(.tuple #[])∧Mem w0 hz w' [blk bp0 [x1,(.bool (r.bad))] 51,ow [x1] r.list]:=by
  unfold fC
  refine iR func50 rfl λr=>?_
  have hm:=hm0
  refine gS (gR (gM rfl (gM rfl (gM rfl ?_))))
  obtain ⟨aC,hle,hm1,hsub,aD⟩:=hm.take2 (L1:=[_,_]) (L2:=[]) [0,1] [] (by decide) rfl rfl
  refine gCg rfl call52 (jA _ aC r_ bp0 v1p kind text hm1 ) ?_
  rintro aE aG aH w ⟨aB,rfl,hB⟩
  replace hm:=aD _ _ hB;clear hB
  refine gN rfl (gE (gJ hm (λaA=>[]) (λaA=>[blk bp0 [aB,(.bool (aA))] 51,ow [aB] aE.2.list]) (λaA=>?_) ?_))
  ·refine gsn 10 rfl (λaF=>?_) λaF=>?_
   ·exact gct rfl (gR (gM rfl (gY (yG rfl (fI rfl rfl)) (gF mu rfl (gS1 hm 0 sizeOf4 rfl rfl λw hm=>gE (gz hm [0,1] rfl))))))
   exact gcf rfl (gSk (gz hm [0,1] rfl))
  repeat clear hm
  intro aA w hm
  exact gre results50 ⟨aB,rfl,hm.pk [0,1] rfl rfl⟩
theorem kF (w0:World) (hz:fU) (r_:ez) (bp0:Nat) (v1p:Value) (hm0:Mem w0 hz w0 [blk bp0 [v1p,(.bool (r_.bad))] 51,ow [v1p] r_.list]) :
    iF Tryz.prog 86 [(pV bp0)] w0 (fb r_) λr v w'=>∃ (x1:Value),v=(.agg #[nV r.1.kind,(tV r.1.text)])∧Mem w0 hz w' [blk bp0 [x1,(.bool (r.2.bad))] 51,ow [x1] r.2.list]:=by
  unfold fb
  refine iR func86 rfl λr=>?_
  have hm:=hm0
  refine gS (gR (gAl hm zeroValue36 rfl λaD w hm=>gE (gS (gR (gM rfl (gC hm rfl call87 (kr _ r_ bp0 v1p (hm.ow_rep 2 rfl) (hm.blk_cells 1 rfl).1) λaE aP w hm=>gAl hm zeroValue36 rfl λaF w hm=>gSN hm 0 sizeOf36 (et rfl (et rfl fK)) rfl λw hm=>gE (gS (gS (gR (gM rfl (gY (yG rfl (fI rfl rfl)) (gF oR rfl (gL hm 2 isAgg30 rfl ?_)))))))))))))
  obtain ⟨aG,aH,rfl,aQ⟩:=fE (hm.ow_rep 3 rfl)
  refine gY (yV kq rfl) (gB rfl (gE (gJg (λaA a w=>∃ (aB:Value),St 24 [(2,(pV aD)),(3,(pV aF))] w0 hz [blk aD [nV 0,(tV (mkS []))] 36,blk aF [nV aE.kind,(tV aE.text)] 36,blk bp0 [aB,(.bool (aA.2))] 51,ow [aB] aA.1] a w) (λaA=>?_) ?_)))
  ·refine gsd 11 rfl (λaL=>?_) λaL=>?_
   ·exact gct rfl (gR (gM rfl (gY (yG rfl (fI rfl rfl)) (gF mu rfl (gS1 hm 2 sizeOf4 rfl rfl λw hm=>gE (gZ λa hf=>⟨.slice aG r_.list.length aH,hf.sb rfl,hm.pk [1,0,2,3] rfl rfl⟩))))))
   refine gcf rfl (gR (gM rfl (gM rfl (gY (yG rfl (fI rfl rfl)) (gF oR rfl (gL hm 2 isAgg30 rfl (gb λaM aN=>?_)))))))
   obtain ⟨aI,aJ⟩:=p9.1 aN
   have aO:=(hm.ow_rep 3 rfl)
   obtain ⟨aK,aC⟩:∃ nv,nv=rJ (GT.sz (eu)) (.slice aG r_.list.length aH) (1:Int).toNat ((r_.list.length:Int):Int).toNat:=⟨_,rfl⟩
   refine gY (yG rfl (aa6 aC (ai9 (α:=eu) kq aO rfl rfl rfl aI _))) (gY (yG rfl (fI rfl rfl)) (gF oR rfl (gS1 hm 2 sizeOf30 (fS (yR aC aJ aI (hm.ow_rep 3 rfl))) rfl λw hm=>gE ?_)))
   replace hm:=hm.imp (c':=ow [aK] aM) 3 rfl (λF h0=>by rw [aC,← aJ];exact wR h0 (by omega) (by omega))
   exact gZ λa hf=>⟨aK,hf.sb rfl,hm.pk [1,0,2,3] rfl rfl⟩
  repeat clear hm
  rintro aA a w ⟨aB,hf,hm⟩
  exact gv hf (gS (gR (gY (yn (hm.blk_at 1 rfl) isAgg36 sizeOf36 rfl) (gSN hm 0 sizeOf36 (et rfl (et rfl fK)) rfl λw hm=>gE (gRt (grc 0 results86 hm rfl isAgg36 sizeOf36 ⟨aB,rfl,hm.pk [2,3] rfl rfl⟩))))))
theorem ku (w0:World) (hz:fU) (r_:ez) (bp0:Nat) (v1p:Value) (hm0:Mem w0 hz w0 [blk bp0 [v1p,(.bool (r_.bad))] 51,ow [v1p] r_.list]) :
    iF Tryz.prog 51 [(pV bp0)] w0 (fa r_) λr v w'=>∃ (x1:Value),v=(tV r.1)∧Mem w0 hz w' [blk bp0 [x1,(.bool (r.2.bad))] 51,ow [x1] r.2.list]:=by
  unfold fa
  refine iR func51 rfl λr=>?_
  have hm:=hm0
  refine gS (gR (gA rfl (gE (gS (gR (gM rfl ?_))))))
  obtain ⟨aE,hle,hm1,hsub,aF⟩:=hm.take2 (L1:=[_,_]) (L2:=[]) [0,1] [] (by decide) rfl rfl
  refine gCg rfl call86 (kF _ aE r_ bp0 v1p hm1 ) ?_
  rintro aB aH aI w ⟨aC,rfl,hB⟩
  replace hm:=aF _ _ hB;clear hB
  refine gAl hm zeroValue36 rfl λaD w hm=>gSN hm 0 sizeOf36 (et rfl (et rfl fK)) rfl λw hm=>gE (gS (gS (gR (gF mP rfl (gL hm 0 isAgg3 rfl (gB rfl (gE (gJ hm (λaA=>[(3,(pV aD))]) (λaA=>[blk aD [nV aB.1.kind,(tV aB.1.text)] 36,blk bp0 [aC,(.bool (aA))] 51,ow [aC] aB.2.list]) (λaA=>?_) ?_))))))))
  ·refine gsd 8 rfl (λaG=>?_) λaG=>?_
   ·exact gct rfl (gR (gM rfl (gY (yG rfl (fI rfl rfl)) (gF mu rfl (gS1 hm 1 sizeOf4 rfl rfl λw hm=>gE (gz hm [0,1,2] rfl))))))
   exact gcf rfl (gSk (gz hm [0,1,2] rfl))
  repeat clear hm
  intro aA w hm
  exact gS (gR (gF jk rfl (gL hm 0 isAgg9 rfl (gA rfl (gE (gRt (gr1 results51 rfl ⟨aC,rfl,hm.pk [1,2] rfl rfl⟩)))))))
theorem gQ (w0:World) (s_:Str) :
    iF Tryz.prog 36 [(tV s_)] w0 (fN s_) λr v w'=>v=(.agg #[nV r.kind,(tV r.text)])∧Below w0.heap.size w0 w':=by
  unfold fN
  refine iR func36 rfl λr=>?_
  have hm:=Mem.start w0
  exact gS (gR (gAl hm zeroValue36 rfl λaA w hm=>gE (gS (gR (gM rfl (gY (yG rfl (fY (vs:=[(0,(nV 3)),(1,(tV s_))]) (cs:=#[nV 3,(tV s_)]) rfl rfl (by kernel_rfl))) (gSN hm 0 sizeOf36 (et rfl (et rfl fK)) rfl λw hm=>gE (gRt (grc 0 results36 hm rfl isAgg36 sizeOf36 ⟨rfl,hm.below⟩)))))))))
theorem tg (w0:World) (w_:eu) :
    iF Tryz.prog 150 [(.agg #[nV w_.kind,(tV w_.text)])] w0 (mi w_) λr v w'=>v=(nV r)∧Below w0.heap.size w0 w':=by
  unfold mi
  refine iR func150 rfl λr=>?_
  have hm:=Mem.start w0
  refine gS (gR (gBx hm rfl λaB w hm=>gA rfl (gE (gS (gS (gR (gF mP rfl (gL hm 0 isAgg3 rfl (gB rfl (gE (gsd 5 rfl (λaA=>?_) λaA=>?_)))))))))))
  ·exact gct rfl (gS (gR (gA rfl (gE (gRt (gr1 results150 rfl ⟨rfl,hm.below⟩))))))
  exact gcf rfl (gSk (gS (gR (gF jk rfl (gL hm 0 isAgg9 rfl (gC hm rfl call71 (qP _ w_.text 255) λaC aD w hm=>gA rfl (gE (gRt (gr1 results150 rfl ⟨rfl,hm.below⟩)))))))))
theorem ou  : (∀ (r_:ez) (level:Int) (r:ey × ez),fD r_ level=some r→∀ (w0:World) (hz:fU) (bp0:Nat) (v1p:Value) (hm0:Mem w0 hz w0 [blk bp0 [v1p,(.bool (r_.bad))] 51,ow [v1p] r_.list]) (hG2:GT.rep hz [.slice (some ⟨2,0,none⟩) 1 1] [fA]),Con Tryz.prog 112 [(pV bp0),nV level] w0 (λv w'=>∃ (x1:Value) (x2:Value),v=(.agg #[nV r.1.op,nV r.1.n_,(tV r.1.name),x1])∧Mem w0 hz w' [blk bp0 [x2,(.bool (r.2.bad))] 51,ow [x1] r.1.kids,ow [x2] r.2.list])) ∧
    (∀ (r_:ez) (r:ey × ez),fk r_=some r→∀ (w0:World) (hz:fU) (bp0:Nat) (v1p:Value) (hm0:Mem w0 hz w0 [blk bp0 [v1p,(.bool (r_.bad))] 51,ow [v1p] r_.list]) (hG2:GT.rep hz [.slice (some ⟨2,0,none⟩) 1 1] [fA]),Con Tryz.prog 134 [(pV bp0)] w0 (λv w'=>∃ (x1:Value) (x2:Value),v=(.agg #[nV r.1.op,nV r.1.n_,(tV r.1.name),x1])∧Mem w0 hz w' [blk bp0 [x2,(.bool (r.2.bad))] 51,ow [x1] r.1.kids,ow [x2] r.2.list])):=by
  refine fD.mutual_partial_correctness  (motive_1:=λr_ level r=>∀ (w0:World) (hz:fU) (bp0:Nat) (v1p:Value) (hm0:Mem w0 hz w0 [blk bp0 [v1p,(.bool (r_.bad))] 51,ow [v1p] r_.list]) (hG2:GT.rep hz [.slice (some ⟨2,0,none⟩) 1 1] [fA]),Con Tryz.prog 112 [(pV bp0),nV level] w0 (λv w'=>∃ (x1:Value) (x2:Value),v=(.agg #[nV r.1.op,nV r.1.n_,(tV r.1.name),x1])∧Mem w0 hz w' [blk bp0 [x2,(.bool (r.2.bad))] 51,ow [x1] r.1.kids,ow [x2] r.2.list])) (motive_2:=λr_ r=>∀ (w0:World) (hz:fU) (bp0:Nat) (v1p:Value) (hm0:Mem w0 hz w0 [blk bp0 [v1p,(.bool (r_.bad))] 51,ow [v1p] r_.list]) (hG2:GT.rep hz [.slice (some ⟨2,0,none⟩) 1 1] [fA]),Con Tryz.prog 134 [(pV bp0)] w0 (λv w'=>∃ (x1:Value) (x2:Value),v=(.agg #[nV r.1.op,nV r.1.n_,(tV r.1.name),x1])∧Mem w0 hz w' [blk bp0 [x2,(.bool (r.2.bad))] 51,ow [x1] r.1.kids,ow [x2] r.2.list])) ?_ ?_
  · intro rec_1 rec_2 ih_1 ih_2 r_ level r hq w0 hz bp0 v1p hm0 hG2
    have pimpl_wordReader__expr_rec:∀ (w0:World) (hz:fU) (r_:ez) (bp0:Nat) (v1p:Value) (level:Int) (hm0:Mem w0 hz w0 [blk bp0 [v1p,(.bool (r_.bad))] 51,ow [v1p] r_.list]) (hG2:GT.rep hz [.slice (some ⟨2,0,none⟩) 1 1] [fA]) (r:ey × ez) (hq:rec_1 r_ level=some r),Con Tryz.prog 112 [(pV bp0),nV level] w0 (λv w'=>∃ (x1:Value) (x2:Value),v=(.agg #[nV r.1.op,nV r.1.n_,(tV r.1.name),x1])∧Mem w0 hz w' [blk bp0 [x2,(.bool (r.2.bad))] 51,ow [x1] r.1.kids,ow [x2] r.2.list]):=λw0 hz r_ bp0 v1p level hm0 hG2 r hq=>ih_1 r_ level r hq w0 hz bp0 v1p hm0 hG2
    have pimpl_wordReader__single_rec:∀ (w0:World) (hz:fU) (r_:ez) (bp0:Nat) (v1p:Value) (hm0:Mem w0 hz w0 [blk bp0 [v1p,(.bool (r_.bad))] 51,ow [v1p] r_.list]) (hG2:GT.rep hz [.slice (some ⟨2,0,none⟩) 1 1] [fA]) (r:ey × ez) (hq:rec_2 r_=some r),Con Tryz.prog 134 [(pV bp0)] w0 (λv w'=>∃ (x1:Value) (x2:Value),v=(.agg #[nV r.1.op,nV r.1.n_,(tV r.1.name),x1])∧Mem w0 hz w' [blk bp0 [x2,(.bool (r.2.bad))] 51,ow [x1] r.1.kids,ow [x2] r.2.list]):=λw0 hz r_ bp0 v1p hm0 hG2 r hq=>ih_2 r_ r hq w0 hz bp0 v1p hm0 hG2
    refine kI (ρ:=ey × ez) (R:=λr v w'=>∃ (x1:Value) (x2:Value),v=(.agg #[nV r.1.op,nV r.1.n_,(tV r.1.name),x1])∧Mem w0 hz w' [blk bp0 [x2,(.bool (r.2.bad))] 51,ow [x1] r.1.kids,ow [x2] r.2.list]) func112 rfl hq ?_
    have hm:=hm0
    refine gS (gR (gAl hm zeroValue86 rfl λaC w hm=>gE (gS (gS (gR (gM rfl (gB rfl (gE (gsd 10 rfl (λax=>?_) λax=>?_)))))))))
    ·refine gct rfl (gS (gR (gM rfl ?_)))
     obtain ⟨ay,hle,hm1,hsub,az⟩:=hm.take2 (L1:=[_,_]) (L2:=[_]) [1,2] [0] (by decide) rfl rfl
     refine gCg rfl call134 (pimpl_wordReader__single_rec _ ay r_ bp0 v1p hm1 (GT.mono hle hG2)) ?_
     rintro aD ba bb w ⟨aN,bS,rfl,hB⟩
     replace hm:=az _ _ hB;clear hB
     exact gSN hm 3 sizeOf86 (et rfl (et rfl (et rfl (et (fS (hm.ow_rep 1 rfl)) fK)))) rfl λw hm=>gE (gRt (grc 3 results112 hm rfl isAgg86 sizeOf86 ⟨aN,bS,rfl,hm.pk [0,1,2] rfl rfl⟩))
    refine gcf rfl (gSk (gS (gR (gM rfl (gM rfl (gB rfl ?_))))))
    obtain ⟨bA,hle,hm1,hsub,bB⟩:=hm.take2 (L1:=[_,_]) (L2:=[_]) [1,2] [0] (by decide) rfl rfl
    refine gCg rfl call112 (pimpl_wordReader__expr_rec _ bA r_ bp0 v1p (w64 (level+1)) hm1 (GT.mono hle hG2)) ?_
    rintro bC bT bc w ⟨aa,aj,rfl,hB⟩
    replace hm:=bB _ _ hB;clear hB
    refine gAl hm zeroValue86 rfl λaG w hm=>gSN hm 0 sizeOf86 (et rfl (et rfl (et rfl (et (fS (hm.ow_rep 2 rfl)) fK)))) rfl λw hm=>gE (gS ?_)
    obtain ⟨bD,bE,rfl,bd⟩:=fE (hm.ow_rep 3 rfl)
    obtain ⟨be,bf,rfl,cW⟩:=fE (hm.ow_rep 2 rfl)
    refine sn (λaO a w=>∃ (ab ac:Value),St 56 [(4,(pV aC)),(5,(pV aG))] w0 hz [blk aC [nV 0,nV 0,(tV (mkS [])),.slice none 0 0] 86,blk aG [nV aO.1,nV aO.2.1,(tV aO.2.2.1),ab] 86,ow [ab] aO.2.2.2.1,blk bp0 [ac,(.bool (aO.2.2.2.2.2))] 51,ow [ac] aO.2.2.2.2.1] a w) (λcX bg=>?_) ?_
    ·refine gBk (gMg (λaA a w=>∃ (aS aQ:Value),St 56 [(0,(pV bp0)),(1,(nV level)),(4,(pV aC)),(5,(pV aG))] w0 hz [blk bp0 [aS,(.bool (aA.2.1))] 51,ow [aS] aA.1,blk aC [nV 0,nV 0,(tV (mkS [])),.slice none 0 0] 86,blk aG [nV aA.2.2.1,nV aA.2.2.2.1,(tV aA.2.2.2.2.1),aQ] 86,ow [aQ] aA.2.2.2.2.2] a w) (λa hf=>⟨.slice bD bC.2.list.length bE,.slice be bC.1.kids.length bf,hf.sb rfl,hm.pk [1,3,4,0,2] rfl rfl⟩) ?_)
     repeat clear hm
     rintro bh ak aA a w ⟨aS,aQ,hf,hm⟩ bi al
     refine gv hf (gS (gS (gR (gM rfl (gY (yG rfl (fI rfl rfl)) (gF mu rfl (gL hm 0 isAgg4 rfl (gN rfl (gE (gsn 21 rfl (λbF=>?_) λbF=>?_))))))))))
     ·refine gct rfl (gSk (gBk (gS (gR (gA rfl (gE (gS (gS (gR ?_)))))))))
      obtain ⟨aR,bj,bU⟩:=pY hG2 rfl
      refine gY (yl isAgg153 ((iK.mono hm.lez (bj)).cell (j:=0) rfl) rfl) (gf rfl (λa hf=>aq8 (m:=(fA:jm fO)) hf hm underlying153 bU rfl rfl) ?_)
      rintro _ w ⟨aT,rfl,hm⟩
      refine gE ?_
      obtain ⟨aH,aI,rfl,bk⟩:=fE (hm.ow_rep 2 rfl)
      obtain ⟨aE,aF,rfl,cY⟩:=fE (hm.ow_rep 5 rfl)
      refine gJ hm (λaK=>[(0,(pV bp0)),(1,(nV level)),(4,(pV aC)),(5,(pV aG)),(6,(nV aK))]) (λaK=>[blk bp0 [.slice aH aA.1.length aI,(.bool (aA.2.1))] 51,ow [.slice aH aA.1.length aI] aA.1,blk aC [nV 0,nV 0,(tV (mkS [])),.slice none 0 0] 86,blk aG [nV aA.2.2.1,nV aA.2.2.2.1,(tV aA.2.2.2.2.1),.slice aE aA.2.2.2.2.2.length aF] 86,ow [.slice aE aA.2.2.2.2.2.length aF] aA.2.2.2.2.2]) (λaK=>?_) ?_
      ·refine gBk (bk3 (m:=(fA:jm fO)) bU (λae bG a w=>St 56 [(0,(pV bp0)),(1,(nV level)),(4,(pV aC)),(5,(pV aG)),(6,(nV bG)),(23,(pV aT))] w0 hz [blk bp0 [.slice aH aA.1.length aI,(.bool (aA.2.1))] 51,ow [.slice aH aA.1.length aI] aA.1,blk aC [nV 0,nV 0,(tV (mkS [])),.slice none 0 0] 86,blk aG [nV aA.2.2.1,nV aA.2.2.2.1,(tV aA.2.2.2.2.1),.slice aE aA.2.2.2.2.2.length aF] 86,ow [.slice aE aA.2.2.2.2.2.length aF] aA.2.2.2.2.2,itc hz aR aT ae] a w) (λa hf=>⟨hf.sb rfl,hm.pk [1,2,3,4,5,0] rfl rfl⟩) ?_ ?_)
       ·repeat clear hm
        rintro ae bG a w ⟨hf,hm⟩ hmo
        refine gv (m:=some ()) (r:=()) hf ?_ rfl
        refine gS (gR (gf rfl (λa hf=>ay3 5 hf hm rfl hmo rfl rfl) ?_))
        rintro _ w ⟨bH,bV,cZ,rfl,bW,bX,hm⟩
        refine gSw bW (gX rfl (gE (gS (gct rfl (gSk (gJ hm (λam=>[(0,(pV bp0)),(1,(nV level)),(4,(pV aC)),(5,(pV aG)),(6,(nV am)),(23,(pV aT))]) (λam=>[blk bp0 [.slice aH aA.1.length aI,(.bool (aA.2.1))] 51,ow [.slice aH aA.1.length aI] aA.1,blk aC [nV 0,nV 0,(tV (mkS [])),.slice none 0 0] 86,blk aG [nV aA.2.2.1,nV aA.2.2.2.1,(tV aA.2.2.2.2.1),.slice aE aA.2.2.2.2.2.length aF] 86,ow [.slice aE aA.2.2.2.2.2.length aF] aA.2.2.2.2.2,itc hz aR aT (Array.push ae bH)]) (λam=>?_) ?_))))))
        ·refine gBk (gS (gR (gY (yG rfl (ak7 5 hm rfl bX rfl rfl)) (gX rfl (gX rfl (gAl hm zeroValue152 rfl λc8 w hm=>gA rfl (gSN hm 0 sizeOf152 (et rfl (et rfl fK)) rfl λw hm=>gE (gS (gJ hm (λan=>[(0,(pV bp0)),(1,(nV level)),(4,(pV aC)),(5,(pV aG)),(6,(nV bG)),(7,(nV bV.1)),(23,(pV aT)),(40,(.bool (an)))]) (λan=>[blk bp0 [.slice aH aA.1.length aI,(.bool (aA.2.1))] 51,ow [.slice aH aA.1.length aI] aA.1,blk aC [nV 0,nV 0,(tV (mkS [])),.slice none 0 0] 86,blk aG [nV aA.2.2.1,nV aA.2.2.2.1,(tV aA.2.2.2.2.1),.slice aE aA.2.2.2.2.2.length aF] 86,ow [.slice aE aA.2.2.2.2.2.length aF] aA.2.2.2.2.2,itc hz aR aT (Array.push ae bH)]) (λan=>?_) ?_)))))))))
         ·refine gW (.p 0 (.p 2 (.e 1 (.p 3 (.p 4 (.p 5 (.p 7 (.q 8 (.e 6 (.e 9 (.p 10 (.p 11 .fin)) .nil) .nil)))))) .nil))) [6] [0, 2, 3, 4, 5, 7, 10, 11] hm [0, 1, 2, 3, 4, 5, 6] [_, _, _, _, _, _, _] rfl mxo (by kernel_rfl) (fun _ _ _ h => h.2) fun w hm hS => tP rfl (fun w => yF ap0 rfl) (tP rfl (fun w => yM rfl) (tO (tY rfl (yL hm 0 isAgg3 rfl) (tAn rfl (tP rfl (fun w => yB rfl) (tP rfl (fun w => yM rfl) (gsd 33 rfl (fun bl => ?_) fun bl => ?_)))))))
          ·refine tP rfl (λw=>yM rfl) (tP rfl (λw=>yF aj3 rfl) (tQ rfl hS (λw hm=>yL hm 0 isAgg9 rfl) (tO (gb λc9 bm=>tf rfl rfl (λa hf=>fo hf rfl call87 rfl (kr _ (⟨aA.1,aA.2.1⟩:ez) bp0 (.slice aH aA.1.length aI) (hm.ow_rep 2 rfl) (hm.blk_cells 1 rfl).1 _ bm)) ?_))))
           rintro ca w ⟨rfl,hB⟩
           replace hm:=hm.below' hB;clear hB
           refine tAk hm [0,1,2,3,4,5,6] rfl λhS=>tO (gb λcb bo=>tf rfl rfl (λa hf=>fo hf rfl call36 rfl (gQ _ bV.2.sign _ bo)) ?_)
           rintro cc w ⟨rfl,hB⟩
           replace hm:=hm.below' hB;clear hB
           exact tAn rfl (tP rfl (λw=>yG rfl (yD underlying36 (by kernel_rfl) (by kernel_rfl) (by decide) rfl rfl isAgg3 isAgg9 underlying3 underlying9 rfl rfl rfl)) (tP rfl (λw=>yKt rfl) (tE (gz hm [1,2,3,4,5,6] rfl))))
          exact tPo rfl rfl (tPo rfl rfl (tQo rfl hS rfl (tO (tEo rfl rfl (tAs hS (tO (tEo rfl rfl (tAn rfl (tPo rfl rfl (tP rfl (λw=>yKf rfl) (tE (gz hm [1,2,3,4,5,6] rfl))))))))))))
         repeat clear hm
         intro an w hm
         refine gJ hm (λao=>[(0,(pV bp0)),(1,(nV level)),(4,(pV aC)),(5,(pV aG)),(6,(nV ao)),(23,(pV aT))]) (λao=>[blk bp0 [.slice aH aA.1.length aI,(.bool (aA.2.1))] 51,ow [.slice aH aA.1.length aI] aA.1,blk aC [nV 0,nV 0,(tV (mkS [])),.slice none 0 0] 86,blk aG [nV aA.2.2.1,nV aA.2.2.2.1,(tV aA.2.2.2.2.1),.slice aE aA.2.2.2.2.2.length aF] 86,ow [.slice aE aA.2.2.2.2.2.length aF] aA.2.2.2.2.2,itc hz aR aT (Array.push ae bH)]) (λao=>?_) ?_
         ·refine gs 40 rfl (λbp=>?_) λbp=>?_
          ·exact gct rfl (gR (gM rfl (gA rfl (gE (gz hm [0,1,2,3,4,5] rfl)))))
          exact gcf rfl (gSk (gz hm [0,1,2,3,4,5] rfl))
         repeat clear hm
         intro ao w hm
         exact gz hm [0,1,2,3,4,5] rfl
        repeat clear hm
        intro am w hm
        exact gZr bX bW λa hf=>⟨hf.sb rfl,hm.pk [0,1,2,3,4,5] rfl rfl⟩
       repeat clear hm
       rintro cd ce a w ⟨hf,hm⟩ hno hk
       refine gv hf ?_ hk
       exact gS (gR (gY (yG rfl (at0 5 hm rfl hno rfl rfl)) (gX rfl (gE (gS (gcf rfl (gXt (gHh (gz hm [0,1,2,3,4] rfl)))))))))
      repeat clear hm
      intro aK w hm
      refine gS (gS (gR (gM rfl (gB rfl (gE (gsd 43 rfl (λbJ=>?_) λbJ=>?_))))))
      ·exact gct rfl (gS (gR (gY (yn (hm.blk_at 3 rfl) isAgg86 sizeOf86 rfl) (gSN hm 2 sizeOf86 (et rfl (et rfl (et rfl (et rfl fK)))) rfl λw hm=>gE (gRt (gLp al ak (gl (gEr bg (grc 2 results112 hm rfl isAgg86 sizeOf86 ⟨.slice aE aA.2.2.2.2.2.length aF,.slice aH aA.1.length aI,rfl,hm.pk [0,4,1] rfl rfl⟩)))))))))
      refine gcf rfl (gSk (gS (gR (gM rfl ?_))))
      obtain ⟨bK,hle,hm1,hsub,bL⟩:=hm.take2 (L1:=[_,_]) (L2:=[_,_,_]) [0,1] [2,3,4] (by decide) rfl rfl
      refine gCg rfl call86 (kF _ bK (⟨aA.1,aA.2.1⟩:ez) bp0 (.slice aH aA.1.length aI) hm1 ) ?_
      rintro aJ bY af w ⟨bM,rfl,hB⟩
      replace hm:=bL _ _ hB;clear hB
      refine gE (gJg (λaP a w=>∃ (aV aX:Value),St 56 [(0,(pV bp0)),(1,(nV level)),(4,(pV aC)),(5,(pV aG))] w0 hz [blk bp0 [aV,(.bool (aP.2.1))] 51,ow [aV] aP.1,blk aC [nV 0,nV 0,(tV (mkS [])),.slice none 0 0] 86,blk aG [nV aK,nV 0,(tV (mkS [])),aX] 86,ow [aX] aP.2.2] a w) (λaP=>?_) ?_)
      ·refine gW (.p 0 (.p 2 (.p 3 (.p 4 (.e 1 (.e 5 (.e 6 (.p 7 (.e 8 .fin .nil)) .nil) .nil) (.e 5 (.e 1 (.e 6 (.p 7 (.e 8 .fin .nil)) .nil) .nil) .nil)))))) [] [0, 2, 3, 4, 7] hm [0, 1, 2, 3, 4] [_, _, _, _, _] rfl mxo (by kernel_rfl) (fun _ _ _ h => h.2) fun w hm hS => tP rfl (fun w => yM rfl) (tP rfl (fun w => yM rfl) (tP rfl (fun w => yM rfl) (tP rfl (fun w => yB rfl) (gb fun aB bZ => tMo ?_ ?_))))
       ·refine tY rfl (yn (hm.blk_at 3 rfl) isAgg86 sizeOf86 rfl) (tAn rfl (tO ?_))
        obtain ⟨bN,hle,hm1,hsub,bO⟩:=hm.take2 (L1:=[_,_]) (L2:=[_,_,_]) [0,1] [2,3,4] (by decide) rfl rfl
        refine tf rfl rfl (λa hf=>fo hf rfl call112 rfl (pimpl_wordReader__expr_rec _ bN aJ.2 bp0 bM (w64 (level+1)) hm1 (GT.mono hle hG2) _ bZ)) ?_
        rintro bq w ⟨aY,aZ,rfl,hB⟩
        replace hm:=bO _ _ hB;clear hB
        refine tAn rfl (tO (tf rfl rfl (λa hf=>fL (vs:=#[(0,(.agg #[nV aA.2.2.1,nV aA.2.2.2.1,(tV aA.2.2.2.2.1),.slice aE aA.2.2.2.2.2.length aF])),(1,(.agg #[nV aB.1.op,nV aB.1.n_,(tV aB.1.name),aY]))]) (cs:=[nV aA.2.2.1,nV aA.2.2.2.1,(tV aA.2.2.2.2.1),.slice aE aA.2.2.2.2.2.length aF,nV aB.1.op,nV aB.1.n_,(tV aB.1.name),aY]) jl hf hm rfl rfl (by kernel_rfl) rfl rfl) ?_))
        rintro _ w ⟨ag,rfl,hm⟩
        replace hm:=hm.els_nil (α:=ey)
        replace hm:Mem w0 hz _ [els [] ([]:List ey),blk ag [nV aA.2.2.1,nV aA.2.2.2.1,(tV aA.2.2.2.2.1),.slice aE aA.2.2.2.2.2.length aF,nV aB.1.op,nV aB.1.n_,(tV aB.1.name),aY] 86,blk bp0 [aZ,(.bool (aB.2.bad))] 51,ow [nV aB.1.op,nV aB.1.n_,(tV aB.1.name),aY] (aB.1:ey),ow [aZ] aB.2.list,blk aC [nV 0,nV 0,(tV (mkS [])),.slice none 0 0] 86,blk aG [nV aA.2.2.1,nV aA.2.2.2.1,(tV aA.2.2.2.2.1),.slice aE aA.2.2.2.2.2.length aF] 86,ow [.slice aE aA.2.2.2.2.2.length aF] aA.2.2.2.2.2]:=iM aB.1 hm 3 rfl
        replace hm:=(hm.els_cons 0 3 (by decide) rfl rfl).pk (L':=[_,_,_,_,_,_,_]) [0,1,2,4,5,6,7] rfl rfl
        replace hm:Mem w0 hz _ [els [nV aB.1.op,nV aB.1.n_,(tV aB.1.name),aY] ([aB.1]:List ey),blk ag [nV aA.2.2.1,nV aA.2.2.2.1,(tV aA.2.2.2.2.1),.slice aE aA.2.2.2.2.2.length aF,nV aB.1.op,nV aB.1.n_,(tV aB.1.name),aY] 86,blk bp0 [aZ,(.bool (aB.2.bad))] 51,ow [aZ] aB.2.list,blk aC [nV 0,nV 0,(tV (mkS [])),.slice none 0 0] 86,blk aG [nV aA.2.2.1,nV aA.2.2.2.1,(tV aA.2.2.2.2.1),.slice aE aA.2.2.2.2.2.length aF] 86,ow [nV aA.2.2.1,nV aA.2.2.2.1,(tV aA.2.2.2.2.1),.slice aE aA.2.2.2.2.2.length aF] ((⟨aA.2.2.1,aA.2.2.2.1,aA.2.2.2.2.1,aA.2.2.2.2.2⟩:ey):ey)]:=lC aA.2.2.1 aA.2.2.2.1 aA.2.2.2.2.1 hm 6 rfl
        replace hm:=(hm.els_cons 0 6 (by decide) rfl rfl).pk (L':=[_,_,_,_,_,_]) [0,1,2,3,4,5] rfl rfl
        replace hm:=(hm.lit_els 1 0 (by decide) rfl rfl rfl rfl).pk (L':=[_,_,_,_,_]) [1,2,3,4,5] rfl rfl
        refine tAn rfl (tP rfl (λw=>yG rfl (fY (vs:=[(0,(nV aK)),(3,(sV ag 0 2 2))]) (cs:=#[nV aK,nV 0,(tV (mkS [])),sV ag 0 2 2]) rfl rfl (by kernel_rfl))) (tO (tf0 rfl rfl (λa hf=>j7 4 hf hm rfl sizeOf86 rfl rfl rfl (et rfl (et rfl (et rfl (et rfl fK)))) rfl rfl) ?_)))
        rintro _ w hm
        exact tAn rfl (tE (gZ λa hf=>⟨aZ,sV ag 0 2 2,hf.sb rfl,hm.pk [1,2,3,4,0] rfl rfl⟩))
       refine tO ?_
       obtain ⟨bP,hle,hm1,hsub,bQ⟩:=hm.take2 (L1:=[_,_]) (L2:=[_,_,_]) [0,1] [2,3,4] (by decide) rfl rfl
       refine tf rfl rfl (λa hf=>fo hf rfl call112 rfl (pimpl_wordReader__expr_rec _ bP aJ.2 bp0 bM (w64 (level+1)) hm1 (GT.mono hle hG2) _ bZ)) ?_
       rintro b8 w ⟨a8,ah,rfl,hB⟩
       replace hm:=bQ _ _ hB;clear hB
       refine tAn rfl (tO (tY rfl (yn (hm.blk_at 4 rfl) isAgg86 sizeOf86 rfl) (tAn rfl (tO (tf rfl rfl (λa hf=>fL (vs:=#[(0,(.agg #[nV aA.2.2.1,nV aA.2.2.2.1,(tV aA.2.2.2.2.1),.slice aE aA.2.2.2.2.2.length aF])),(1,(.agg #[nV aB.1.op,nV aB.1.n_,(tV aB.1.name),a8]))]) (cs:=[nV aA.2.2.1,nV aA.2.2.2.1,(tV aA.2.2.2.2.1),.slice aE aA.2.2.2.2.2.length aF,nV aB.1.op,nV aB.1.n_,(tV aB.1.name),a8]) jl hf hm rfl rfl (by kernel_rfl) rfl rfl) ?_)))))
       rintro _ w ⟨ai,rfl,hm⟩
       replace hm:=hm.els_nil (α:=ey)
       replace hm:Mem w0 hz _ [els [] ([]:List ey),blk ai [nV aA.2.2.1,nV aA.2.2.2.1,(tV aA.2.2.2.2.1),.slice aE aA.2.2.2.2.2.length aF,nV aB.1.op,nV aB.1.n_,(tV aB.1.name),a8] 86,blk bp0 [ah,(.bool (aB.2.bad))] 51,ow [nV aB.1.op,nV aB.1.n_,(tV aB.1.name),a8] (aB.1:ey),ow [ah] aB.2.list,blk aC [nV 0,nV 0,(tV (mkS [])),.slice none 0 0] 86,blk aG [nV aA.2.2.1,nV aA.2.2.2.1,(tV aA.2.2.2.2.1),.slice aE aA.2.2.2.2.2.length aF] 86,ow [.slice aE aA.2.2.2.2.2.length aF] aA.2.2.2.2.2]:=iM aB.1 hm 3 rfl
       replace hm:=(hm.els_cons 0 3 (by decide) rfl rfl).pk (L':=[_,_,_,_,_,_,_]) [0,1,2,4,5,6,7] rfl rfl
       replace hm:Mem w0 hz _ [els [nV aB.1.op,nV aB.1.n_,(tV aB.1.name),a8] ([aB.1]:List ey),blk ai [nV aA.2.2.1,nV aA.2.2.2.1,(tV aA.2.2.2.2.1),.slice aE aA.2.2.2.2.2.length aF,nV aB.1.op,nV aB.1.n_,(tV aB.1.name),a8] 86,blk bp0 [ah,(.bool (aB.2.bad))] 51,ow [ah] aB.2.list,blk aC [nV 0,nV 0,(tV (mkS [])),.slice none 0 0] 86,blk aG [nV aA.2.2.1,nV aA.2.2.2.1,(tV aA.2.2.2.2.1),.slice aE aA.2.2.2.2.2.length aF] 86,ow [nV aA.2.2.1,nV aA.2.2.2.1,(tV aA.2.2.2.2.1),.slice aE aA.2.2.2.2.2.length aF] ((⟨aA.2.2.1,aA.2.2.2.1,aA.2.2.2.2.1,aA.2.2.2.2.2⟩:ey):ey)]:=lC aA.2.2.1 aA.2.2.2.1 aA.2.2.2.2.1 hm 6 rfl
       replace hm:=(hm.els_cons 0 6 (by decide) rfl rfl).pk (L':=[_,_,_,_,_,_]) [0,1,2,3,4,5] rfl rfl
       replace hm:=(hm.lit_els 1 0 (by decide) rfl rfl rfl rfl).pk (L':=[_,_,_,_,_]) [1,2,3,4,5] rfl rfl
       refine tAn rfl (tP rfl (λw=>yG rfl (fY (vs:=[(0,(nV aK)),(3,(sV ai 0 2 2))]) (cs:=#[nV aK,nV 0,(tV (mkS [])),sV ai 0 2 2]) rfl rfl (by kernel_rfl))) (tO (tf0 rfl rfl (λa hf=>j7 4 hf hm rfl sizeOf86 rfl rfl rfl (et rfl (et rfl (et rfl (et rfl fK)))) rfl rfl) ?_)))
       rintro _ w hm
       exact tAn rfl (tE (gZ λa hf=>⟨ah,sV ai 0 2 2,hf.sb rfl,hm.pk [1,2,3,4,0] rfl rfl⟩))
      repeat clear hm
      rintro aP a w ⟨aV,aX,hf,hm⟩
      exact gv hf (gZe λa hf=>⟨aV,aX,hf.sb rfl,hm.pk [0,1,2,3,4] rfl rfl⟩)
     exact gcf rfl (gXt (gHh (gLp al ak (gr (gZe λa hf=>⟨aQ,aS,hf.sb rfl,hm.pk [2,3,4,0,1] rfl rfl⟩)))))
    repeat clear hm
    rintro aO a w ⟨ab,ac,hf,hm⟩
    exact gv hf (gS (gR (gY (yn (hm.blk_at 1 rfl) isAgg86 sizeOf86 rfl) (gSN hm 0 sizeOf86 (et rfl (et rfl (et rfl (et (fS (hm.ow_rep 2 rfl)) fK)))) rfl λw hm=>gE (gRt (grc 0 results112 hm rfl isAgg86 sizeOf86 ⟨ab,ac,rfl,hm.pk [3,2,4] rfl rfl⟩))))))
  · intro rec_1 rec_2 ih_1 ih_2 r_ r hq w0 hz bp0 v1p hm0 hG2
    have pimpl_wordReader__expr_rec:∀ (w0:World) (hz:fU) (r_:ez) (bp0:Nat) (v1p:Value) (level:Int) (hm0:Mem w0 hz w0 [blk bp0 [v1p,(.bool (r_.bad))] 51,ow [v1p] r_.list]) (hG2:GT.rep hz [.slice (some ⟨2,0,none⟩) 1 1] [fA]) (r:ey × ez) (hq:rec_1 r_ level=some r),Con Tryz.prog 112 [(pV bp0),nV level] w0 (λv w'=>∃ (x1:Value) (x2:Value),v=(.agg #[nV r.1.op,nV r.1.n_,(tV r.1.name),x1])∧Mem w0 hz w' [blk bp0 [x2,(.bool (r.2.bad))] 51,ow [x1] r.1.kids,ow [x2] r.2.list]):=λw0 hz r_ bp0 v1p level hm0 hG2 r hq=>ih_1 r_ level r hq w0 hz bp0 v1p hm0 hG2
    have pimpl_wordReader__single_rec:∀ (w0:World) (hz:fU) (r_:ez) (bp0:Nat) (v1p:Value) (hm0:Mem w0 hz w0 [blk bp0 [v1p,(.bool (r_.bad))] 51,ow [v1p] r_.list]) (hG2:GT.rep hz [.slice (some ⟨2,0,none⟩) 1 1] [fA]) (r:ey × ez) (hq:rec_2 r_=some r),Con Tryz.prog 134 [(pV bp0)] w0 (λv w'=>∃ (x1:Value) (x2:Value),v=(.agg #[nV r.1.op,nV r.1.n_,(tV r.1.name),x1])∧Mem w0 hz w' [blk bp0 [x2,(.bool (r.2.bad))] 51,ow [x1] r.1.kids,ow [x2] r.2.list]):=λw0 hz r_ bp0 v1p hm0 hG2 r hq=>ih_2 r_ r hq w0 hz bp0 v1p hm0 hG2
    refine kI (ρ:=ey × ez) (R:=λr v w'=>∃ (x1:Value) (x2:Value),v=(.agg #[nV r.1.op,nV r.1.n_,(tV r.1.name),x1])∧Mem w0 hz w' [blk bp0 [x2,(.bool (r.2.bad))] 51,ow [x1] r.1.kids,ow [x2] r.2.list]) func134 rfl hq ?_
    have hm:=hm0
    refine gS (gR (gAl hm zeroValue86 rfl λaC w hm=>gE (gS (gR (gM rfl ?_)))))
    obtain ⟨ay,hle,hm1,hsub,az⟩:=hm.take2 (L1:=[_,_]) (L2:=[_]) [1,2] [0] (by decide) rfl rfl
    refine gCg rfl call86 (kF _ ay r_ bp0 v1p hm1 ) ?_
    rintro aD ba bb w ⟨aN,rfl,hB⟩
    replace hm:=az _ _ hB;clear hB
    refine gAl hm zeroValue36 rfl λaG w hm=>gSN hm 0 sizeOf36 (et rfl (et rfl fK)) rfl λw hm=>gE (gS (gBk (gS (gR (gM rfl (gY (yG rfl (fI rfl rfl)) (gF mu rfl (gL hm 1 isAgg4 rfl (gA rfl (gE (gs 8 rfl (λax=>?_) λax=>?_)))))))))))
    ·refine gct rfl (gS (gR (gY (yG rfl (fY (vs := []) (cs := #[nV 0, nV 0, (tV (mkS [])), .slice none 0 0]) rfl rfl (by kernel_rfl))) (gSN hm 3 sizeOf86 (et rfl (et rfl (et rfl (et rfl fK)))) rfl fun w hm => gE (gRt ?_)))))
     replace hm:=hm.nilow (α:=ey)
     exact grc 4 results134 hm rfl isAgg86 sizeOf86 ⟨.slice none 0 0,aN,rfl,hm.pk [2,0,3] rfl rfl⟩
    refine gcf rfl (gS (gW (.q 0 (.e 1 (.p 2 (.p 3 .fin)) .nil)) [1] [2,3] hm [0,1,2,3] [blk aG [nV aD.1.kind,(tV aD.1.text)] 36,blk bp0 [aN,(.bool (aD.2.bad))] 51,ow [aN] aD.2.list,blk aC [nV 0,nV 0,(tV (mkS [])),.slice none 0 0] 86] rfl mxo (by kernel_rfl) (λ_ _ _ h=>h.2) λw hm hS=>tQ rfl hS (λw hm=>yn (hm.blk_at 0 rfl) isAgg36 sizeOf36 rfl) (tO (gb λbC bT=>tf rfl rfl (λa hf=>fo hf rfl call36 rfl (gQ _ (mkS [33]) _ bT)) ?_))))
    rintro bS w ⟨rfl,hB⟩
    replace hm:=hm.below' hB;clear hB
    refine tAk hm [0,1,2,3] rfl λhS=>tP rfl (λw=>yG rfl (yD underlying36 (by kernel_rfl) (by kernel_rfl) (by decide) rfl rfl isAgg3 isAgg9 underlying3 underlying9 rfl rfl rfl)) (tP rfl (λw=>yA rfl) (tE (gs 14 rfl (λbr=>?_) λbr=>?_)))
    ·refine gct rfl (gS (gR (gM rfl ?_)))
     obtain ⟨bA,hle,hm1,hsub,bB⟩:=hm.take2 (L1:=[_,_]) (L2:=[_,_]) [1,2] [0,3] (by decide) rfl rfl
     refine gCg rfl call134 (pimpl_wordReader__single_rec _ bA aD.2 bp0 aN hm1 (GT.mono hle hG2)) ?_
     rintro aL cf bc w ⟨aa,aj,rfl,hB⟩
     replace hm:=bB _ _ hB;clear hB
     refine gf rfl (λa hf=>fL (vs:=#[(0,(.agg #[nV aL.1.op,nV aL.1.n_,(tV aL.1.name),aa]))]) (cs:=[nV aL.1.op,nV aL.1.n_,(tV aL.1.name),aa]) jl hf hm rfl rfl (by kernel_rfl) rfl rfl) ?_
     rintro _ w ⟨aq,rfl,hm⟩
     replace hm:=hm.els_nil (α:=ey)
     replace hm:Mem w0 hz _ [els [] ([]:List ey),blk aq [nV aL.1.op,nV aL.1.n_,(tV aL.1.name),aa] 86,blk bp0 [aj,(.bool (aL.2.bad))] 51,ow [nV aL.1.op,nV aL.1.n_,(tV aL.1.name),aa] (aL.1:ey),ow [aj] aL.2.list,blk aG [nV aD.1.kind,(tV aD.1.text)] 36,blk aC [nV 0,nV 0,(tV (mkS [])),.slice none 0 0] 86]:=iM aL.1 hm 3 rfl
     replace hm:=(hm.els_cons 0 3 (by decide) rfl rfl).pk (L':=[_,_,_,_,_,_]) [0,1,2,4,5,6] rfl rfl
     replace hm:=(hm.lit_els 1 0 (by decide) rfl rfl rfl rfl).pk (L':=[_,_,_,_,_]) [1,2,3,4,5] rfl rfl
     exact gY (yG rfl (fY (vs:=[(0,(nV 11)),(3,(sV aq 0 1 1))]) (cs:=#[nV 11,nV 0,(tV (mkS [])),sV aq 0 1 1]) rfl rfl (by kernel_rfl))) (gSN hm 4 sizeOf86 (et rfl (et rfl (et rfl (et rfl fK)))) rfl λw hm=>gE (gRt (grc 4 results134 hm rfl isAgg86 sizeOf86 ⟨sV aq 0 1 1,aj,rfl,hm.pk [1,0,2] rfl rfl⟩)))
    refine gcf rfl (gS (gW (.q 0 (.e 1 (.p 2 (.p 3 .fin)) .nil)) [1] [2,3] hm [0,1,2,3] [blk aG [nV aD.1.kind,(tV aD.1.text)] 36,blk bp0 [aN,(.bool (aD.2.bad))] 51,ow [aN] aD.2.list,blk aC [nV 0,nV 0,(tV (mkS [])),.slice none 0 0] 86] rfl mxo (by kernel_rfl) (λ_ _ _ h=>h.2) λw hm hS=>tQ rfl hS (λw hm=>yn (hm.blk_at 0 rfl) isAgg36 sizeOf36 rfl) (tO (gb λcg bs=>tf rfl rfl (λa hf=>fo hf rfl call36 rfl (gQ _ (mkS [64]) _ bs)) ?_))))
    rintro ab w ⟨rfl,hB⟩
    replace hm:=hm.below' hB;clear hB
    refine tAk hm [0,1,2,3] rfl λhS=>tP rfl (λw=>yG rfl (yD underlying36 (by kernel_rfl) (by kernel_rfl) (by decide) rfl rfl isAgg3 isAgg9 underlying3 underlying9 rfl rfl rfl)) (tP rfl (λw=>yA rfl) (tE (gs 22 rfl (λbt=>?_) λbt=>?_)))
    ·refine gct rfl (gS (gR (gM rfl ?_)))
     obtain ⟨bu,hle,hm1,hsub,bv⟩:=hm.take2 (L1:=[_,_]) (L2:=[_,_]) [1,2] [0,3] (by decide) rfl rfl
     refine gCg rfl call134 (pimpl_wordReader__single_rec _ bu aD.2 bp0 aN hm1 (GT.mono hle hG2)) ?_
     rintro aM cj ac w ⟨ar,bR,rfl,hB⟩
     replace hm:=bv _ _ hB;clear hB
     refine gf rfl (λa hf=>fL (vs:=#[(0,(.agg #[nV aM.1.op,nV aM.1.n_,(tV aM.1.name),ar]))]) (cs:=[nV aM.1.op,nV aM.1.n_,(tV aM.1.name),ar]) jl hf hm rfl rfl (by kernel_rfl) rfl rfl) ?_
     rintro _ w ⟨au,rfl,hm⟩
     replace hm:=hm.els_nil (α:=ey)
     replace hm:Mem w0 hz _ [els [] ([]:List ey),blk au [nV aM.1.op,nV aM.1.n_,(tV aM.1.name),ar] 86,blk bp0 [bR,(.bool (aM.2.bad))] 51,ow [nV aM.1.op,nV aM.1.n_,(tV aM.1.name),ar] (aM.1:ey),ow [bR] aM.2.list,blk aG [nV aD.1.kind,(tV aD.1.text)] 36,blk aC [nV 0,nV 0,(tV (mkS [])),.slice none 0 0] 86]:=iM aM.1 hm 3 rfl
     replace hm:=(hm.els_cons 0 3 (by decide) rfl rfl).pk (L':=[_,_,_,_,_,_]) [0,1,2,4,5,6] rfl rfl
     replace hm:=(hm.lit_els 1 0 (by decide) rfl rfl rfl rfl).pk (L':=[_,_,_,_,_]) [1,2,3,4,5] rfl rfl
     exact gY (yG rfl (fY (vs:=[(0,(nV 12)),(3,(sV au 0 1 1))]) (cs:=#[nV 12,nV 0,(tV (mkS [])),sV au 0 1 1]) rfl rfl (by kernel_rfl))) (gSN hm 4 sizeOf86 (et rfl (et rfl (et rfl (et rfl fK)))) rfl λw hm=>gE (gRt (grc 4 results134 hm rfl isAgg86 sizeOf86 ⟨sV au 0 1 1,bR,rfl,hm.pk [1,0,2] rfl rfl⟩)))
    refine gcf rfl (gS (gW (.q 0 (.e 1 (.p 2 (.p 3 .fin)) .nil)) [1] [2,3] hm [0,1,2,3] [blk aG [nV aD.1.kind,(tV aD.1.text)] 36,blk bp0 [aN,(.bool (aD.2.bad))] 51,ow [aN] aD.2.list,blk aC [nV 0,nV 0,(tV (mkS [])),.slice none 0 0] 86] rfl mxo (by kernel_rfl) (λ_ _ _ h=>h.2) λw hm hS=>tQ rfl hS (λw hm=>yn (hm.blk_at 0 rfl) isAgg36 sizeOf36 rfl) (tO (gb λck bw=>tf rfl rfl (λa hf=>fo hf rfl call36 rfl (gQ _ (mkS [40]) _ bw)) ?_))))
    rintro cl w ⟨rfl,hB⟩
    replace hm:=hm.below' hB;clear hB
    refine tAk hm [0,1,2,3] rfl λhS=>tP rfl (λw=>yG rfl (yD underlying36 (by kernel_rfl) (by kernel_rfl) (by decide) rfl rfl isAgg3 isAgg9 underlying3 underlying9 rfl rfl rfl)) (tP rfl (λw=>yA rfl) (tE (gs 30 rfl (λbz=>?_) λbz=>?_)))
    ·refine gct rfl (gS (gR (gM rfl ?_)))
     obtain ⟨cA,hle,hm1,hsub,cC⟩:=hm.take2 (L1:=[_,_]) (L2:=[_,_]) [1,2] [0,3] (by decide) rfl rfl
     refine gCg rfl call112 (pimpl_wordReader__expr_rec _ cA aD.2 bp0 aN 1 hm1 (GT.mono hle hG2)) ?_
     rintro cD cm cn w ⟨cE,cF,rfl,hB⟩
     replace hm:=cC _ _ hB;clear hB
     refine gAl hm zeroValue86 rfl λco w hm=>gSN hm 0 sizeOf86 (et rfl (et rfl (et rfl (et (fS (hm.ow_rep 2 rfl)) fK)))) rfl λw hm=>gE (gS (gR (gM rfl ?_)))
     obtain ⟨cG,hle,hm1,hsub,cH⟩:=hm.take2 (L1:=[_,_]) (L2:=[_,_,_,_]) [1,3] [0,2,4,5] (by decide) rfl rfl
     refine gCg rfl call50 (gm _ cG cD.2 bp0 cF 3 (mkS [41]) hm1 ) ?_
     rintro cq cr ct w ⟨cI,rfl,hB⟩
     replace hm:=cH _ _ hB;clear hB
     exact gE (gS (gR (gY (yn (hm.blk_at 2 rfl) isAgg86 sizeOf86 rfl) (gSN hm 5 sizeOf86 (et rfl (et rfl (et rfl (et (fS (hm.ow_rep 3 rfl)) fK)))) rfl λw hm=>gE (gRt (grc 5 results134 hm rfl isAgg86 sizeOf86 ⟨cE,cI,rfl,hm.pk [0,3,1] rfl rfl⟩))))))
    refine gcf rfl (gS (gR (gF mP rfl (gL hm 0 isAgg3 rfl (gB rfl (gA rfl (gE (gsd 39 rfl (λcJ=>?_) λcJ=>?_))))))))
    ·refine gct rfl (gS (gR (gY (yn (hm.blk_at 0 rfl) isAgg36 sizeOf36 rfl) (gC hm rfl call150 (tg _ aD.1) fun b9 cu w hm => gY (yG rfl (fY (vs := [(0, (nV 1)), (1, (nV b9))]) (cs := #[nV 1, nV b9, (tV (mkS [])), .slice none 0 0]) rfl rfl (by kernel_rfl))) (gSN hm 3 sizeOf86 (et rfl (et rfl (et rfl (et rfl fK)))) rfl fun w hm => gE (gRt ?_))))))
     replace hm:=hm.nilow (α:=ey)
     exact grc 4 results134 hm rfl isAgg86 sizeOf86 ⟨.slice none 0 0,aN,rfl,hm.pk [2,0,3] rfl rfl⟩
    refine gcf rfl (gS (gR (gF mP rfl (gL hm 0 isAgg3 rfl (gB rfl (gA rfl (gE (gsd 46 rfl (λcK=>?_) λcK=>?_))))))))
    ·refine gct rfl (gS (gR (gM rfl (gY (yG rfl (fI rfl rfl)) (gF mu rfl (gS1 hm 1 sizeOf4 rfl rfl fun w hm => gE (gS (gR (gY (yG rfl (fY (vs := []) (cs := #[nV 0, nV 0, (tV (mkS [])), .slice none 0 0]) rfl rfl (by kernel_rfl))) (gSN hm 3 sizeOf86 (et rfl (et rfl (et rfl (et rfl fK)))) rfl fun w hm => gE (gRt ?_)))))))))))
     replace hm:=hm.nilow (α:=ey)
     exact grc 4 results134 hm rfl isAgg86 sizeOf86 ⟨.slice none 0 0,aN,rfl,hm.pk [2,0,3] rfl rfl⟩
    refine gcf rfl (gS (gR (gM rfl ?_)))
    obtain ⟨cL,hle,hm1,hsub,cN⟩:=hm.take2 (L1:=[_,_]) (L2:=[_,_]) [1,2] [0,3] (by decide) rfl rfl
    refine gCg rfl call52 (jA _ cL aD.2 bp0 aN 3 (mkS [40]) hm1 ) ?_
    rintro cO cv cw w ⟨cP,rfl,hB⟩
    replace hm:=cN _ _ hB;clear hB
    refine gN rfl (gA rfl (gE (gsn 54 rfl (λcQ=>?_) λcQ=>?_)))
    ·refine gct rfl (gS (gR (gF jk rfl (gL hm 2 isAgg9 rfl (gY (yG rfl (fY (vs := [(0, (nV 2)), (2, (tV aD.1.text))]) (cs := #[nV 2, nV 0, (tV aD.1.text), .slice none 0 0]) rfl rfl (by kernel_rfl))) (gSN hm 3 sizeOf86 (et rfl (et rfl (et rfl (et rfl fK)))) rfl fun w hm => gE (gRt ?_)))))))
     replace hm:=hm.nilow (α:=ey)
     exact grc 4 results134 hm rfl isAgg86 sizeOf86 ⟨.slice none 0 0,cP,rfl,hm.pk [1,0,2] rfl rfl⟩
    refine gcf rfl (gSk (gS (gR (gF jk rfl (gL hm 2 isAgg9 rfl (gY (yG rfl (fY (vs:=[(0,(nV 13)),(2,(tV aD.1.text))]) (cs:=#[nV 13,nV 0,(tV aD.1.text),.slice none 0 0]) rfl rfl (by kernel_rfl))) (gAl hm zeroValue86 rfl λaU w hm=>gSN hm 0 sizeOf86 (et rfl (et rfl (et rfl (et rfl fK)))) rfl λw hm=>gE (gS ?_))))))))
    obtain ⟨bD,bE,rfl,bd⟩:=fE (hm.ow_rep 2 rfl)
    refine gJg (λaO a w=>∃ (av aw:Value),St 88 [(2,(pV aC)),(5,(pV aU))] w0 hz [blk aC [nV 0,nV 0,(tV (mkS [])),.slice none 0 0] 86,blk aU [nV 13,nV 0,(tV aD.1.text),av] 86,ow [av] aO.1,blk bp0 [aw,(.bool (aO.2.2))] 51,ow [aw] aO.2.1] a w) (λaO=>?_) ?_
    ·refine gBk ?_
     replace hm:=hm.nilow (α:=ey)
     refine gMg (λaA a w=>∃ (aS aQ:Value),St 88 [(0,(pV bp0)),(2,(pV aC)),(5,(pV aU))] w0 hz [blk bp0 [aS,(.bool (aA.2.1))] 51,ow [aS] aA.1,blk aC [nV 0,nV 0,(tV (mkS [])),.slice none 0 0] 86,blk aU [nV 13,nV 0,(tV aD.1.text),aQ] 86,ow [aQ] aA.2.2] a w) (λa hf=>⟨.slice bD cO.2.list.length bE,.slice none 0 0,hf.sb rfl,hm.pk [2,3,5,1,0] rfl rfl⟩) ?_
     repeat clear hm
     rintro bh ak aA a w ⟨aS,aQ,hf,hm⟩ bi al
     refine gv hf (gS (gS (gJg (λaK a w=>∃ (aR:Value),St 88 [(0,(pV bp0)),(2,(pV aC)),(5,(pV aU)),(73,(.bool (aK.2.2)))] w0 hz [blk bp0 [aR,(.bool (aK.2.1))] 51,ow [aR] aK.1,blk aC [nV 0,nV 0,(tV (mkS [])),.slice none 0 0] 86,blk aU [nV 13,nV 0,(tV aD.1.text),aQ] 86,ow [aQ] aA.2.2] a w) (λaK=>?_) ?_)))
     ·refine gR (gM rfl (gY (yG rfl (fI rfl rfl)) (gF mu rfl (gL hm 0 isAgg4 rfl (gN rfl (gM rfl (gsn 69 rfl (λcR=>?_) λcR=>?_)))))))
      ·refine gM rfl ?_
       obtain ⟨bN,hle,hm1,hsub,bO⟩:=hm.take2 (L1:=[_,_]) (L2:=[_,_,_]) [0,1] [2,3,4] (by decide) rfl rfl
       refine gCg rfl call52 (jA _ bN (⟨aA.1,aA.2.1⟩:ez) bp0 aS 3 (mkS [41]) hm1 ) ?_
       rintro cx cy bq w ⟨aY,rfl,hB⟩
       replace hm:=bO _ _ hB;clear hB
       exact gN rfl (gKt rfl (gE (gZ λa hf=>⟨aY,hf.sb rfl,hm.pk [0,1,2,3,4] rfl rfl⟩)))
      exact gO rfl (gO rfl (gO rfl (gKf rfl (gE (gZ λa hf=>⟨aS,hf.sb rfl,hm.pk [0,1,2,3,4] rfl rfl⟩)))))
     repeat clear hm
     rintro aK a w ⟨aR,hf,hm⟩
     refine gv hf (gs 73 rfl (λbF=>?_) λbF=>?_)
     ·refine gct rfl (gSk (gBk (gS (gS (gR (gF iT rfl (gL hm 3 isAgg69 rfl ?_)))))))
      obtain ⟨aH,aI,rfl,bk⟩:=fE (hm.ow_rep 4 rfl)
      refine gY (yV iu rfl) (gB rfl (gE (gJg (λaP a w=>∃ (af:Value),St 88 [(0,(pV bp0)),(2,(pV aC)),(5,(pV aU))] w0 hz [blk bp0 [af,(.bool (aP.2))] 51,ow [af] aP.1,blk aC [nV 0,nV 0,(tV (mkS [])),.slice none 0 0] 86,blk aU [nV 13,nV 0,(tV aD.1.text),.slice aH aA.2.2.length aI] 86,ow [.slice aH aA.2.2.length aI] aA.2.2] a w) (λaP=>?_) ?_)))
      ·refine gsd 77 rfl (λcS=>?_) λcS=>?_
       ·refine gct rfl (gR (gM rfl ?_))
        obtain ⟨bP,hle,hm1,hsub,bQ⟩:=hm.take2 (L1:=[_,_]) (L2:=[_,_,_]) [0,1] [2,3,4] (by decide) rfl rfl
        refine gCg rfl call50 (gm _ bP (⟨aK.1,aK.2.1⟩:ez) bp0 aR 3 (mkS [44]) hm1 ) ?_
        rintro cz dA aZ w ⟨b8,rfl,hB⟩
        replace hm:=bQ _ _ hB;clear hB
        exact gE (gZ λa hf=>⟨b8,hf.sb rfl,hm.pk [0,1,2,3,4] rfl rfl⟩)
       exact gcf rfl (gSk (gZ λa hf=>⟨aR,hf.sb rfl,hm.pk [0,1,2,3,4] rfl rfl⟩))
      repeat clear hm
      rintro aP a w ⟨af,hf,hm⟩
      refine gv hf (gW (.p 0 (.p 2 (.q 1 (.e 3 (.e 4 (.e 5 (.p 6 (.e 7 .fin .nil)) .nil) .nil) .nil)))) [3,4] [0,2,6] hm [2,3,4] [blk aC [nV 0,nV 0,(tV (mkS [])),.slice none 0 0] 86,blk aU [nV 13,nV 0,(tV aD.1.text),.slice aH aA.2.2.length aI] 86,ow [.slice aH aA.2.2.length aI] aA.2.2] rfl mxo (by kernel_rfl) (λ_ _ _ h=>h.2) λw hm hS=>tP rfl (λw=>yF iT rfl) (tP rfl (λw=>yM rfl) (tQ rfl hS (λw hm=>yL hm 1 isAgg69 rfl) (tO (gb λaJ bY=>?_)))))
      obtain ⟨bK,hle,hm1,hsub,bL⟩:=hm.take2 (L1:=[_,_]) (L2:=[_,_,_]) [0,1] [2,3,4] (by decide) rfl rfl
      refine tf rfl rfl (λa hf=>fo hf rfl call112 rfl (pimpl_wordReader__expr_rec _ bK (⟨aP.1,aP.2⟩:ez) bp0 af 1 hm1 (GT.mono hle hG2) _ bY)) ?_
      rintro bM w ⟨aV,aX,rfl,hB⟩
      replace hm:=bL _ _ hB;clear hB
      refine tAk hm [3,4,5] rfl λhS=>tO (tf rfl rfl (λa hf=>fL (vs:=#[(0,(.agg #[nV aJ.1.op,nV aJ.1.n_,(tV aJ.1.name),aV]))]) (cs:=[nV aJ.1.op,nV aJ.1.n_,(tV aJ.1.name),aV]) jl hf hm rfl rfl (by kernel_rfl) rfl rfl) ?_)
      rintro _ w ⟨aT,rfl,hm⟩
      replace hm:=hm.els_nil (α:=ey)
      replace hm:Mem w0 hz _ [els [] ([]:List ey),blk aT [nV aJ.1.op,nV aJ.1.n_,(tV aJ.1.name),aV] 86,blk bp0 [aX,(.bool (aJ.2.bad))] 51,ow [nV aJ.1.op,nV aJ.1.n_,(tV aJ.1.name),aV] (aJ.1:ey),ow [aX] aJ.2.list,blk aC [nV 0,nV 0,(tV (mkS [])),.slice none 0 0] 86,blk aU [nV 13,nV 0,(tV aD.1.text),.slice aH aA.2.2.length aI] 86,ow [.slice aH aA.2.2.length aI] aA.2.2]:=iM aJ.1 hm 3 rfl
      replace hm:=(hm.els_cons 0 3 (by decide) rfl rfl).pk (L':=[_,_,_,_,_,_,_]) [0,1,2,4,5,6,7] rfl rfl
      replace hm:=(hm.lit_els 1 0 (by decide) rfl rfl rfl rfl).pk (L':=[_,_,_,_,_,_]) [1,2,3,4,5,6] rfl rfl
      refine tAk hm [3,4,5] rfl λhS=>tO (gb λdB cT=>?_)
      obtain ⟨bJ,cU⟩:=fV.1 cT
      replace hm:=(hm.both 5 0 (by decide) rfl rfl).pk (L':=[_,_,_,_,_]) [1,2,3,4,5] rfl rfl
      refine tf rfl rfl (λa hf=>hZ (xs:=aA.2.2) (ys:=([aJ.1]:List ey)) 4 jl hf hm rfl rfl rfl rfl bJ) ?_
      rintro cV w hm
      rw [cU] at hm
      refine tAn rfl (tP rfl (λw=>yF iT rfl) (tO (tf0 rfl rfl (λa hf=>jw 3 hf hm rfl sizeOf69 rfl rfl rfl (fS (hm.ow_rep 4 rfl)) rfl) ?_)))
      rintro _ w hm
      exact tAn rfl (tE (gZe λa hf=>⟨aX,cV,hf.sb rfl,hm.pk [0,1,2,3,4] rfl rfl⟩))
     exact gcf rfl (gXt (gHh (gLp al ak (gZ λa hf=>⟨aQ,aR,hf.sb rfl,hm.pk [2,3,4,0,1] rfl rfl⟩))))
    repeat clear hm
    rintro aO a w ⟨av,aw,hf,hm⟩
    exact gv hf (gS (gR (gY (yn (hm.blk_at 1 rfl) isAgg86 sizeOf86 rfl) (gSN hm 0 sizeOf86 (et rfl (et rfl (et rfl (et (fS (hm.ow_rep 2 rfl)) fK)))) rfl λw hm=>gE (gRt (grc 0 results134 hm rfl isAgg86 sizeOf86 ⟨av,aw,rfl,hm.pk [3,2,4] rfl rfl⟩))))))
theorem mX (w0:World) (hz:fU) (r_:ez) (bp0:Nat) (v1p:Value) (level:Int) (hm0:Mem w0 hz w0 [blk bp0 [v1p,(.bool (r_.bad))] 51,ow [v1p] r_.list]) (hG2:GT.rep hz [.slice (some ⟨2,0,none⟩) 1 1] [fA]) (r:ey × ez) (hq:fD r_ level=some r):Con Tryz.prog 112 [(pV bp0),nV level] w0 (λv w'=>∃ (x1:Value) (x2:Value),v=(.agg #[nV r.1.op,nV r.1.n_,(tV r.1.name),x1])∧Mem w0 hz w' [blk bp0 [x2,(.bool (r.2.bad))] 51,ow [x1] r.1.kids,ow [x2] r.2.list]):=(ou ).1 r_ level r hq w0 hz bp0 v1p hm0 hG2
end Go.Proofs.YtdmoolhjchoifaaGreatDoor
