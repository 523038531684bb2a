/- A part of the proof of FnExactSingleUnitSaid. -/
import Derived.Test.YtkihhabnfheieaaGreatSuWalksC
namespace Go.Proofs.YtkihhabnfheieaaGreat
open Go Go.Wk Go.RowKit
set_option maxRecDepth 4000
set_option maxHeartbeats 4000000
open Tryz
theorem yj (w0:World) (c_:jv) (v1:Value) (h1:rp w0 v1 c_.b) (d:ld) (a1:Nat) (f4:Value) (hQ:rp w0 f4 d.c.b) (f7:Value) (hV:rp w0 f7 d.o) (f6:Value) (hW:rp w0 f6 d.I) (f3:(hp w0) a1=some (.cells ([J d.c.P,J d.c.r,f4,f7,f6]:List Value).toArray 101 (0,0))) :
    k6 Tryz.prog 34 [.agg #[J c_.P,J c_.r,v1],pV a1] w0 (pS c_ d) λr v w'=>∃ (x1:Value),v=(.agg #[J r.P,J r.r,x1])/\Mem w0 (hp w0) w' [ow [x1] r.b]:=by
 unfold pS
 refine k7 func34 U λr=>?_
 have e:=Mem.start w0
 refine gS<|gR<|gBx e U λaJ w e=>gAl e zeroValue41 U λaK w e=>gE<|gS<|gR<|gY (yn (e.blk_at 1 U) isAgg41 sizeOf41 U)<|gCg U call29 (uk _ c_ v1<|e.now h1) ?_
 rintro N _ _ w ⟨_,rfl,hB⟩
 replace e:=e.give hB;clear hB
 refine gAl e zeroValue41 U λaL w e=>gSN e 0 sizeOf41 (Z U<|Z U<|Z (kF<|e.ow_rep 1 U) kE) U λw e=>gE<|gS<|gR<|gF nD U<|gL e 3 isAgg3 U<|gAl e zeroValue3 U λW w e=>gS1 e 0 sizeOf3 U U λw e=>gE<|gS<|gR<|gF kM U<|gL e 4 isAgg39 U ?_
 obtain ⟨af,aZ,rfl,_⟩:=ju h1
 refine gY (yV kZ U)<|gb λaN d7=>?_
 obtain ⟨⟨d8,d9⟩,cm⟩:=lU.1 d7
 refine gf U (λa H=>ni (x0:=((jw.mk0:jw Int):jw Int)) cx1 (λ_=>wX.2<|.inl ⟨U,U⟩) H e U U U d8 (Int.le_refl _) d9) ?_
 rintro _ w e
 rw [cm] at e
 have i1:(aN.length:Int)=(c_.b.length:Int):=by rw [<- cm];simp only [List.length_replicate];omega
 refine gA U<|gE<|gS<|gS<|gR<|Y U<|gCg U call73 (xY _ d a1 f4 (e.now hQ) f7 (e.now hV) f6 (e.now hW)<|e.lez _ _<|(kR.le_refl _) _ _ f3) ?_
 rintro aD _ _ w ⟨_,rfl,hB⟩
 replace e:=e.give hB;clear hB
 obtain ⟨cn,aP,rfl,_⟩:=ju<|e.ow_rep 0 U
 refine gY (yV kI U)<|Y U<|gE ?_
 obtain ⟨ao,aF,rfl,_⟩:=ju<|e.ow_rep 4 U
 obtain ⟨aQ,aO,rfl,_⟩:=ju<|e.ow_rep 1 U
 let b7:=sl af c_.b aZ
 let aU:=J c_.P
 let h7:=blk aJ [aU,J c_.r,b7] 41
 let b6:=sl ao N.b aF
 let hA:=blk aL [J N.P,J N.r,b6] 41
 let e0:=blk aK [J 0,J 0,nS] 41
 let c1:=sl aQ aN aO
 let g8:=J<|(aD.length:Int)
 refine gBk<|gNg (λaw aI a w=>∃ (bL:kR),kR.le (hp w0) bL/\St 228 [(1,pV a1),(2,pV aJ),(4,pV aK),(5,pV aL),(6,pV W),(7,c1),(35,sl cn aD aP),(36,g8),(37,J aw)] w0 bL [h7,e0,hA,ow [b6] aI.1,blk W [J aI.2.1] 3,ow [c1] aI.2.2,os cn aD aP] a w) (λa H=>⟨hp w0,kR.le_refl _,H.sb U,e.pk [6,5,3,4,2,1,0] U U⟩) ?_ ?_
 repeat clear e
 rintro _ _ aw aI a w ⟨bL,bb,H,e⟩ _ _ _ _
 refine gv H<|gS<|gR<|gB U<|gE<|gS<|go _ 38 U (decide_eq_true (by omega))<|gct U<|gSk<|gS<|gBk<|gS<|gR<|gg λaR da cP=>?_
 obtain ⟨aX,aY,_,he⟩:=kG (e.ow_rep 6 U) cP
 obtain ⟨rfl,_,rfl⟩:=sl3 he
 refine gI kI da (jx cP) U<|gY (yl isAgg3 ((kC (cs:=[J aR]) (e.ow_rep 6 U) cP U).cell (j:=0) U) U)<|gA U<|gE<|gS<|gR<|gf U (λa H=>am3 (β:=Int) e U) ?_
 rintro bA w e
 let g5:=blk W [J aI.2.1] 3
 refine gAl e zeroValue110 U λaM w e=>gS1 e 0 sizeOf110 (cn2 e 1 U) U λw e=>gE<|gS<|gS<|gR<|Y U<|Y U<|gC e U call74 (tJ _ d a1 f4 (e.now<|GT.mono bb hQ) f7 (e.now<|GT.mono bb hV) f6 (e.now<|GT.mono bb hW) (e.lez _ _<|bb _ _ f3) aR) λcQ _ w e=>gA U<|gE<|gS<|gR<|Y U<|gB U<|gE<|gJg (λcR a w=>∃ (ax:kR),kR.le bL ax/\St 228 [(1,pV a1),(2,pV aJ),(4,pV aK),(5,pV aL),(6,pV W),(7,c1),(9,J aR),(10,pV aM),(35,sw aX aY aD aP),(36,g8),(37,J aw)] w0 ax [h7,e0,hA,ow [b6] aI.1,g5,ow [c1] aI.2.2,blk aM [bA] 110,owm bA cR,ot aX aY aD aP] a w) (λcR=>?_) ?_
 refine gsd 46 U (λdb=>?_) λdb=>?_
 refine gct U<|gS<|gR<|Y U<|Y U<|gg λbF dc bc=>?_
 obtain ⟨bQ,bR,_,he⟩:=jy (e.ow_rep 7 U) bc
 obtain ⟨rfl,_,rfl⟩:=sl3 he
 obtain ⟨_,_,co,dd⟩:=kn (e.ow_rep 7 U) bc
 have cS:=dd
 obtain ⟨cq,rfl,-⟩:=id cS
 replace cS:GT.rep (hp _) [cq] bF:=cS
 replace co:kS (hp _) bQ (bR+cQ.toNat*1) [cq]:=co
 have hI:=kB<|e.ow_rep 7 U
 refine gI bl8 dc (kL bc hI) U ?_
 obtain ⟨_,de,e⟩:=e.openE 7 U bc
 have df:=e.ow_rep 0 U
 have bt:=df
 obtain ⟨bM,rfl,-⟩:=id bt
 replace bt:GT.rep (hp _) [bM] bF:=bt
 clear de bt
 replace e:Mem w0 bL _ [ow [bM] (bF:jw Int),blk aM [bA] 110,owm bA (jw.mk0:jw Int),h7,e0,hA,ow [b6] aI.1,g5,kY bQ bR aN.length aO (aI.2.2:List (jw Int)) cQ.toNat [bM],ot aX aY aD aP]:=e
 replace e:=e.pk (L':=[_,_,_,_,_,_,_,_,_,_]) [0,1,2,3,4,5,6,7,8,9] U U
 refine gY (yl isAgg110 ((e.holeE_at 8 U).cell (j:=0) U) U) ?_
 obtain ⟨cT,_,a2,d5,cr⟩:=e.hold 0 U
 replace e:=d5.pk (L':=[_,_,_,_,_,_,_,_,_]) [1,2,3,4,5,6,7,8,9] U U
 clear d5
 replace a2:GT.rep cT [bM] bF:=aq0 a2
 refine gf U (λa H=>zY (m:=(bF:jw Int)) H e underlying110 a2 U U) ?_
 rintro _ w ⟨ct,rfl,e⟩
 let h5:=blk aJ [aU,J c_.r,b7] 41
 let c6:=sl ao N.b aF
 let g4:=blk aL [J N.P,J N.r,c6] 41
 let f0:=sw bQ bR aN aO
 let h4:=blk aK [J 0,J 0,nS] 41
 refine gE<|gJ (cr _ _ e) (λbu=>[(1,pV a1),(2,pV aJ),(4,pV aK),(5,pV aL),(6,pV W),(7,f0),(9,J aR),(10,pV aM),(35,sw aX aY aD aP),(36,J<|(aD.length:Int)),(37,J aw)]) (λbu=>[h5,h4,g4,ow [c6] aI.1,blk W [J aI.2.1] 3,ow [f0] aI.2.2,blk aM [bA] 110,owm bA bu,ot aX aY aD aP]) (λbu=>?_) ?_
 refine gBk<|ci4 (m:=(bF:jw Int)) (λp hp q hq s=>cl5 hp hq s) a2 (λcv cw a w=>St 228 [(1,pV a1),(2,pV aJ),(4,pV aK),(5,pV aL),(6,pV W),(7,f0),(9,J aR),(10,pV aM),(35,sw aX aY aD aP),(36,J<|(aD.length:Int)),(37,J aw),(51,pV ct)] w0 cT [h5,h4,g4,ow [c6] aI.1,blk W [J aI.2.1] 3,kY bQ bR aN.length aO (aI.2.2:List (jw Int)) cQ.toNat [bM],blk aM [bA] 110,owm bA cw,ot aX aY aD aP,itc cT bM ct cv] a w) (λa H=>⟨H.sb U,e.pk [3,4,5,6,7,8,1,2,9,0] U U⟩) ?_ ?_
 repeat clear e
 rintro cv cw a w ⟨H,e⟩ hX
 refine gv (m:=some ()) (r:=()) H ?_ U
 refine gS<|gR<|gf U (λa H=>aj0 9 H e U hX U U) ?_
 rintro _ w ⟨_,cx,_,rfl,cy,cz,e⟩
 refine gSw cy<|gX U<|gE<|gS<|gct U<|gSk<|gBk<|gS<|gR<|gY (yG U<|zl 9 e U cz U U)<|gX U<|gX U<|gA U<|gA U<|gE<|gR<|gL e 6 isAgg110 U<|Y U<|Y U<|gf0 U (λa H=>v7 (β:=Int) (key:=cx.1) (u:=cx.2) (b:=false) 7 underlying3 underlying110 H e U U U U U) ?_
 rintro _ w e
 exact gE<|gZr cz cy λa H=>⟨H.sb U,e.pk [0,1,2,3,4,5,6,7,8,9] U U⟩
 repeat clear e
 rintro _ _ a w ⟨H,e⟩ i0 hk
 refine gv H ?_ hk
 refine gS<|gR<|gY (yG U<|ai0 9 e U i0 U U) ?_
 replace e:=cr _ _ e
 refine gX U<|gE<|gS<|gcf U<|gXt<|gHh ?_
 replace e:=e.imp (c':=ow [bM] (bF:jw Int)) 0 U λF h0=>h0
 replace e:=(e.shutE (y:=(bF:jw Int)) 6 0 (by decide) U U).pk (L':=[_,_,_,_,_,_,_,_,_,_]) [1,2,3,4,5,6,7,8,9,10] U U
 rw [kq bc] at e
 exact gz e [0,1,2,3,4,5,6,7,8] U
 repeat clear e
 intro bu w e
 exact gZ λa H=>⟨bL,kR.le_refl _,H.sb U,e.pk [0,1,2,3,4,5,6,7,8] U U⟩
 refine gcf U<|gS<|gR<|gF nD U<|gL e 2 isAgg3 U<|Y U<|gE<|gBk<|gb λ_ dA=>?_
 replace dA:=sM.1 dA
 refine gNf e (λbd cU=>[(1,pV a1),(2,pV aJ),(4,pV aK),(5,pV aL),(6,pV W),(7,sl aQ aN aO),(9,J aR),(10,pV aM),(35,sw aX aY aD aP),(36,J<|(aD.length:Int)),(37,J aw),(61,aU),(62,J bd)]) (λbd cU=>[blk aJ [aU,J c_.r,b7] 41,blk aK [J 0,J 0,nS] 41,blk aL [J N.P,J N.r,sl ao N.b aF] 41,ow [sl ao N.b aF] aI.1,blk W [J aI.2.1] 3,ow [sl aQ aN aO] aI.2.2,blk aM [bA] 110,owm bA cU,ot aX aY aD aP]) [2,3,4,5,6,7,0,1,8] U ?_ ?_
 repeat clear e
 intro _ _ bd cU w e _ _ _ _
 refine gS<|gR<|gB U<|gE<|gS<|go _ 63 U (decide_eq_true (by omega))<|gct U<|gSk<|gS<|gBk<|gS<|gR<|Y U<|gA U<|gE<|gR<|gL e 6 isAgg110 U<|Y U<|Y U<|gf0 U (λa H=>v7 (β:=Int) (key:=bd) (u:=bd) (b:=false) 7 underlying3 underlying110 H e U U U U U) ?_
 rintro _ w e
 exact gE<|gR<|gP (by omega) (by omega) U<|Y U<|gE<|gze e [0,1,2,3,4,5,6,7,8] U
 repeat clear e
 intro _ _ w e _ _
 exact gS<|gR<|gB U<|gE<|gS<|go _ 63 U (decide_eq_false (by omega))<|gcf U<|gXt<|gHh<|gZ λa H=>⟨bL,kR.le_refl _,H.sb U,e.pk [0,1,2,3,4,5,6,7,8] U U⟩
 repeat clear e
 rintro cR a w ⟨ax,dg,H,e⟩
 refine gv H<|gS<|gR<|gY (yU U)<|gA U<|gE<|gS<|gR<|gF kM U<|gL e 2 isAgg39 U<|Y U<|gg λK dh bS=>?_
 obtain ⟨aS,aT,_,he⟩:=jy (e.ow_rep 3 U) bS
 obtain ⟨rfl,_,rfl⟩:=sl3 he
 obtain ⟨_,_,_,_,_,_,_⟩:=k4 (e.ow_rep 3 U) bS
 have hM:=kB<|e.ow_rep 3 U
 refine gI kZ dh (kL bS hM) U<|gA U<|gE ?_
 obtain ⟨_,bv,ac,e⟩:=lH e 3 U bS
 refine gS<|gS<|gR<|Y U<|gY (yG U<|kW U U)<|gF ko U<|gY (yl isAgg66 ((e.holeE_at 6 U).cell (j:=0) U) U) ?_
 obtain ⟨ah,ae,rfl,_⟩:=ju<|e.ow_rep 2 U
 let g1:=blk aL [J N.P,J N.r,sw aS aT N.b aF] 41
 let g6:=blk aJ [aU,J c_.r,b7] 41
 let h3:=blk aK [J 0,J 0,nS] 41
 let b4:=sl aQ aN aO
 let gM:=ow [b4] aI.2.2
 refine gY (yV lY U)<|Y U<|gE<|gBk<|gNg (λbG bC a w=>∃ (bT:Value),St 228 [(1,pV a1),(2,pV aJ),(4,pV aK),(5,pV aL),(6,pV W),(7,b4),(9,J aR),(10,pV aM),(15,.func (.func 75) #[] #[pV W,pV aM]),(16,.pointer<|some ⟨aS,aT+aR.toNat*5,none⟩),(35,sw aX aY aD aP),(36,J<|(aD.length:Int)),(37,J aw),(78,J<|(K.a.length:Int)),(79,J bG)] w0 ax [g6,h3,g1,kY aS aT N.b.length aF (aI.1:List jq) aR.toNat [sl ah K.a ae,bv,J K.j,J K.on,ac],ow [sl ah K.a ae] bC.1,ow [bv] K.i,ow [ac] K.n,blk W [J bC.2.1] 3,gM,blk aM [bT] 110,owm bT bC.2.2,ot aX aY aD aP] a w) (λa H=>⟨bA,H.sb U,e.pk [3,4,5,6,2,1,0,7,8,9,10,11] U U⟩) ?_ ?_
 repeat clear e
 rintro _ _ bG bC a w ⟨bT,H,e⟩ _ _ _ _
 refine gv H<|gS<|gR<|gB U<|gE<|gS<|go _ 80 U (decide_eq_true (by omega))<|gct U<|gSk<|gS<|gBk<|gS<|gR<|Y U<|gA U<|gE<|gR<|Y U<|Y U<|gY (yG U<|kW U U)<|gF ko U<|gY (yl isAgg66 ((e.holeE_at 3 U).cell (j:=0) U) U)<|Y U<|gg λbH di bx=>?_
 obtain ⟨bU,bV,_,he⟩:=jy (e.ow_rep 4 U) bx
 obtain ⟨rfl,_,rfl⟩:=sl3 he
 obtain ⟨dk,dl,_⟩:=mP (e.ow_rep 4 U) bx
 have hH:=kB<|e.ow_rep 4 U
 refine gI lY di (kL bx hH) U<|gF oH U ?_
 obtain ⟨cV,e⟩:=e.cel_in (b:=bU) (i:=bV+bG.toNat*2+0) (n:=bH.to) (g:=λy=>bC.1.set bG.toNat (⟨y,bH.A⟩:kA)) 4 U λF ho=>ax1 (d:=0) ho bx dl U λG ho=>bj9 (α:=Int) (β:=List Int) (p:=(bH.to,bH.A)) (c:=[J bH.to]) (d:=[dk]) ho U U λ_ ho=>bk4 ho
 replace e:Mem w0 ax _ [ap7 cV bU (bV+bG.toNat*2+0)<|J bH.to,g6,h3,g1,kY aS aT N.b.length aF (aI.1:List jq) aR.toNat [sw bU bV K.a ae,bv,J K.j,J K.on,ac],cut cV bU (bV+bG.toNat*2+0) [sw bU bV K.a ae] λy=>bC.1.set bG.toNat (⟨y,bH.A⟩:kA),ow [bv] K.i,ow [ac] K.n,blk W [J bC.2.1] 3,gM,blk aM [bT] 110,owm bT bC.2.2,ot aX aY aD aP]:=e
 obtain ⟨dm,hZ,hG,hT,dp⟩:=e.take2 (L1:=[_,_,_,_]) (L2:=[_,_,_,_,_,_,_,_,_]) [0,8,10,11] [1,2,3,4,5,6,7,9,12] (by decide) U U
 refine gb λ_ dq=>gf U (λa H=>nC H U U U ⟨75,[pV W,pV aM],U,call75,tC _ dm bH.to cV bU (bV+bG.toNat*2+0) bC.2.1 W bC.2.2 aM bT hG  _ dq⟩) ?_
 rintro _ w ⟨dr,rfl,hB⟩
 replace e:=dp _ _ hB;clear hB
 replace e:=(e.cel_out 8 0 (by decide) U U).pk (L':=[_,_,_,_,_,_,_,_,_,_,_,_]) [1,2,3,4,5,6,7,8,9,10,11,12] U U
 exact gE<|gR<|gP (by omega) (by omega) U<|Y U<|gE<|gZe λa H=>⟨dr,H.sb U,e.pk [3,4,5,6,7,8,9,0,10,1,2,11] U U⟩
 repeat clear e
 rintro _ aq a w ⟨du,H,e⟩ _ _
 refine gv H<|gS<|gR<|gB U<|gE<|gS<|go _ 80 U (decide_eq_false (by omega))<|gcf U<|gXt<|gHh<|gS<|gS<|gR<|Y U<|gY (yG U<|kW U U)<|gF lC U<|gY (yl isAgg53 ((e.holeE_at 3 U).cell (j:=1) U) U) ?_
 obtain ⟨bJ,ak,rfl,_⟩:=ju<|e.ow_rep 5 U
 let f1:=sw aS aT N.b aF
 let e7:=blk aL [J N.P,J N.r,f1] 41
 let e4:=sl af c_.b aZ
 let d4:=blk aJ [J c_.P,J c_.r,e4] 41
 let f5:Value:=.pointer<|some ⟨aS,aT+aR.toNat*5,none⟩
 let e9:=sl ah K.a ae
 let e6:=sl bJ K.i ak
 let hR:=kY aS aT N.b.length aF (aI.1:List jq) aR.toNat [e9,e6,J K.j,J K.on,ac]
 let e5:=ow [e9] aq.1
 let a9:=blk aK [J 0,J 0,nS] 41
 let a3:=sl aQ aN aO
 let a8:=ow [a3] aI.2.2
 let a7:=ow [ac] K.n
 let a5:=ot aX aY aD aP
 let e8:=J<|(K.i.length:Int)
 let e1:=J<|(aD.length:Int)
 let c5:=sw aX aY aD aP
 refine gY (yV lh U)<|Y U<|gE<|gBk<|gNg (λai aa a w=>∃ (ar:Value),St 228 [(1,pV a1),(2,pV aJ),(4,pV aK),(5,pV aL),(6,pV W),(7,a3),(9,J aR),(10,pV aM),(15,.func (.func 75) #[] #[pV W,pV aM]),(16,f5),(35,c5),(36,e1),(37,J aw),(96,e8),(97,J ai)] w0 ax [d4,a9,e7,hR,e5,ow [e6] aa.1,a7,blk W [J aa.2.1] 3,a8,blk aM [ar] 110,owm ar aa.2.2,a5] a w) (λa H=>⟨du,H.sb U,e.pk [0,1,2,3,4,5,6,7,8,9,10,11] U U⟩) ?_ ?_
 repeat clear e
 rintro _ _ ai aa a w ⟨ar,H,e⟩ _ _ _ _
 refine gv H<|gS<|gR<|gB U<|gE<|gS<|go _ 98 U (decide_eq_true (by omega))<|gct U<|gSk<|gS<|gJg (λbe a w=>∃ (bz:Value),St 228 [(1,pV a1),(2,pV aJ),(4,pV aK),(5,pV aL),(6,pV W),(7,a3),(9,J aR),(10,pV aM),(15,.func (.func 75) #[] #[pV W,pV aM]),(16,f5),(35,c5),(36,e1),(37,J aw),(96,e8),(97,J ai)] w0 ax [d4,a9,e7,hR,e5,ow [e6] be.1,a7,blk W [J be.2.1] 3,a8,blk aM [bz] 110,owm bz be.2.2,a5] a w) (λbe=>?_) ?_
 refine gBk<|gS<|gR<|Y U<|gA U<|gE<|gS<|gS<|gR<|Y U<|gY (yG U<|kW U U)<|gF lC U<|gY (yl isAgg53 ((e.holeE_at 3 U).cell (j:=1) U) U)<|Y U<|gg λM cA bW=>?_
 obtain ⟨al,am,_,he⟩:=jy (e.ow_rep 5 U) bW
 obtain ⟨rfl,_,rfl⟩:=sl3 he
 obtain ⟨_,_,_⟩:=nO (e.ow_rep 5 U) bW
 have hK:=kB<|e.ow_rep 5 U
 refine gI lh cA (kL bW hK) U<|gF ml U ?_
 obtain ⟨_,e⟩:=ao9 e 5 U bW
 refine gY (yl isAgg54 ((e.holeE_at 6 U).cell (j:=2) U) U) ?_
 obtain ⟨bf,bN,rfl,_⟩:=ju<|e.ow_rep 0 U
 let h8:=kY aS aT N.b.length aF (aI.1:List jq) aR.toNat [e9,sw al am K.i ak,J K.j,J K.on,ac]
 let b3:=sl bf M.A bN
 let h2:=kY al am K.i.length ak (aa.1:List kD) ai.toNat [J M.op,J M.to,b3,J M.N]
 let d2:=blk W [J aa.2.1] 3
 let d3:=blk aM [ar] 110
 let e2:=owm ar aa.2.2
 refine gY (yV kI U)<|Y U<|gE<|gBk<|gNf e (λcW cB=>[(1,pV a1),(2,pV aJ),(4,pV aK),(5,pV aL),(6,pV W),(7,a3),(9,J aR),(10,pV aM),(15,.func (.func 75) #[] #[pV W,pV aM]),(16,f5),(18,J ai),(35,c5),(36,e1),(37,J aw),(96,e8),(97,J ai),(107,b3),(108,J<|(M.A.length:Int)),(109,J cW)]) (λcW cB=>[d4,a9,e7,h8,e5,h2,ow [b3] cB,a7,d2,a8,d3,e2,a5]) [1,2,3,4,5,6,0,7,8,9,10,11,12] U ?_ ?_
 repeat clear e
 intro _ _ cW cB w e _ _ _ _
 refine gS<|gR<|gB U<|gE<|gS<|go _ 110 U (decide_eq_true (by omega))<|gct U<|gSk<|gS<|gBk<|gS<|gR<|Y U<|gg λbg dB bX=>?_
 obtain ⟨dC,dD,_,he⟩:=kG (e.ow_rep 6 U) bX
 obtain ⟨rfl,_,rfl⟩:=sl3 he
 have hE:=kB<|e.ow_rep 6 U
 refine gI kI dB (kL bX hE) U<|gY (yl isAgg3 ((kC (cs:=[J bg]) (e.ow_rep 6 U) bX U).cell (j:=0) U) U)<|gA U<|gA U<|gE<|gW (.p 0<|.p 1<|.p 2<|.p 4<|.p 8<|.p 10<|.q 3<|.p 5<|.p 6<|.q 9<|.q 11<|.e 7 (.p 12<|.e 13 .fin .nil) .nil) [3,7,9,11] [0,1,2,4,5,6,8,10,12] e [0,1,2,3,4,5,6,7,8,9,10,11,12] [d4,a9,e7,h8,e5,kY al am K.i.length ak (aa.1:List kD) ai.toNat [J M.op,J M.to,sw dC dD M.A bN,J M.N],ow [sw dC dD M.A bN] cB,a7,d2,a8,d3,e2,a5] U mxo (by kernel_rfl) (λ_ _ _ h=>h.2) λw e hS=>uM U U<|tP U (λw=>yG U<|kW U U)<|uF lC U U<|uM U U<|uM U U<|uM U U<|tQ U hS (λw e=>yl isAgg53 ((e.holeE_at 3 U).cell (j:=1) U) U) ?_
 have hD:=e.holeE_len 5 U
 refine tP U (λw=>yI lh cA (kL bW hD) U)<|uF ml U U<|tQ U hS (λw e=>yL e 10 isAgg110 U)<|tQ U hS (λw e=>yG U<|wZ (key:=bg) (m:=(aa.2.2:jw Int)) underlying3 underlying110 zeroValue3 (e.owm_rep 11 U) U U U)<|tO<|tY U (yl isAgg54 ((e.holeE_at 5 U).cell (j:=2) U) U)<|tAs hS ?_
 have h9:=kB<|e.ow_rep 6 U
 refine tP U (λw=>yI kI dB (kL bX h9) U)<|tO<|tf0 U U (λa H=>lI (x1:=(jw.get aa.2.2 bg).getD 0) (j:=0) (vs:=[J<|(jw.get aa.2.2 bg).getD 0]) 6 H e U bX U sizeOf3 U U U (Z U kE) U U) ?_
 rintro _ w e
 have gG:=List.getElem?_set_self (a:=(jw.get aa.2.2 bg).getD 0)<|jx bX
 exact tAn U<|tE<|gR<|gP (by omega) (by omega) U<|Y U<|gE<|gze e [0,1,2,3,4,5,6,7,8,9,10,11,12] U
 repeat clear e
 intro _ bB w e _ _
 refine gS<|gR<|gB U<|gE<|gS<|go _ 110 U (decide_eq_false (by omega))<|gcf U<|gXt<|gHh<|gS ?_
 replace e:Mem w0 ax _ [d4,a9,e7,h8,e5,h2,ow [J M.op,J M.to,b3,J M.N] ((⟨M.op,M.to,bB,M.N⟩:kD):kD),a7,d2,a8,d3,e2,a5]:=tX M.op M.to M.N e 6 U
 replace e:=(e.shutE (y:=((⟨M.op,M.to,bB,M.N⟩:kD):kD)) 5 6 (by decide) U U).pk (L':=[_,_,_,_,_,_,_,_,_,_,_,_]) [0,1,2,3,4,5,7,8,9,10,11,12] U U
 have bh:=List.getElem?_set_self (a:=((⟨M.op,M.to,bB,M.N⟩:kD):kD))<|jx bW
 refine gR<|Y U<|gY (yG U<|kW U U)<|gF lC U<|gY (yl isAgg53 ((e.holeE_at 3 U).cell (j:=1) U) U)<|Y U ?_
 obtain ⟨_,_,cX,dv⟩:=kn (e.ow_rep 5 U) bh
 obtain ⟨_,_,rfl,rfl,_,_,rfl,rfl,_,_,rfl,cY,rfl⟩:=dv
 obtain ⟨dE,rfl,-⟩:=id cY
 replace cY:GT.rep (hp _) [dE] bB:=cY
 replace cX:kS (hp _) al (am+ai.toNat*4) [J M.op,J M.to,dE,J M.N]:=cX
 have hN:=kB<|e.ow_rep 5 U
 let c2:=sl ah K.a ae
 refine gI lh cA (kL bh hN) U<|gF nN U<|gY (yl isAgg3 (cX.cell (j:=0) U) U)<|gC e U call76 (rV _ M.op) λ_ _ w e=>gE<|gJg (λbi a w=>∃ (cC:Value),St 228 [(1,pV a1),(2,pV aJ),(4,pV aK),(5,pV aL),(6,pV W),(7,a3),(9,J aR),(10,pV aM),(15,.func (.func 75) #[] #[pV W,pV aM]),(16,f5),(35,c5),(36,J<|(aD.length:Int)),(37,J aw),(96,J<|(K.i.length:Int)),(97,J ai)] w0 ax [blk aJ [J c_.P,J c_.r,e4] 41,blk aK [J 0,J 0,nS] 41,blk aL [J N.P,J N.r,f1] 41,kY aS aT N.b.length aF (aI.1:List jq) aR.toNat [c2,sw al am K.i ak,J K.j,J K.on,ac],ow [c2] aq.1,ow [sw al am K.i ak] bi.1,ow [ac] K.n,blk W [J bi.2.1] 3,ow [a3] aI.2.2,blk aM [cC] 110,owm cC bi.2.2,ot aX aY aD aP] a w) (λbi=>?_) ?_
 refine gs 136 U (λdw=>?_) λdw=>?_
 refine gct U<|gR<|Y U<|Y U<|gY (yG U<|kW U U)<|gF lC U<|gY (yl isAgg53 ((e.holeE_at 3 U).cell (j:=1) U) U)<|Y U ?_
 obtain ⟨_,_,cZ,dx⟩:=kn (e.ow_rep 5 U) bh
 obtain ⟨_,_,rfl,rfl,_,_,rfl,rfl,_,_,rfl,c7,rfl⟩:=dx
 obtain ⟨cD,rfl,-⟩:=id c7
 replace c7:GT.rep (hp _) [cD] bB:=c7
 replace cZ:kS (hp _) al (am+ai.toNat*4) [J M.op,J M.to,cD,J M.N]:=cZ
 have hF:=kB<|e.ow_rep 5 U
 refine gI lh cA (kL bh hF) U<|gF oa U ?_
 obtain ⟨c8,e⟩:=e.cel_in (b:=al) (i:=am+ai.toNat*4+1) (n:=M.to) (g:=λy=>(aa.1.set ai.toNat (⟨M.op,M.to,bB,M.N⟩:kD)).set ai.toNat (⟨M.op,y,bB,M.N⟩:kD)) 5 U λF ho=>ax1 (d:=1) ho bh cZ U λG ho=>ck8 (α:=Int) (β:=Int × (List Int) × Int) (p:=(M.op,M.to,bB,M.N)) (c:=[J M.op]) (d:=[J M.to,cD,J M.N]) (k:=0) ho U U λG ho=>bj9 (α:=Int) (β:=(List Int) × Int) (p:=(M.to,bB,M.N)) (c:=[J M.to]) (d:=[cD,J M.N]) ho U U λ_ ho=>bk4 ho
 replace e:Mem w0 ax _ [ap7 c8 al (am+ai.toNat*4+1)<|J M.to,blk aJ [J c_.P,J c_.r,e4] 41,blk aK [J 0,J 0,nS] 41,blk aL [J N.P,J N.r,f1] 41,kY aS aT N.b.length aF (aI.1:List jq) aR.toNat [c2,sw al am K.i ak,J K.j,J K.on,ac],ow [c2] aq.1,cut c8 al (am+ai.toNat*4+1) [sw al am K.i ak] λy=>(aa.1.set ai.toNat (⟨M.op,M.to,bB,M.N⟩:kD)).set ai.toNat (⟨M.op,y,bB,M.N⟩:kD),ow [ac] K.n,blk W [J aa.2.1] 3,ow [a3] aI.2.2,blk aM [ar] 110,owm ar aa.2.2,ot aX aY aD aP]:=e
 obtain ⟨dy,hZ,hG,hT,dz⟩:=e.take2 (L1:=[_,_,_,_]) (L2:=[_,_,_,_,_,_,_,_,_]) [0,8,10,11] [1,2,3,4,5,6,7,9,12] (by decide) U U
 refine gb λ_ eA=>gf U (λa H=>nC H U U U ⟨75,[pV W,pV aM],U,call75,tC _ dy M.to c8 al (am+ai.toNat*4+1) aa.2.1 W aa.2.2 aM ar hG  _ eA⟩) ?_
 rintro _ w ⟨eB,rfl,hB⟩
 replace e:=dz _ _ hB;clear hB
 replace e:=(e.cel_out 9 0 (by decide) U U).pk (L':=[_,_,_,_,_,_,_,_,_,_,_,_]) [1,2,3,4,5,6,7,8,9,10,11,12] U U
 exact gE<|gZ λa H=>⟨eB,H.sb U,e.pk [3,4,5,6,7,8,9,0,10,1,2,11] U U⟩
 exact gcf U<|gSk<|gZ λa H=>⟨ar,H.sb U,e.pk [0,1,2,3,4,5,6,7,8,9,10,11] U U⟩
 repeat clear e
 rintro bi a w ⟨cC,H,e⟩
 exact gv H<|gZ λa H=>⟨cC,H.sb U,e.pk [0,1,2,3,4,5,6,7,8,9,10,11] U U⟩
 repeat clear e
 rintro be a w ⟨bz,H,e⟩
 exact gv H<|gR<|gP (by omega) (by omega) U<|Y U<|gE<|gZe λa H=>⟨bz,H.sb U,e.pk [0,1,2,3,4,5,6,7,8,9,10,11] U U⟩
 repeat clear e
 rintro _ ab a w ⟨bD,H,e⟩ _ _
 let b0:=sw aS aT N.b aF
 let d1:=ow [b4] aI.2.2
 let d6:=sl af c_.b aZ
 let f2:=blk aM [bD] 110
 let d0:=ot aX aY aD aP
 refine gv H<|gS<|gR<|gB U<|gE<|gS<|go _ 98 U (decide_eq_false (by omega))<|gcf U<|gXt<|gHh<|gS<|gS<|gR<|Y U<|gY (yG U<|kW U U)<|gF oR U<|gY (yl isAgg3 ((e.holeE_at 3 U).cell (j:=2) U) U)<|gC e U call77 (oy _ K.j) λ_ _ w e=>gE<|gJ e (λcE=>[(1,pV a1),(2,pV aJ),(4,pV aK),(5,pV aL),(6,pV W),(7,b4),(9,J aR),(10,pV aM),(35,sw aX aY aD aP),(36,J<|(aD.length:Int)),(37,J aw)]) (λcE=>[blk aJ [J c_.P,J c_.r,d6] 41,blk aK [J 0,J 0,nS] 41,blk aL [J N.P,J N.r,b0] 41,ow [b0] cE,blk W [J ab.2.1] 3,d1,f2,owm bD ab.2.2,d0]) (λcE=>?_) ?_
 refine gs 151 U (λeC=>?_) λeC=>?_
 refine gct U<|gW (.p 0<|.p 2<|.p 3<|.p 4<|.q 1<|.e 5 (.e 6 (.p 7<|.p 8<|.e 9 .fin .nil) .nil) .nil) [5] [0,2,3,4,7,8] e [0,1,2,3,4,5,6,7,8,9,10,11] [blk aJ [J c_.P,J c_.r,d6] 41,blk aK [J 0,J 0,nS] 41,blk aL [J N.P,J N.r,b0] 41,kY aS aT N.b.length aF (aI.1:List jq) aR.toNat [sl ah K.a ae,sl bJ K.i ak,J K.j,J K.on,ac],ow [sl ah K.a ae] aq.1,ow [sl bJ K.i ak] ab.1,ow [ac] K.n,blk W [J ab.2.1] 3,d1,f2,owm bD ab.2.2,d0] U mxo (by kernel_rfl) (λ_ _ _ h=>h.2) λw e hS=>uM U U<|uM U U<|tP U (λw=>yG U<|kW U U)<|uF oI U U<|tQ U hS (λw e=>yL e 9 isAgg110 U)<|tO<|tY U (yl isAgg3 ((e.holeE_at 3 U).cell (j :=3) U) U)<|tAs hS<|tO<|tY U (yG U<|wZ (key :=K.on) (m :=(ab.2.2:jw Int)) underlying3 underlying110 zeroValue3 (e.owm_rep 10 U) U U U)<|tAn U<|tP U (λw=>yG U<|kW U U)<|uF oI U U<|tO ?_
 have eD:∀ u∈([J<|(jw.get ab.2.2 K.on).getD 0]:List Value),u.oneCell'=true:=(Z U kE)
 let g2:=J<|(jw.get ab.2.2 K.on).getD 0
 refine tf0 U U (λa H=>mw (j:=3) (vs:=[g2]) 3 H e U U U sizeOf3 U U U eD U) ?_
 rintro _ w e
 replace e:Mem w0 ax _ [blk aJ [J c_.P,J c_.r,d6] 41,blk aK [J 0,J 0,nS] 41,blk aL [J N.P,J N.r,b0] 41,kY aS aT N.b.length aF (aI.1:List jq) aR.toNat [sl ah K.a ae,sl bJ K.i ak,J K.j,g2,ac],ow [sl ah K.a ae] aq.1,ow [sl bJ K.i ak] ab.1,ow [ac] K.n,blk W [J ab.2.1] 3,d1,f2,owm bD ab.2.2,d0]:=e
 refine tAn U<|tE ?_
 replace e:=(k9 K.j ((jw.get ab.2.2 K.on).getD 0) e 4 5 6 U).pk (L':=[_,_,_,_,_,_,_,_,_,_]) [0,1,2,3,4,7,8,9,10,11] U U
 replace e:=(e.shutE (y:=((⟨aq.1,ab.1,K.j,(jw.get ab.2.2 K.on).getD 0,K.n⟩:jq):jq)) 3 4 (by decide) U U).pk (L':=[_,_,_,_,_,_,_,_,_]) [0,1,2,3,5,6,7,8,9] U U
 have gj:=List.getElem?_set_self (a:=((⟨aq.1,ab.1,K.j,(jw.get ab.2.2 K.on).getD 0,K.n⟩:jq):jq))<|jx bS
 exact gz e [0,1,2,3,4,5,6,7,8] U
 refine gcf U<|gSk ?_
 replace e:=(k9 K.j K.on e 4 5 6 U).pk (L':=[_,_,_,_,_,_,_,_,_,_]) [0,1,2,3,4,7,8,9,10,11] U U
 replace e:=(e.shutE (y:=((⟨aq.1,ab.1,K.j,K.on,K.n⟩:jq):jq)) 3 4 (by decide) U U).pk (L':=[_,_,_,_,_,_,_,_,_]) [0,1,2,3,5,6,7,8,9] U U
 have gk:=List.getElem?_set_self (a:=((⟨aq.1,ab.1,K.j,K.on,K.n⟩:jq):jq))<|jx bS
 exact gz e [0,1,2,3,4,5,6,7,8] U
 repeat clear e
 intro cE w e
 refine gR<|Y U<|Y U<|gL e 6 isAgg110 U<|gg λeE eF bj=>?_
 obtain ⟨eG,eH,_,he⟩:=jy (e.ow_rep 5 U) bj
 obtain ⟨rfl,_,rfl⟩:=sl3 he
 obtain ⟨_,_,dF,eI⟩:=kn (e.ow_rep 5 U) bj
 have c9:=eI
 obtain ⟨dG,rfl,-⟩:=id c9
 replace c9:GT.rep (hp _) [dG] eE:=c9
 replace dF:kS (hp _) eG (eH+aR.toNat*1) [dG]:=dF
 have hL:=kB<|e.ow_rep 5 U
 refine gI bl8 eF (kL bj hL) U ?_
 have eJ:=xp e 7 U
 let g3:=ow [bD] (ab.2.2:jw Int)
 replace e:=e.imp (c':=g3) 7 U λF h0=>xw h0
 replace e:=e.imp (c':=g3) 7 U λF h0=>h0
 replace e:=(e.both 5 7 (by decide) U U).pk (L':=[_,_,_,_,_,_,_,_]) [0,1,2,3,4,5,6,8] U U
 refine gf0 U (λa H=>sO (x1:=(ab.2.2:jw Int)) (vs:=[bD]) 5 H e U bj U sizeOf110 U U eJ U) ?_
 rintro _ w e
 have gt:=List.getElem?_set_self (a:=(ab.2.2:jw Int))<|jx bj
 exact gE<|gR<|gP (by omega) (by omega) U<|Y U<|gE<|gZe λa H=>⟨ax,kR.le_trans bb dg,H.sb U,e.pk [0,1,2,3,4,5,7] U U⟩
 repeat clear e
 rintro _ bK a w ⟨gw,bk,H,e⟩ _ _
 refine gv H<|gS<|gR<|gB U<|gE<|gS<|go _ 38 U (decide_eq_false (by omega))<|gcf U<|gXt<|gHh<|gS<|gS<|gR<|gF kM U<|gL e 2 isAgg39 U ?_
 have hU:=o9<|e.ow_rep 3 U
 refine gY (yV kZ U)<|Y U<|gE ?_
 obtain ⟨bY,bl,a0,d5⟩:=e.freeze 5 U
 replace e:=d5.pk (L':=[_,_,_,_,_,_]) [0,1,2,3,4,6] U U
 clear d5
 replace a0:GT.rep bY [sl aQ aN aO] bK.2.2:=aq0 a0
 let a6:=blk aK [J 0,J 0,nS] 41
 let c4:=J<|(N.b.length:Int)
 let a4:=blk W [J bK.2.1] 3
 let h6:=blk aJ [J c_.P,J c_.r,sl af c_.b aZ] 41
 let c3:=sl aQ aN aO
 refine gBk<|gNf e (λau ca=>[(2,pV aJ),(4,pV aK),(5,pV aL),(6,pV W),(7,c3),(168,c4),(169,J au)]) (λau ca=>[h6,a6,blk aL [J N.P,J N.r,sl ao N.b aF] 41,ow [sl ao N.b aF] ca,a4]) [0,1,2,3,4] U ?_ ?_
 repeat clear e
 intro _ _ au ca w e _ _ _ _
 refine gS<|gR<|gB U<|gE<|gS<|go _ 170 U (decide_eq_true (by omega))<|gct U<|gSk<|gS<|gBk<|gS<|gR<|Y U<|gA U<|gE<|gS<|gR<|gY (yn (e.blk_at 0 U) isAgg41 sizeOf41 U)<|Y U<|gCg U call62 (nm _ c_ (sl af c_.b aZ) (e.now<|GT.mono (kR.le_trans bk bl) h1) au) ?_
 rintro ap _ _ w ⟨_,rfl,hB⟩
 replace e:=e.give hB;clear hB
 refine gA U<|gE<|gS<|gR<|gF kM U<|gL e 3 isAgg39 U<|Y U<|gg λbZ eK bm=>?_
 obtain ⟨ay,az,_,he⟩:=jy (e.ow_rep 4 U) bm
 obtain ⟨rfl,_,rfl⟩:=sl3 he
 obtain ⟨_,_,_,_,_,_,_⟩:=k4 (e.ow_rep 4 U) bm
 have hJ:=kB<|e.ow_rep 4 U
 refine gI kZ eK (kL bm hJ) U<|gF ko U ?_
 obtain ⟨_,_,_,e⟩:=lH e 4 U bm
 refine gY (yl isAgg66 ((e.holeE_at 7 U).cell (j:=0) U) U) ?_
 obtain ⟨_,_,rfl,_⟩:=ju<|e.ow_rep 2 U
 refine gY (yV lY U)<|Y U<|gE ?_
 obtain ⟨b8,bE,rfl,_⟩:=ju<|e.ow_rep 3 U
 refine gBk ?_
 replace e:=(k9 bZ.j bZ.on e 2 1 0 U).pk (L':=[_,_,_,_,_,_,_]) [2,3,4,5,6,7,8] U U
 replace e:=(e.shutE (y:=(bZ:jq)) 5 0 (by decide) U U).pk (L':=[_,_,_,_,_,_]) [1,2,3,4,5,6] U U
 rw [kq bm] at e
 let b5:=sw ay az N.b aF
 let g0:=blk aL [J N.P,J N.r,b5] 41
 let e3:=J<|(bZ.a.length:Int)
 refine gNf e (λan cb=>[(2,pV aJ),(4,pV aK),(5,pV aL),(6,pV W),(7,c3),(21,J au),(22,sl b8 ap bE),(168,c4),(169,J au),(181,e3),(182,J an)]) (λan cb=>[h6,a6,g0,ow [b5] cb,a4,os b8 ap bE]) [1,2,3,4,5,0] U ?_ ?_
 repeat clear e
 intro _ _ an cb w e _ _ _ _
 refine gS<|gR<|gB U<|gE<|gS<|go _ 183 U (decide_eq_true (by omega))<|gct U<|gSk<|gS<|gBk<|gS<|gR<|Y U<|gA U<|gE<|gS<|gR<|gF kM U<|gL e 0 isAgg39 U<|Y U<|gg λ_ eL cc=>?_
 obtain ⟨bo,bp,_,he⟩:=jy h1 cc
 obtain ⟨rfl,_,rfl⟩:=sl3 he
 obtain ⟨_,_,_,eM,dH,_,_⟩:=k4 h1 cc
 refine gI kZ eL (jx cc) U<|gF ko U<|gY (yl isAgg66 ((eM.mono<|kR.le_trans (kR.le_trans bk bl) e.lez).cell (j:=0) U) U)<|Y U<|gg λcF eN cd=>?_
 obtain ⟨_,_,_,he⟩:=jy dH cd
 subst he
 obtain ⟨_,eO,ce⟩:=mP dH cd
 refine gI lY eN (jx cd) U<|gF mT U<|gY (yl isAgg54 ((eO.mono<|kR.le_trans (kR.le_trans bk bl) e.lez).cell (j:=1) U) U) ?_
 obtain ⟨eP,dI,rfl,_⟩:=ju ce
 let hC:=blk aJ [J c_.P,J c_.r,sw bo bp c_.b aZ] 41
 let g7:=J<|(cF.A.length:Int)
 refine gY (yV kI U)<|Y U<|gE<|gBk<|gNf e (λaj b9=>[(2,pV aJ),(4,pV aK),(5,pV aL),(6,pV W),(7,c3),(21,J au),(22,sl b8 ap bE),(23,J an),(168,c4),(169,J au),(181,e3),(182,J an),(194,sl eP cF.A dI),(195,g7),(196,J aj)]) (λaj b9=>[hC,a6,g0,ow [b5] b9,a4,os b8 ap bE]) [0,1,2,3,4,5] U ?_ ?_
 repeat clear e
 intro _ _ aj b9 w e _ _ _ _
 refine gS<|gR<|gB U<|gE<|gS<|go _ 197 U (decide_eq_true (by omega))<|gct U<|gSk<|gS<|gBk<|gS<|gR<|Y U<|gg λaV eQ cf=>?_
 obtain ⟨eR,eS,_,he⟩:=kG ce cf
 obtain ⟨rfl,_,rfl⟩:=sl3 he
 refine gI kI eQ (jx cf) U<|gY (yl isAgg3 ((kC (cs:=[J aV]) (e.now<|GT.mono (kR.le_trans bk bl) ce) cf U).cell (j:=0) U) U)<|gA U<|gA U<|gE<|gJ e (λcG=>[(2,pV aJ),(4,pV aK),(5,pV aL),(6,pV W),(7,c3),(21,J au),(22,sl b8 ap bE),(23,J an),(168,c4),(169,J au),(181,e3),(182,J an),(194,sw eR eS cF.A dI),(195,g7),(196,J aj)]) (λcG=>[hC,a6,g0,ow [b5] cG,a4,os b8 ap bE]) (λcG=>?_) ?_
 refine gW (.p 0<|.p 2<|.p 6<|.p 10<|.p 11<|.p 12<|.p 13<|.p 14<|.p 18<|.q 1<|.p 3<|.p 4<|.q 15<|.p 16<|.e 5 (.p 7<|.p 8<|.e 9 (.e 17 (.e 19 (.p 20<|.e 21 .fin .nil) .nil) .nil)<|.e 17 (.q 19<|.e 9 (.p 20<|.e 21 .fin .nil) .nil) .nil)<|.e 17 (.q 19<|.e 5 (.p 7<|.p 8<|.e 9 (.p 20<|.e 21 .fin .nil) .nil) .nil) .nil) [1,5,9,15,17,19] [0,2,3,4,6,7,8,10,11,12,13,14,16,18,20] e [0,1,2,4,5] [_,_,_,_,_] U mxo (by kernel_rfl) (λ_ _ _ h=>h.2) λw e hS=>uF kM U U<|uM U U<|uM U U<|uM U U<|uM U U<|uM U U<|uM U U<|gg λdJ eT cg=>?_
 obtain ⟨ci,cj,_,he⟩:=kG (e.ow_rep 5 U) cg
 obtain ⟨rfl,_,rfl⟩:=sl3 he
 refine tP U (λw=>yI kI eT (jx cg) U)<|uM U U<|tQ U hS (λw e=>yL e 2 isAgg39 U)<|gg λL eU bO=>?_
 obtain ⟨_,_,_,_,_,_,_⟩:=k4 (e.ow_rep 3 U) bO
 have hP:=kB<|e.ow_rep 3 U
 refine tP U (λw=>yI kZ eU (kL bO hP) U)<|uF ko U U<|tQ U hS (λw e=>yl isAgg3 ((kC (cs:=[J dJ]) (e.ow_rep 4 U) cg U).cell (j:=0) U) U)<|gg λaW eV ck=>?_
 obtain ⟨eW,eX,_,he⟩:=jy a0 ck
 obtain ⟨rfl,_,rfl⟩:=sl3 he
 obtain ⟨_,_,bq,eY⟩:=kn a0 ck
 have ba:=eY
 obtain ⟨dK,rfl,-⟩:=id ba
 replace ba:GT.rep bY [dK] aW:=ba
 replace bq:kS bY eW (eX+dJ.toNat*1) [dK]:=bq
 refine tP U (λw=>yI bl8 eV (kL ck<|kB a0) U)<|gb λO dL=>gb λ_ cl=>tMo ?_ ?_
 obtain ⟨_,cH,cI,e⟩:=lH e 3 U bO
 refine tY U (yl isAgg66 ((e.holeE_at 6 U).cell (j:=0) U) U)<|tAk e [3,4,5,7,8] U λhS=>?_
 obtain ⟨eZ,bP⟩:=jz.1 dL
 obtain ⟨cJ,cK,cL,he⟩:=jy (e.ow_rep 2 U) bP
 subst he
 obtain ⟨_,_,_⟩:=mP (e.ow_rep 2 U) bP
 refine tP U (λw=>yI lY eZ (jx bP) U)<|uF mT U U<|tMo ?_ ?_
 obtain ⟨_,e⟩:=oS e 2 U bP
 refine tY U (yl isAgg54 ((e.holeE_at 3 U).cell (j:=1) U) U)<|tAk e [4,5,6,8,9] U λhS=>tO<|tY U (yl isAgg110 ((bq.mono e.lez).cell (j:=0) U) U)<|tAs hS<|tO<|tY U (yG U<|wZ (key:=aV) (m:=(aW:jw Int)) underlying3 underlying110 zeroValue3 (e.now ba) U U U)<|tAs hS ?_
 obtain ⟨ec,cM⟩:=jz.1 cl
 obtain ⟨dM,dN,dO,he⟩:=kG (e.ow_rep 0 U) cM
 subst he
 refine tP U (λw=>yI kI ec (jx cM) U)<|tO<|tf0 U U (λa H=>lI (x1:=(jw.get aW aV).getD 0) (j:=0) (vs:=[J<|(jw.get aW aV).getD 0]) 0 H e U cM U sizeOf3 U U U (Z U kE) U U) ?_
 rintro _ w e
 have jL:=List.getElem?_set_self (a:=(jw.get aW aV).getD 0)<|jx cM
 refine tAn U<|tE ?_
 replace e:Mem w0 bY _ [ow [J O.to,sw dM dN O.A dO] ((⟨O.to,O.A.set aj.toNat<|(jw.get aW aV).getD 0⟩:kA):kA),ow [cI] L.n,ow [cH] L.i,kY cJ cK L.a.length cL (L.a:List kA) an.toNat [J O.to,sw dM dN O.A dO],hC,a6,g0,kY ay az N.b.length aF (b9:List jq) au.toNat [sw cJ cK L.a cL,cH,J L.j,J L.on,cI],a4,ot ci cj ap bE]:=n8 O.to e 0 U
 replace e:=(e.shutE (y:=((⟨O.to,O.A.set aj.toNat<|(jw.get aW aV).getD 0⟩:kA):kA)) 3 0 (by decide) U U).pk (L':=[_,_,_,_,_,_,_,_,_]) [1,2,3,4,5,6,7,8,9] U U
 have jM:=List.getElem?_set_self (a:=((⟨O.to,O.A.set aj.toNat<|(jw.get aW aV).getD 0⟩:kA):kA))<|jx bP
 replace e:=(k9 L.j L.on e 2 1 0 U).pk (L':=[_,_,_,_,_,_,_]) [2,3,4,5,6,7,8] U U
 replace e:=(e.shutE (y:=((⟨L.a.set an.toNat (⟨O.to,O.A.set aj.toNat<|(jw.get aW aV).getD 0⟩:kA),L.i,L.j,L.on,L.n⟩:jq):jq)) 4 0 (by decide) U U).pk (L':=[_,_,_,_,_,_]) [1,2,3,4,5,6] U U
 have jN:=List.getElem?_set_self (a:=((⟨L.a.set an.toNat (⟨O.to,O.A.set aj.toNat<|(jw.get aW aV).getD 0⟩:kA),L.i,L.j,L.on,L.n⟩:jq):jq))<|jx bO
 exact gz e [0,1,2,3,4,5] U
 refine tO<|tY U (yl isAgg110 ((bq.mono e.lez).cell (j:=0) U) U)<|tAs hS<|tQ U hS (λw e=>yG U<|wZ (key:=aV) (m:=(aW:jw Int)) underlying3 underlying110 zeroValue3 (e.now ba) U U U)<|tO ?_
 obtain ⟨_,e⟩:=oS e 2 U bP
 refine tY U (yl isAgg54 ((e.holeE_at 3 U).cell (j:=1) U) U)<|tAk e [4,5,6,8,9] U λhS=>?_
 obtain ⟨ed,cN⟩:=jz.1 cl
 obtain ⟨dP,dQ,dR,he⟩:=kG (e.ow_rep 0 U) cN
 subst he
 refine tP U (λw=>yI kI ed (jx cN) U)<|tO<|tf0 U U (λa H=>lI (x1:=(jw.get aW aV).getD 0) (j:=0) (vs:=[J<|(jw.get aW aV).getD 0]) 0 H e U cN U sizeOf3 U U U (Z U kE) U U) ?_
 rintro _ w e
 have jP:=List.getElem?_set_self (a:=(jw.get aW aV).getD 0)<|jx cN
 refine tAn U<|tE ?_
 replace e:Mem w0 bY _ [ow [J O.to,sw dP dQ O.A dR] ((⟨O.to,O.A.set aj.toNat<|(jw.get aW aV).getD 0⟩:kA):kA),ow [cI] L.n,ow [cH] L.i,kY cJ cK L.a.length cL (L.a:List kA) an.toNat [J O.to,sw dP dQ O.A dR],blk aJ [J c_.P,J c_.r,sw bo bp c_.b aZ] 41,blk aK [J 0,J 0,nS] 41,blk aL [J N.P,J N.r,sw ay az N.b aF] 41,kY ay az N.b.length aF (b9:List jq) au.toNat [sw cJ cK L.a cL,cH,J L.j,J L.on,cI],blk W [J bK.2.1] 3,ot ci cj ap bE]:=n8 O.to e 0 U
 replace e:=(e.shutE (y:=((⟨O.to,O.A.set aj.toNat<|(jw.get aW aV).getD 0⟩:kA):kA)) 3 0 (by decide) U U).pk (L':=[_,_,_,_,_,_,_,_,_]) [1,2,3,4,5,6,7,8,9] U U
 have jQ:=List.getElem?_set_self (a:=((⟨O.to,O.A.set aj.toNat<|(jw.get aW aV).getD 0⟩:kA):kA))<|jx bP
 replace e:=(k9 L.j L.on e 2 1 0 U).pk (L':=[_,_,_,_,_,_,_]) [2,3,4,5,6,7,8] U U
 replace e:=(e.shutE (y:=((⟨L.a.set an.toNat (⟨O.to,O.A.set aj.toNat<|(jw.get aW aV).getD 0⟩:kA),L.i,L.j,L.on,L.n⟩:jq):jq)) 4 0 (by decide) U U).pk (L':=[_,_,_,_,_,_]) [1,2,3,4,5,6] U U
 have jR:=List.getElem?_set_self (a:=((⟨L.a.set an.toNat (⟨O.to,O.A.set aj.toNat<|(jw.get aW aV).getD 0⟩:kA),L.i,L.j,L.on,L.n⟩:jq):jq))<|jx bO
 exact gz e [0,1,2,3,4,5] U
 refine tO<|tY U (yl isAgg110 ((bq.mono e.lez).cell (j:=0) U) U)<|tAs hS<|tQ U hS (λw e=>yG U<|wZ (key:=aV) (m:=(aW:jw Int)) underlying3 underlying110 zeroValue3 (e.now ba) U U U)<|tO ?_
 obtain ⟨_,dS,dT,e⟩:=lH e 3 U bO
 refine tY U (yl isAgg66 ((e.holeE_at 6 U).cell (j:=0) U) U)<|tAk e [3,4,5,7,8] U λhS=>?_
 obtain ⟨ee,br⟩:=jz.1 dL
 obtain ⟨dU,dV,dW,he⟩:=jy (e.ow_rep 2 U) br
 subst he
 obtain ⟨_,_,_⟩:=mP (e.ow_rep 2 U) br
 refine tP U (λw=>yI lY ee (jx br) U)<|uF mT U U<|tO ?_
 obtain ⟨_,e⟩:=oS e 2 U br
 refine tY U (yl isAgg54 ((e.holeE_at 3 U).cell (j:=1) U) U)<|tAk e [4,5,6,8,9] U λhS=>?_
 obtain ⟨ef,cO⟩:=jz.1 cl
 obtain ⟨dX,dY,dZ,he⟩:=kG (e.ow_rep 0 U) cO
 subst he
 refine tP U (λw=>yI kI ef (jx cO) U)<|tO<|tf0 U U (λa H=>lI (x1:=(jw.get aW aV).getD 0) (j:=0) (vs:=[J<|(jw.get aW aV).getD 0]) 0 H e U cO U sizeOf3 U U U (Z U kE) U U) ?_
 rintro _ w e
 have jX:=List.getElem?_set_self (a:=(jw.get aW aV).getD 0)<|jx cO
 refine tAn U<|tE ?_
 replace e:Mem w0 bY _ [ow [J O.to,sw dX dY O.A dZ] ((⟨O.to,O.A.set aj.toNat<|(jw.get aW aV).getD 0⟩:kA):kA),ow [dT] L.n,ow [dS] L.i,kY dU dV L.a.length dW (L.a:List kA) an.toNat [J O.to,sw dX dY O.A dZ],blk aJ [J c_.P,J c_.r,sw bo bp c_.b aZ] 41,blk aK [J 0,J 0,nS] 41,blk aL [J N.P,J N.r,sw ay az N.b aF] 41,kY ay az N.b.length aF (b9:List jq) au.toNat [sw dU dV L.a dW,dS,J L.j,J L.on,dT],blk W [J bK.2.1] 3,ot ci cj ap bE]:=n8 O.to e 0 U
 replace e:=(e.shutE (y:=((⟨O.to,O.A.set aj.toNat<|(jw.get aW aV).getD 0⟩:kA):kA)) 3 0 (by decide) U U).pk (L':=[_,_,_,_,_,_,_,_,_]) [1,2,3,4,5,6,7,8,9] U U
 have jY:=List.getElem?_set_self (a:=((⟨O.to,O.A.set aj.toNat<|(jw.get aW aV).getD 0⟩:kA):kA))<|jx br
 replace e:=(k9 L.j L.on e 2 1 0 U).pk (L':=[_,_,_,_,_,_,_]) [2,3,4,5,6,7,8] U U
 replace e:=(e.shutE (y:=((⟨L.a.set an.toNat (⟨O.to,O.A.set aj.toNat<|(jw.get aW aV).getD 0⟩:kA),L.i,L.j,L.on,L.n⟩:jq):jq)) 4 0 (by decide) U U).pk (L':=[_,_,_,_,_,_]) [1,2,3,4,5,6] U U
 have jZ:=List.getElem?_set_self (a:=((⟨L.a.set an.toNat (⟨O.to,O.A.set aj.toNat<|(jw.get aW aV).getD 0⟩:kA),L.i,L.j,L.on,L.n⟩:jq):jq))<|jx bO
 exact gz e [0,1,2,3,4,5] U
 repeat clear e
 intro cG w e
 exact gR<|gP (by omega) (by omega) U<|Y U<|gE<|gze e [0,1,2,3,4,5] U
 repeat clear e
 intro _ _ w e _ _
 exact gS<|gR<|gB U<|gE<|gS<|go _ 197 U (decide_eq_false (by omega))<|gcf U<|gXt<|gHh<|gR<|gP (by omega) (by omega) U<|Y U<|gE<|gze e [0,1,2,3,4,5] U
 repeat clear e
 intro _ _ w e _ _
 exact gS<|gR<|gB U<|gE<|gS<|go _ 183 U (decide_eq_false (by omega))<|gcf U<|gXt<|gHh<|gR<|gP (by omega) (by omega) U<|Y U<|gE<|gze e [0,1,2,3,4] U
 repeat clear e
 intro _ _ w e _ _
 refine gS<|gR<|gB U<|gE<|gS<|go _ 170 U (decide_eq_false (by omega))<|gcf U<|gXt<|gHh<|gS<|gR<|gL e 4 isAgg3 U<|gF mF U<|gS1 e 2 sizeOf3 U U λw e=>gE<|gS<|gR<|gY (yn (e.blk_at 2 U) isAgg41 sizeOf41 U)<|gSN e 1 sizeOf41 (Z U<|Z U<|Z U kE) U λw e=>gE<|gRt ?_
 replace e:=e.thaw<|kR.le_trans bk bl
 exact grc 1 results34 e U isAgg41 sizeOf41 ⟨sl ao N.b aF,U,e.pk [3] U U⟩
abbrev as0:Go.Wk.Ord:=(.e 20 (.p 21 (.e 22 .fin .nil)) .nil)
abbrev ac5:Go.Wk.Ord:=(.e 17 (.p 18 (.e 19 as0 .nil)) .nil)
abbrev bo1:Go.Wk.Ord:=(.e 5 ac5 (.e 17 (.p 18 (.e 5 (.e 19 as0 .nil) (.e 19 (.e 5 as0 .nil) .nil))) .nil))
abbrev bo9:Go.Wk.Ord:=(.e 15 (.p 16 ac5) .nil)
theorem ap5 (W:World) (c_:jv) (v1:Value) (h1:rp W v1 c_.b) :
    k6 Tryz.prog 16 [.agg #[J c_.P,J c_.r,v1]] W (nf c_) λr v w'=>∃ (x1:Value),v=(.agg #[J r.P,J r.r,x1])/\Mem W (hp W) w' [ow [x1] r.b]:=by
 unfold nf
 refine kQ func16 U λr e=>?_
 refine S<|gBx e U λaO w e=>gAl e zeroValue41 U λaP w e=>S<|gA U<|gS<|S<|gY (yn (e.blk_at 1 U) isAgg41 sizeOf41 U)<|gCg U call28 (xX _ c_ v1<|e.now h1) ?_
 rintro bO _ _ w ⟨dL,_,cd,rfl,hB⟩
 replace e:=e.give hB
 refine gY (yG U<|kW U U)<|gF zJ U<|gL e 0 isAgg58 U<|gg λbf dM bg=>?_
 obtain ⟨cN,cO,ce,he⟩:=jy (e.ow_rep 1 U) bg
 subst he
 obtain ⟨_,_,_,dN⟩:=kn (e.ow_rep 1 U) bg
 have cP:=dN
 obtain ⟨_,rfl,-⟩:=id cP
 refine gI bg3 dM (jx bg) U ?_
 obtain ⟨_,dO,e⟩:=e.openE 1 U bg
 have dP:=e.ow_rep 0 U
 have bh:=dP
 obtain ⟨bi,rfl,-⟩:=id bh
 replace bh:GT.rep (hp _) [bi] bf:=bh
 clear dO bh
 replace e:Mem W (hp W) _ [ow [bi] (bf:jw Bool),blk dL [J bO.c.P,J bO.c.r,v1,sw cN cO bO.i ce,cd] 61,kY cN cO bO.i.length ce (bO.i:List (jw Bool)) (0:Int).toNat [bi],ow [cd] bO.g,blk aP [J 0,J 0,nS] 41,blk aO [J c_.P,J c_.r,v1] 41]:=e
 replace e:=e.d [0,1,2,3,4,5] U
 refine gY (yl isAgg57 ((e.holeE_at 2 U).cell (j:=0) U) U)<|gCg U call27 (rF _ bf bi<|e.ow_rep 0 U) ?_
 rintro au _ _ w ⟨_,rfl,hB⟩
 replace e:=e.give hB
 obtain ⟨bU,bJ,rfl,_⟩:=ju<|e.ow_rep 0 U
 refine gY (yV kI U)<|Y U<|gBk ?_
 replace e:=e.nilow (α:=kD)
 let aU:=blk aO [J c_.P,J c_.r,v1] 41
 let b6:=blk aP [J 0,J 0,nS] 41
 refine gNg (λbj bk a w=>∃ (bV:Value),St 157 [(1,pV aO),(2,pV aP),(3,bV),(24,sl bU au bJ),(25,J<|(au.length:Int)),(26,J bj)] W (hp W) [aU,b6,ow [bV] bk,os bU au bJ] a w) (λa H=>⟨nS,H.sb U,e.d [7,6,0,1] U⟩) ?_ ?_
 rintro _ _ bj bk a w ⟨bV,H,e⟩ _ _ _ _
 refine gv H<|S<|gB U<|gS<|go _ 27 U (decide_eq_true (by omega))<|gct U<|gSk<|gS<|gJg (λcQ a w=>∃ (bl:Value),St 157 [(1,pV aO),(2,pV aP),(3,bl),(24,sl bU au bJ),(25,J<|(au.length:Int)),(26,J bj)] W (hp W) [aU,b6,ow [bl] cQ,os bU au bJ] a w) (λcQ=>?_) ?_
 refine gBk<|S<|gg λbG dQ cR=>?_
 obtain ⟨cS,cT,rfl⟩:=jA (e.ow_rep 3 U) cR
 refine gI kI dQ (jx cR) U<|gY (yl isAgg3 ((kC (cs:=[J bG]) (e.ow_rep 3 U) cR U).cell (j:=0) U) U)<|gA U<|S<|Y U<|gF nD U<|gL e 0 isAgg3 U<|gB U<|gJg (λcU a w=>∃ (bm:Value),St 157 [(1,pV aO),(2,pV aP),(3,bm),(24,sw cS cT au bJ),(25,J<|(au.length:Int)),(26,J bj)] W (hp W) [aU,b6,ow [bm] cU,ot cS cT au bJ] a w) (λcU=>?_) ?_
 refine gsd 33 U (λdR=>?_) λdR=>?_
 refine gct U<|gR<|Y U<|Y U<|gY (yG U<|mV (vs :=[(0,(J 1)),(1,(J bG))]) (cs :=#[J 1,J bG,nS,J 0]) U U (by kernel_rfl))<|gf U (λa H=>kj (vs :=#[(0,(.agg #[J 1,J bG,nS,J 0]))]) (cs :=[J 1,J bG,nS,J 0]) pq H e U U (by kernel_rfl) U U) ?_
 rintro _ w ⟨dS,rfl,e⟩
 replace e:=e.els_nil (α:=kD)
 replace e:=e.nilow (α:=Int)
 replace e:Mem W (hp W) _ [ow [J 1,J bG,nS,J 0] ((⟨1,bG,[],0⟩:kD):kD),els [] ([]:List kD),blk dS [J 1,J bG,nS,J 0] 65,aU,b6,ow [bV] bk,ot cS cT au bJ]:=tX 1 bG 0 e 0 U
 replace e:=(e.els_cons 1 0 (dt U) U U).d [1,2,3,4,5,6] U
 replace e:=(e.lit_els 1 0 (dt U) U U U U).d [1,2,3,4,5] U
 refine gb λ_ dT=>?_
 obtain ⟨dU,dV⟩:=kP.1 dT
 replace e:=(e.both 3 0 (dt U) U U).d [1,2,3,4] U
 refine gf U (λa H=>lW (xs:=bk) (ys:=([(⟨1,bG,[],0⟩:kD)]:List kD)) 2 pq H e U U U U dU) ?_
 rintro dW w e
 rw [dV] at e
 exact gA U<|gE<|gZ λa H=>⟨dW,H.sb U,e.d [0,1,2,3] U⟩
 exact gcf U<|gSk<|gZ λa H=>⟨bV,H.sb U,e.d [0,1,2,3] U⟩
 rintro cU a w ⟨bm,H,e⟩
 exact gv H<|gZ λa H=>⟨bm,H.sb U,e.d [0,1,2,3] U⟩
 rintro cQ a w ⟨bl,H,e⟩
 exact gv H<|gR<|gp U<|Y U<|gE<|gZe λa H=>⟨bl,H.sb U,e.d [0,1,2,3] U⟩
 rintro _ dX a w ⟨_,H,e⟩ _ _
 refine gv H<|S<|gB U<|gS<|lF 27 U U<|gHh<|S<|gY (yn (e.blk_at 0 U) isAgg41 sizeOf41 U)<|gCg U call29 (uk _ c_ v1<|e.now h1) ?_
 rintro M _ _ w ⟨_,rfl,hB⟩
 replace e:=e.give hB
 refine gSN e 1 sizeOf41 (Z U<|Z U<|Z (kF<|e.ow_rep 0 U) kE) U λw e=>gS<|gg λO ci bW=>?_
 obtain ⟨aE,aF,aG,he⟩:=jy (e.ow_rep 0 U) bW
 subst he
 obtain ⟨cj,_,ck,e⟩:=lH e 0 U bW
 refine gW (.p 0<|.p 2<|.p 3<|.q 1<|.e 4 (.p 5<|.p 6<|.e 7 (.e 8 (.p 9<|.p 10<|.e 11 .fin .nil) .nil) .nil) .nil) [4,7,8] [0,2,3,5,6,9,10] e [0,2,3,4,5,7] [_,_,_,_,_,_] U mxo (by kernel_rfl) (λ_ _ _ h=>h.2) λw e hS=>uF kM U U<|uM U U<|uF kM U U<|tQ U hS (λw e=>yL e 3 isAgg39 U)<|tO<|tY U (yL e 4 isAgg39 U)<|tAs hS ?_
 have h5:=e.holeE_len 3 U
 refine tP U (λw=>yI kZ ci (kL bW h5) U)<|uF lC U U<|tO<|tY U (yl isAgg53 ((e.holeE_at 3 U).cell (j:=1) U) U)<|tAs hS<|tO<|gb λaf dY=>?_
 obtain ⟨dZ,d7⟩:=kP.1 dY
 replace e:=(e.both 6 1 (dt U) U U).d [0,2,3,4,5,6,7] U
 refine tf U U (λa H=>lW (xs:=dX) (ys:=O.i) 5 pq H e U U U U dZ) ?_
 rintro bo w e
 rw [d7] at e
 refine tAk e [0,1,2,3,4,6] U λhS=>?_
 have h8:=e.holeE_len 2 U
 refine tP U (λw=>yI kZ ci (kL bW h8) U)<|uF lC U U<|tO ?_
 have cl:∀ u∈([bo]:List Value),u.oneCell'=true:=(Z (kF<|e.ow_rep 5 U) kE)
 refine tf0 U U (λa H=>mw (j:=1) (vs:=[bo]) 2 H e U U U sizeOf53 U U (nA<|cl _<|List.mem_singleton.2 U) cl U) ?_
 rintro _ w e
 replace e:Mem W (hp W) _ [ow [ck] O.n,ow [cj] O.a,kY aE aF M.b.length aG (M.b:List jq) (0:Int).toNat [cj,bo,J O.j,J O.on,ck],blk aO [J M.P,J M.r,sw aE aF M.b aG] 41,blk aP [J 0,J 0,nS] 41,ow [bo] af,os bU au bJ]:=e
 refine tAn U<|tE<|gS ?_
 replace e:=(k9 O.j O.on e 1 5 0 U).d [1,2,3,4,6] U
 replace e:=(e.shutE (y:=((⟨O.a,af,O.j,O.on,O.n⟩:jq):jq)) 1 0 (dt U) U U).d [1,2,3,4] U
 let e0:=sw aE aF M.b aG
 refine gW (.q 0<|.q 2<|.q 4<|.e 1 (.e 3 (.e 5 (.p 6<|.p 7<|.p 8 .fin) .nil) .nil) .nil) [0,1,2,3,4] [6,7,8] e [0,1,2,3] [_,_,_,_] U mxo (by kernel_rfl) (λ_ _ _ h=>h.2) λw e hS=>tQ U hS (λw e=>yn (e.blk_at 1 U) isAgg41 sizeOf41 U)<|tQ U hS (λw e=>yn (e.blk_at 1 U) isAgg41 sizeOf41 U)<|tQ U hS (λw e=>yn (e.blk_at 1 U) isAgg41 sizeOf41 U)<|tO<|gb λ_ d8=>tf U U (λa H=>ki H U call30 U<|qL _ (⟨M.P,M.r,M.b.set (0:Int).toNat (⟨O.a,af,O.j,O.on,O.n⟩:jq)⟩:jv) e0 (e.ow_rep 0 U) _ d8) ?_
 rintro _ w cV
 rcases cV with ⟨rfl,rfl,hB⟩ | ⟨K,rfl,cV⟩
 replace e:=e.below' hB
 exact gon gno
 obtain ⟨aS,_,_,rfl,hB⟩:=cV
 replace e:=e.give hB
 refine gos<|tAk e [3,4,5,6] U λhS=>tO<|gb λL d9=>tf U U (λa H=>ki H U call28 U<|xX _ (⟨M.P,M.r,M.b.set (0:Int).toNat (⟨O.a,af,O.j,O.on,O.n⟩:jq)⟩:jv) e0 (e.ow_rep 3 U) _ d9) ?_
 rintro _ w ⟨aW,_,_,rfl,hB⟩
 replace e:=e.give hB
 refine tAk e [6,7,8,9] U λhS=>tO<|gb λaI da=>tf U U (λa H=>ki H U call31 U<|ox _ (⟨M.P,M.r,M.b.set (0:Int).toNat (⟨O.a,af,O.j,O.on,O.n⟩:jq)⟩:jv) e0 (e.ow_rep 6 U) _ da) ?_
 rintro _ w ⟨_,rfl,hB⟩
 replace e:=e.give hB
 refine tAn U<|uA U U<|uA U U<|uA U U<|tE<|S<|gF kM U<|gL e 8 isAgg39 U ?_
 have fJ:=o9<|e.ow_rep 7 U
 refine gY (yV kZ U)<|gb λaQ db=>?_
 obtain ⟨⟨dc,dd⟩,cm⟩:=lU.1 db
 refine gf U (λa H=>ni (x0:=([]:List kA)) db7 (λ_=>ke.2<|.inl ⟨U,U⟩) H e U U U dc (Int.le_refl _) dd) ?_
 rintro _ w e
 rw [cm] at e
 have hI:(aQ.length:Int)=(M.b.length:Int):=by rw [<- cm];simp only [List.length_replicate];omega
 refine gA U<|gS<|S<|gF mF U<|gL e 9 isAgg3 U<|Y U ?_
 obtain ⟨aJ,aK,rfl,_⟩:=ju<|e.ow_rep 6 U
 obtain ⟨aL,aM,rfl,_⟩:=ju<|e.ow_rep 7 U
 obtain ⟨bB,aT,rfl,_⟩:=ju<|e.ow_rep 3 U
 obtain ⟨ar,aV,rfl,_⟩:=ju<|e.ow_rep 4 U
 obtain ⟨bp,aX,rfl,_⟩:=ju<|e.ow_rep 1 U
 obtain ⟨aw,aR,rfl,_⟩:=ju<|e.ow_rep 0 U
 refine gBk<|gb λ_ _=>?_
 let f4:=sw aE aF M.b aG
 let hD:=ow [f4]<|M.b.set (0:Int).toNat (⟨O.a,af,O.j,O.on,O.n⟩:jq)
 let e4:=blk aS [J K.c.P,J K.c.r,f4,sl aJ K.o aK,sl aL K.I aM] 101
 let e1:=blk aW [J L.c.P,J L.c.r,f4,sl bB L.i aT,sl ar L.g aV] 61
 let a3:=J M.r
 let e9:=blk aO [J M.P,a3,f4] 41
 let d5:=blk aP [J 0,J 0,nS] 41
 refine gNf e (λN bP=>[(1,pV aO),(2,pV aP),(6,pV aS),(7,pV aW),(8,sl bp aI aX),(9,sl aw aQ aR),(64,a3),(65,J N)]) (λN bP=>[e9,hD,d5,e4,os aJ K.o aK,os aL K.I aM,e1,os bB L.i aT,os ar L.g aV,os bp aI aX,ow [sl aw aQ aR] bP]) [9,8,10,5,6,7,2,3,4,1,0] U ?_ ?_
 intro _ _ N bP w e _ _ _ _
 refine S<|gB U<|gS<|lT 66 U U<|S<|Y U<|gA U<|S<|gA U<|gS<|S<|Y U<|gF nD U<|gL e 0 isAgg3 U<|gB U<|gJg (λbX a w=>∃ (bq:Value),St 157 [(1,pV aO),(2,pV aP),(6,pV aS),(7,pV aW),(8,sl bp aI aX),(9,sl aw aQ aR),(10,J N),(11,bq),(64,a3),(65,J N)] W (hp W) [e9,hD,d5,e4,os aJ K.o aK,os aL K.I aM,e1,os bB L.i aT,os ar L.g aV,os bp aI aX,ow [sl aw aQ aR] bP,ow [bq] bX] a w) (λbX=>?_) ?_
 refine gsd 71 U (λde=>?_) λde=>?_
 refine gct U<|gR<|Y U<|gf U (λa H=>kj (vs :=#[(0,(J 0))]) (cs :=[J 0]) kg H e U U (by kernel_rfl) U U) ?_
 rintro _ w ⟨_,rfl,e⟩
 replace e:=e.lit (xs:=([0]:List Int)) 0 U U U U
 replace e:=e.nilow (α:=Int)
 refine gb λ_ df=>?_
 obtain ⟨dg,dh⟩:=kP.1 df
 refine gf U (λa H=>kz 0 kg H e U (e.ow_rep 1 U) U U U dg) ?_
 rintro di w e
 rw [dh] at e
 exact gA U<|gE<|gZ λa H=>⟨di,H.sb U,e.d [2,3,4,5,6,7,8,9,10,11,12,0] U⟩
 refine gcf U<|gSk ?_
 replace e:=e.nilow (α:=Int)
 exact gZ λa H=>⟨nS,H.sb U,e.d [1,2,3,4,5,6,7,8,9,10,11,0] U⟩
 rintro bX a w ⟨bq,H,e⟩
 refine gv H<|gS<|S<|Y U<|Y U<|gg λbE dk bY=>?_
 obtain ⟨aZ,aa,rfl⟩:=jA (e.ow_rep 9 U) bY
 obtain ⟨_,_,_,dl⟩:=kn (e.ow_rep 9 U) bY
 have cW:=dl
 obtain ⟨_,rfl,-⟩:=id cW
 refine gI ti dk (jx bY) U ?_
 obtain ⟨_,dm,e⟩:=e.openE 9 U bY
 have dp:=e.ow_rep 0 U
 have br:=dp
 obtain ⟨cX,rfl,-⟩:=id br
 replace br:GT.rep (hp _) [cX] bE:=br
 clear dm br
 replace e:Mem W (hp W) _ [ow [cX] (bE:List kf),e9,hD,d5,e4,os aJ K.o aK,os aL K.I aM,e1,os bB L.i aT,os ar L.g aV,kY aZ aa aI.length aX (aI:List (List kf)) N.toNat [cX],ow [sl aw aQ aR] bP,ow [bq] bX]:=e
 replace e:=e.d [0,1,2,3,4,5,6,7,8,9,10,11,12] U
 refine gY (yl isAgg74 ((e.holeE_at 10 U).cell (j:=0) U) U) ?_
 obtain ⟨bt,bu,rfl,_⟩:=ju<|e.ow_rep 0 U
 refine gY (yV xD U)<|Y U ?_
 obtain ⟨dq,dr,rfl,_⟩:=ju<|e.ow_rep 12 U
 let c3:=sw aE aF M.b aG
 let f3:=ow [c3]<|M.b.set (0:Int).toNat (⟨O.a,af,O.j,O.on,O.n⟩:jq)
 let f1:=blk aS [J K.c.P,J K.c.r,c3,sl aJ K.o aK,sl aL K.I aM] 101
 let e2:=blk aW [J L.c.P,J L.c.r,c3,sl bB L.i aT,sl ar L.g aV] 61
 let c2:=blk aO [J M.P,a3,c3] 41
 let b0:=blk aP [J 0,J 0,nS] 41
 let a2:=sl aw aQ aR
 let b7:=os ar L.g aV
 let b4:=os aJ K.o aK
 let a9:=os aL K.I aM
 refine gBk<|gNg (λcr ct a w=>∃ (cY:Value),St 157 [(1,pV aO),(2,pV aP),(6,pV aS),(7,pV aW),(8,sw aZ aa aI aX),(9,a2),(10,J N),(11,cY),(64,a3),(65,J N),(78,sl bt bE bu),(79,J<|(bE.length:Int)),(80,J cr)] W (hp W) [c2,f3,b0,f1,b4,a9,e2,os bB L.i aT,b7,kY aZ aa aI.length aX (aI:List (List kf)) N.toNat [sl bt bE bu],os bt bE bu,ow [a2] bP,ow [cY] ct] a w) (λa H=>⟨sl dq bX dr,H.sb U,e.d [1,2,3,4,5,6,7,8,9,10,0,11,12] U⟩) ?_ ?_
 rintro _ _ cr ct a w ⟨cY,H,e⟩ _ _ _ _
 refine gv H<|S<|gB U<|gS<|lT 81 U U<|S<|gg λbZ du cZ=>?_
 obtain ⟨_,_,rfl⟩:=jA (e.ow_rep 10 U) cZ
 refine gI xD du (jx cZ) U<|gY (yn (kC (cs:=[J bZ.block,J bZ.i]) (e.ow_rep 10 U) cZ U) isAgg76 sizeOf76 U)<|gAl e zeroValue76 U λ_ w e=>gSN e 0 sizeOf76 (Z U<|Z U kE) U λw e=>gR<|Y U<|gF xu U<|gL e 0 isAgg3 U<|gf U (λa H=>kj (vs:=#[(0,J bZ.block)]) (cs:=[J bZ.block]) kg H e U U (by kernel_rfl) U U) ?_
 rintro _ w ⟨_,rfl,e⟩
 replace e:=e.lit (xs:=([bZ.block]:List Int)) 0 U U U U
 refine gb λ_ dv=>?_
 obtain ⟨dw,dx⟩:=kP.1 dv
 refine gf U (λa H=>kz 14 kg H e U (e.ow_rep 0 U) U U U dw) ?_
 rintro dy w e
 rw [dx] at e
 exact gA U<|gR<|gp U<|Y U<|gE<|gZe λa H=>⟨dy,H.sb U,e.d [2,3,4,5,6,7,8,9,10,11,12,13,14] U⟩
 rintro _ dz a w ⟨eA,H,e⟩ _ _
 refine gv H<|S<|gB U<|gS<|lF 81 U U<|gHh<|gS ?_
 replace e:=e.imp (c':=ow [sl bt bE bu] (bE:List kf)) 10 U λF h0=>h0
 replace e:=(e.shutE (y:=(bE:List kf)) 9 10 (dt U) U U).d [0,1,2,3,4,5,6,7,8,9,11,12] U
 rw [kq bY] at e
 refine gR<|Y U<|Y U<|gCg U call32 (tk _ (⟨(⟨K.c.P,K.c.r,M.b.set (0:Int).toNat (⟨O.a,af,O.j,O.on,O.n⟩:jq)⟩:jv),K.o,K.I⟩:ld) aS c3 (e.ow_rep 1 U) (sl aJ K.o aK) (e.ow_rep 4 U) (sl aL K.I aM) (e.ow_rep 5 U) (e.blk_cells 3 U).1 dz eA<|e.ow_rep 11 U) ?_
 rintro aN _ _ w ⟨_,rfl,hB⟩
 replace e:=e.give hB
 obtain ⟨bv,ah,rfl,_⟩:=ju<|e.ow_rep 0 U
 refine gY (yV kI U)<|Y U<|gBk<|gNf e (λbC ax=>[(1,pV aO),(2,pV aP),(6,pV aS),(7,pV aW),(8,sw aZ aa aI aX),(9,a2),(10,J N),(64,a3),(65,J N),(92,sl bv aN ah),(93,J<|(aN.length:Int)),(94,J bC)]) (λbC ax=>[c2,f3,b0,f1,b4,a9,e2,os bB L.i aT,b7,ot aZ aa aI aX,ow [a2] ax,os bv aN ah]) [1,2,3,4,5,6,7,8,9,10,11,0] U ?_ ?_
 intro _ _ bC ax w e _ _ _ _
 refine S<|gB U<|gS<|go _ 95 U (decide_eq_true (by omega))<|gct U<|gSk<|gS<|gJ e (λbx=>[(1,pV aO),(2,pV aP),(6,pV aS),(7,pV aW),(8,sw aZ aa aI aX),(9,a2),(10,J N),(64,a3),(65,J N),(92,sl bv aN ah),(93,J<|(aN.length:Int)),(94,J bC)]) (λbx=>[c2,f3,b0,f1,b4,a9,e2,os bB L.i aT,b7,ot aZ aa aI aX,ow [a2] bx,os bv aN ah]) (λbx=>?_) ?_
 refine gBk<|S<|gg λaY eB c7=>?_
 obtain ⟨ao,ap,rfl⟩:=jA (e.ow_rep 11 U) c7
 refine gI kI eB (jx c7) U<|gY (yl isAgg3 ((kC (cs:=[J aY]) (e.ow_rep 11 U) c7 U).cell (j:=0) U) U)<|gA U<|S<|Y U<|gY (yG U<|kW U U)<|gF zJ U<|gL e 6 isAgg58 U<|Y U<|gg λbK eC bQ=>?_
 obtain ⟨ac,ae,rfl⟩:=jA (e.ow_rep 7 U) bQ
 obtain ⟨_,_,_,eD⟩:=kn (e.ow_rep 7 U) bQ
 have c8:=eD
 obtain ⟨_,rfl,-⟩:=id c8
 refine gI bg3 eC (jx bQ) U ?_
 obtain ⟨_,eE,e⟩:=e.openE 7 U bQ
 have eF:=e.ow_rep 0 U
 have bz:=eF
 obtain ⟨b8,rfl,-⟩:=id bz
 replace bz:GT.rep (hp _) [b8] bK:=bz
 clear eE bz
 replace e:Mem W (hp W) _ [ow [b8] (bK:jw Bool),c2,f3,b0,f1,b4,a9,blk aW [J L.c.P,J L.c.r,c3,sw ac ae L.i aT,sl ar L.g aV] 61,kY ac ae L.i.length aT (L.i:List (jw Bool)) aY.toNat [b8],b7,ot aZ aa aI aX,ow [a2] ax,ot ao ap aN ah]:=e
 replace e:=e.d [0,1,2,3,4,5,6,7,8,9,10,11,12] U
 let a8:=sw aE aF M.b aG
 let g3:=ow [a8]<|M.b.set (0:Int).toNat (⟨O.a,af,O.j,O.on,O.n⟩:jq)
 let g5:=blk aW [J L.c.P,J L.c.r,a8,sw ac ae L.i aT,sl ar L.g aV] 61
 let f5:=blk aS [J K.c.P,J K.c.r,a8,sl aJ K.o aK,sl aL K.I aM] 101
 let fW:=blk aO [J M.P,J M.r,a8] 41
 refine gY (yl isAgg57 ((e.holeE_at 8 U).cell (j:=0) U) U)<|Y U<|gY (yG U<|br6 (key:=N) (m:=(bK:jw Bool)) underlying3 underlying57 zeroValue4 (e.ow_rep 0 U) U U U)<|gJ e (λcA=>[(1,pV aO),(2,pV aP),(6,pV aS),(7,pV aW),(8,sw aZ aa aI aX),(9,sl aw aQ aR),(10,J N),(64,J M.r),(65,J N),(92,sw ao ap aN ah),(93,J<|(aN.length:Int)),(94,J bC)]) (λcA=>[fW,g3,blk aP [J 0,J 0,nS] 41,f5,os aJ K.o aK,os aL K.I aM,g5,ot ac ae L.i aT,os ar L.g aV,ot aZ aa aI aX,ow [sl aw aQ aR] cA,ot ao ap aN ah]) (λcA=>?_) ?_
 refine gs 106 U (λeG=>?_) λeG=>?_
 refine gct U ?_
 replace e:=e.imp (c':=ow [b8] (bK:jw Bool)) 0 U λF h0=>h0
 replace e:=(e.shutE (y:=(bK:jw Bool)) 8 0 (dt U) U U).d [1,2,3,4,5,6,7,8,9,10,11,12] U
 rw [kq bQ] at e
 refine gg λbD cx b9=>?_
 obtain ⟨ai,aj,rfl⟩:=jA (e.ow_rep 10 U) b9
 obtain ⟨_,eH,e⟩:=e.openE 10 U b9
 have eI:=e.ow_rep 0 U
 have cB:=eI
 obtain ⟨ak,rfl,-⟩:=id cB
 replace cB:GT.rep (hp _) [ak] bD:=cB
 clear eH cB
 replace e:Mem W (hp W) _ [ow [ak] (bD:List kA),fW,g3,blk aP [J 0,J 0,nS] 41,f5,os aJ K.o aK,os aL K.I aM,g5,ot ac ae L.i aT,os ar L.g aV,ot aZ aa aI aX,kY ai aj aQ.length aR (ax:List (List kA)) aY.toNat [ak],ot ao ap aN ah]:=e
 replace e:=e.d [0,1,2,3,4,5,6,7,8,9,10,11,12] U
 refine gg λal eJ cC=>?_
 obtain ⟨am,an,rfl⟩:=jA (e.ow_rep 9 U) cC
 obtain ⟨_,eK,e⟩:=e.openE 9 U cC
 have eL:=e.ow_rep 0 U
 have cD:=eL
 obtain ⟨aq,rfl,-⟩:=id cD
 replace cD:GT.rep (hp _) [aq] al:=cD
 clear eK cD
 let b5:=sw aE aF M.b aG
 replace e:Mem W (hp W) _ [ow [aq] (al:List Int),ow [ak] bD,blk aO [J M.P,J M.r,b5] 41,ow [b5]<|M.b.set (0:Int).toNat (⟨O.a,af,O.j,O.on,O.n⟩:jq),blk aP [J 0,J 0,nS] 41,blk aS [J K.c.P,J K.c.r,b5,sl aJ K.o aK,sl aL K.I aM] 101,os aJ K.o aK,os aL K.I aM,blk aW [J L.c.P,J L.c.r,b5,sw ac ae L.i aT,sw am an L.g aV] 61,ot ac ae L.i aT,kY am an L.g.length aV (L.g:List (List Int)) aY.toNat [aq],ot aZ aa aI aX,kY ai aj aQ.length aR (ax:List (List kA)) aY.toNat [ak],ot ao ap aN ah]:=e
 replace e:=e.d [0,1,2,3,4,5,6,7,8,9,10,11,12,13] U
 let f2:=sw aE aF M.b aG
 let h4:=ow [f2]<|M.b.set (0:Int).toNat (⟨O.a,af,O.j,O.on,O.n⟩:jq)
 let h6:=blk aW [J L.c.P,J L.c.r,f2,sw ac ae L.i aT,sw am an L.g aV] 61
 let e7:=blk aS [J K.c.P,J K.c.r,f2,sl aJ K.o aK,sl aL K.I aM] 101
 let a4:=J M.r
 let d1:=blk aO [J M.P,a4,f2] 41
 let e8:=blk aP [J 0,J 0,nS] 41
 refine gJ e (λcE=>[(1,pV aO),(2,pV aP),(6,pV aS),(7,pV aW),(8,sw aZ aa aI aX),(9,sw ai aj aQ aR),(10,J N),(64,a4),(65,J N),(92,sw ao ap aN ah),(93,J<|(aN.length:Int)),(94,J bC)]) (λcE=>[d1,h4,e8,e7,os aJ K.o aK,os aL K.I aM,h6,ot ac ae L.i aT,ot am an L.g aV,ot aZ aa aI aX,ow [sw ai aj aQ aR] cE,ot ao ap aN ah]) (λcE=>?_) ?_
 refine gW (.p 0<|.p 1<|.p 2<|.p 3<|.p 4<|.p 6<|.p 7<|.p 9<|.p 10<|.p 11<|.p 13<|.q 12<|.p 14<|.e 5 (.e 8 bo9<|.e 15 (.p 16<|.e 8 ac5 .nil) .nil)<|.e 8 (.e 5 bo9<|.e 15 (.p 16 bo1) .nil)<|.e 15 (.p 16<|.e 5 (.e 8 ac5 .nil)<|.e 8 bo1 .nil) .nil) [5,8] [0,1,2,3,4,6,7,9,10,11,13,14,16,18,21] e [0,1,2,3,4,5,6,7,8,9,10,11,12,13] [_,_,_,_,_,_,_,_,_,_,_,_,_,_] U mxo (by kernel_rfl) (λ_ _ _ h=>h.2) λw e hS=>uM U U<|uM U U<|uM U U<|uM U U ?_
 have hC:=e.holeE_len 12 U
 refine tP U (λw=>yI ci9 cx (kL b9 hC) U)<|uM U U<|uM U U<|uM U U<|tP U (λw=>yG U<|kW U U)<|uF ah9 U U<|uM U U<|tQ U hS (λw e=>yL e 8 isAgg59 U) ?_
 have h7:=e.holeE_len 10 U
 refine tP U (λw=>yI bs3 eJ (kL cC h7) U)<|gb λay cy=>gb λcF eM=>tSh as0 (λa w=>∃ (c9:Value),St 157 [(1,pV aO),(2,pV aP),(6,pV aS),(7,pV aW),(8,sw aZ aa aI aX),(9,sw ai aj aQ aR),(10,J N),(64,a4),(65,J N),(92,sw ao ap aN ah),(93,J<|(aN.length:Int)),(94,J bC),(107,sw ai aj aQ aR),(108,J aY),(112,ak),(126,c9)] W (hp W) [d1,h4,e8,e7,os aJ K.o aK,os aL K.I aM,h6,ot ac ae L.i aT,kY am an L.g.length aV (L.g:List (List Int)) aY.toNat [aq],ow [aq] al,ot aZ aa aI aX,kY ai aj aQ.length aR (ax:List (List kA)) aY.toNat [ak],ow [ak] bD,ot ao ap aN ah,ow [c9] ([(⟨N,ay⟩:kA)]:List kA)] a w) ?_ λe5=>?_
 rintro a w ⟨c9,H,e⟩
 refine gv H<|tO ?_
 obtain ⟨eN,eO⟩:=kP.1 eM
 replace e:=(e.both 12 14 (dt U) U U).d [0,1,2,3,4,5,6,7,8,9,10,11,12,13] U
 refine tf U U (λa H=>lW (xs:=bD) (ys:=([(⟨N,ay⟩:kA)]:List kA)) 12 pF H e U U U U eN) ?_
 rintro bM w e
 rw [eO] at e
 refine tAn U ?_
 have hE:=e.holeE_len 11 U
 refine tP U (λw=>yI ci9 cx (kL b9 hE) U)<|tO ?_
 have cz:∀ u∈([bM]:List Value),u.oneCell'=true:=(Z (kF<|e.ow_rep 12 U) kE)
 refine tf0 U U (λa H=>mw (j:=0) (vs:=[bM]) 11 H e U U U sizeOf66 U U (nA<|cz _<|List.mem_singleton.2 U) cz U) ?_
 rintro _ w e
 replace e:Mem W (hp W) _ [d1,h4,e8,e7,os aJ K.o aK,os aL K.I aM,h6,ot ac ae L.i aT,kY am an L.g.length aV (L.g:List (List Int)) aY.toNat [aq],ow [aq] al,ot aZ aa aI aX,kY ai aj aQ.length aR (ax:List (List kA)) aY.toNat [bM],ow [bM] cF,ot ao ap aN ah]:=e
 refine tAn U<|tE ?_
 replace e:=e.imp (c':=ow [aq] (al:List Int)) 9 U λF h0=>h0
 replace e:=(e.shutE (y:=(al:List Int)) 8 9 (dt U) U U).d [0,1,2,3,4,5,6,7,8,10,11,12,13] U
 rw [kq cC] at e
 replace e:=e.imp (c':=ow [bM] (cF:List kA)) 11 U λF h0=>h0
 replace e:=(e.shutE (y:=(cF:List kA)) 10 11 (dt U) U U).d [0,1,2,3,4,5,6,7,8,9,10,12] U
 exact gz e [0,1,2,3,4,5,6,7,8,9,10,11] U
 let a5:=sw aE aF M.b aG
 let g4:=ow [a5]<|M.b.set (0:Int).toNat (⟨O.a,af,O.j,O.on,O.n⟩:jq)
 let g1:=blk aW [J L.c.P,J L.c.r,a5,sw ac ae L.i aT,sw am an L.g aV] 61
 let h2:=blk aS [J K.c.P,J K.c.r,a5,sl aJ K.o aK,sl aL K.I aM] 101
 let fA:=kY am an L.g.length aV (L.g:List (List Int)) aY.toNat [aq]
 let h3:=kY ai aj aQ.length aR (ax:List (List kA)) aY.toNat [ak]
 refine tSh (.e 19 as0 .nil) (λa w=>∃ (bN:Value),St 157 [(1,pV aO),(2,pV aP),(6,pV aS),(7,pV aW),(8,sw aZ aa aI aX),(9,sw ai aj aQ aR),(10,J N),(64,a4),(65,J N),(92,sw ao ap aN ah),(93,J<|(aN.length:Int)),(94,J bC),(107,sw ai aj aQ aR),(108,J aY),(112,ak),(125,.agg #[J N,bN])] W (hp W) [blk aO [J M.P,a4,a5] 41,g4,blk aP [J 0,J 0,nS] 41,h2,os aJ K.o aK,os aL K.I aM,g1,ot ac ae L.i aT,fA,ow [aq] al,ot aZ aa aI aX,h3,ow [ak] bD,ot ao ap aN ah,ow [bN] ay] a w) ?_ λc6=>?_
 rintro a w ⟨bN,H,e⟩
 refine gv H<|tO<|tf U U (λa H=>kj (vs:=#[(0,.agg #[J N,bN])]) (cs:=[J N,bN]) pF H e U U (by kernel_rfl) U U) ?_
 rintro _ w ⟨bH,rfl,e⟩
 replace e:=e.els_nil (α:=kA)
 replace e:Mem W (hp W) _ [els [] ([]:List kA),blk bH [J N,bN] 80,blk aO [J M.P,a4,a5] 41,g4,blk aP [J 0,J 0,nS] 41,h2,os aJ K.o aK,os aL K.I aM,g1,ot ac ae L.i aT,fA,ow [aq] al,ot aZ aa aI aX,h3,ow [ak] bD,ot ao ap aN ah,ow [J N,bN] ((⟨N,ay⟩:kA):kA)]:=n8 N e 16 U
 replace e:=(e.els_cons 0 16 (dt U) U U).d [0,1,2,3,4,5,6,7,8,9,10,11,12,13,14,15] U
 replace e:=(e.lit_els 1 0 (dt U) U U U U).d [1,2,3,4,5,6,7,8,9,10,11,12,13,14,15] U
 exact tAn U<|mG e5 λa H=>⟨sV bH 0 1 1,H.sb U,e.d [1,2,3,4,5,6,7,8,9,10,11,12,13,14,0] U⟩
 let f0:=sw aE aF M.b aG
 let hF:=ow [f0]<|M.b.set (0:Int).toNat (⟨O.a,af,O.j,O.on,O.n⟩:jq)
 let e3:=blk aW [J L.c.P,J L.c.r,f0,sw ac ae L.i aT,sw am an L.g aV] 61
 let d2:=blk aS [J K.c.P,J K.c.r,f0,sl aJ K.o aK,sl aL K.I aM] 101
 let c5:=kY am an L.g.length aV (L.g:List (List Int)) aY.toNat [aq]
 let d4:=kY ai aj aQ.length aR (ax:List (List kA)) aY.toNat [ak]
 let a0:=sw ai aj aQ aR
 let c4:=blk aO [J M.P,J M.r,f0] 41
 let d6:=blk aP [J 0,J 0,nS] 41
 refine tSh ac5 (λa w=>∃ (cG:Value),0<=(al.length:Int)/\(al.length:Int)<=140737488355328/\St 157 [(1,pV aO),(2,pV aP),(6,pV aS),(7,pV aW),(8,sw aZ aa aI aX),(9,a0),(10,J N),(64,J M.r),(65,J N),(92,sw ao ap aN ah),(93,J<|(aN.length:Int)),(94,J bC),(107,a0),(108,J aY),(112,ak),(113,J N),(115,cG),(123,J<|(al.length:Int))] W (hp W) [c4,hF,d6,d2,os aJ K.o aK,os aL K.I aM,e3,ot ac ae L.i aT,c5,ow [aq] al,ot aZ aa aI aX,d4,ow [ak] bD,ot ao ap aN ah,ow [cG] ([N]:List Int)] a w) ?_ λa7=>?_
 rintro a w ⟨cG,dA,dB,H,e⟩
 refine gv H<|tO<|tf U U (λa H=>ki H U call33 U<|pz _ ([N]:List Int) cG (e.ow_rep 14 U) (al.length:Int) _ cy) ?_
 rintro bM w ⟨_,rfl,hB⟩
 replace e:=e.give hB
 refine tAn U ?_
 obtain ⟨az,bA,rfl,ca⟩:=ju<|e.ow_rep 0 U
 exact tP U (λw=>yG U<|mV (vs:=[(0,J N),(1,sl az ay bA)]) (cs:=#[J N,sl az ay bA]) U U (by kernel_rfl))<|mG c6 λa H=>⟨sl az ay bA,H.sb U,e.d [1,2,3,4,5,6,7,8,9,10,11,12,13,14,0] U⟩
 refine tSh bo1 (λa w=>∃ (bR:Value),0<=(al.length:Int)/\(al.length:Int)<=140737488355328/\St 157 [(1,pV aO),(2,pV aP),(6,pV aS),(7,pV aW),(8,sw aZ aa aI aX),(9,a0),(10,J N),(64,J M.r),(65,J N),(92,sw ao ap aN ah),(93,J<|(aN.length:Int)),(94,J bC),(107,a0),(108,J aY),(111,.pointer<|some ⟨ai,aj+aY.toNat*1,none⟩),(113,J N),(115,bR),(123,J<|(al.length:Int))] W (hp W) [c4,hF,d6,d2,os aJ K.o aK,os aL K.I aM,e3,ot ac ae L.i aT,c5,ow [aq] al,ot aZ aa aI aX,d4,ow [ak] bD,ot ao ap aN ah,ow [bR] ([N]:List Int)] a w) ?_ λd3=>?_
 rintro a w ⟨bR,dA,dB,H,e⟩
 refine tSv H e [9,12,0,1,2,3,4,5,6,7,8,10,11,13] U λhS=>tMo ?_ ?_
 exact tY U (yl isAgg66 ((e.holeE_at 11 U).cell (j:=0) U) U)<|tAs hS<|mG a7 λa H=>⟨bR,(by first | omega | (dsimp only;omega)),(by first | omega | (dsimp only;omega)),H.sb U,e.d [0,1,2,3,4,5,6,7,8,9,10,11,12,13,14] U⟩
 refine tO<|tf U U (λa H=>ki H U call33 U<|pz _ ([N]:List Int) bR (e.ow_rep 14 U) (al.length:Int) _ cy) ?_
 rintro bM w ⟨_,rfl,hB⟩
 replace e:=e.give hB
 refine tAn U ?_
 obtain ⟨az,bA,rfl,ca⟩:=ju<|e.ow_rep 0 U
 let a1:=sl az ay bA
 refine tP U (λw=>yG U<|mV (vs:=[(0,J N),(1,a1)]) (cs:=#[J N,a1]) U U (by kernel_rfl))<|tMo ?_ ?_
 exact tY U (yl isAgg66 ((e.holeE_at 12 U).cell (j:=0) U) U)<|tAk e [10,13,1,2,3,4,5,6,7,8,9,11,12,14] U λhS=>mG c6 λa H=>⟨a1,H.sb U,e.d [1,2,3,4,5,6,7,8,9,10,11,12,13,14,0] U⟩
 refine tO<|tf U U (λa H=>kj (vs:=#[(0,.agg #[J N,a1])]) (cs:=[J N,a1]) pF H e U U (by kernel_rfl) U U) ?_
 rintro _ w ⟨bH,rfl,e⟩
 replace e:=e.els_nil (α:=kA)
 replace e:Mem W (hp W) _ [els [] ([]:List kA),blk bH [J N,a1] 80,ow [J N,a1] ((⟨N,ay⟩:kA):kA),c4,hF,d6,d2,os aJ K.o aK,os aL K.I aM,e3,ot ac ae L.i aT,c5,ow [aq] al,ot aZ aa aI aX,d4,ow [ak] bD,ot ao ap aN ah,ow [bR] ([N]:List Int)]:=n8 N e 2 U
 replace e:=(e.els_cons 0 2 (dt U) U U).d [0,1,3,4,5,6,7,8,9,10,11,12,13,14,15,16,17] U
 replace e:=(e.lit_els 1 0 (dt U) U U U U).d [1,2,3,4,5,6,7,8,9,10,11,12,13,14,15,16] U
 exact tAn U<|tO<|tY U (yl isAgg66 ((e.holeE_at 12 U).cell (j:=0) U) U)<|tAk e [10,13,1,2,3,4,5,6,7,8,9,11,12,14] U λhS=>mG e5 λa H=>⟨sV bH 0 1 1,H.sb U,e.d [1,2,3,4,5,6,7,8,9,10,11,12,13,14,0] U⟩
 let b3:=sw aE aF M.b aG
 let g6:=ow [b3]<|M.b.set (0:Int).toNat (⟨O.a,af,O.j,O.on,O.n⟩:jq)
 let f7:=blk aW [J L.c.P,J L.c.r,b3,sw ac ae L.i aT,sw am an L.g aV] 61
 let g8:=blk aS [J K.c.P,J K.c.r,b3,sl aJ K.o aK,sl aL K.I aM] 101
 let g7:=kY am an L.g.length aV (L.g:List (List Int)) aY.toNat [aq]
 let f6:=kY ai aj aQ.length aR (ax:List (List kA)) aY.toNat [ak]
 let gM:=blk aO [J M.P,J M.r,b3] 41
 refine tSh (.e 8 ac5 .nil) (λa w=>0<=(al.length:Int)/\(al.length:Int)<=140737488355328/\St 157 [(1,pV aO),(2,pV aP),(6,pV aS),(7,pV aW),(8,sw aZ aa aI aX),(9,a0),(10,J N),(64,J M.r),(65,J N),(92,sw ao ap aN ah),(93,J<|(aN.length:Int)),(94,J bC),(107,a0),(108,J aY),(112,ak),(113,J N),(114,J N),(123,J<|(al.length:Int))] W (hp W) [gM,g6,blk aP [J 0,J 0,nS] 41,g8,os aJ K.o aK,os aL K.I aM,f7,ot ac ae L.i aT,g7,ow [aq] al,ot aZ aa aI aX,f6,ow [ak] bD,ot ao ap aN ah] a w) ?_ λe6=>?_
 rintro a w ⟨dA,dB,H,e⟩
 refine tSv H e [9,12,0,1,2,3,4,5,6,7,8,10,11,13] U λhS=>tO<|tf U U (λa H=>kj (vs:=#[(0,J N)]) (cs:=[J N]) kg H e U U (by kernel_rfl) U U) ?_
 rintro _ w ⟨bH,rfl,e⟩
 replace e:=e.lit (xs:=([N]:List Int)) 0 U U U U
 exact tAk e [10,13,1,2,3,4,5,6,7,8,9,11,12,14] U λhS=>mG a7 λa H=>⟨sV bH 0 1 1,(by first | omega | (dsimp only;omega)),(by first | omega | (dsimp only;omega)),H.sb U,e.d [1,2,3,4,5,6,7,8,9,10,11,12,13,14,0] U⟩
 refine tSh bo9 (λa w=>∃ (cH:Value),St 157 [(1,pV aO),(2,pV aP),(6,pV aS),(7,pV aW),(8,sw aZ aa aI aX),(9,a0),(10,J N),(64,J M.r),(65,J N),(92,sw ao ap aN ah),(93,J<|(aN.length:Int)),(94,J bC),(107,a0),(108,J aY),(112,ak),(113,J N),(115,cH),(121,.pointer<|some ⟨am,an+aY.toNat*1,none⟩)] W (hp W) [gM,g6,blk aP [J 0,J 0,nS] 41,g8,os aJ K.o aK,os aL K.I aM,f7,ot ac ae L.i aT,g7,ow [aq] al,ot aZ aa aI aX,f6,ow [ak] bD,ot ao ap aN ah,ow [cH] ([N]:List Int)] a w) ?_ λd0=>?_
 rintro a w ⟨cH,H,e⟩
 refine gv H<|tO<|tY U (yl isAgg54 ((e.holeE_at 8 U).cell (j:=0) U) U)<|tAn U ?_
 obtain ⟨az,bA,rfl,ca⟩:=ju<|e.ow_rep 9 U
 exact tP U (λw=>yV kI U)<|mG a7 λa H=>⟨cH,(by first | omega | (dsimp only;omega)),(by first | omega | (dsimp only;omega)),H.sb U,e.d [0,1,2,3,4,5,6,7,8,9,10,11,12,13,14] U⟩
 refine tMo ?_ ?_
 refine tY U (yl isAgg66 ((e.holeE_at 12 U).cell (j:=0) U) U)<|tAs hS<|tMo ?_ ?_
 refine tf U U (λa H=>kj (vs :=#[(0,(J N))]) (cs :=[J N]) kg H e U U (by kernel_rfl) U U) ?_
 rintro _ w ⟨bH,rfl,e⟩
 replace e:=e.lit (xs:=([N]:List Int)) 0 U U U U
 exact tAk e [1,2,3,4,5,6,7,8,9,10,11,12,13,14] U λhS=>mG d0 λa H=>⟨sV bH 0 1 1,H.sb U,e.d [3,4,5,6,7,8,9,10,11,1,12,13,2,14,0] U⟩
 refine tO<|tY U (yl isAgg54 ((e.holeE_at 10 U).cell (j:=0) U) U)<|tAn U ?_
 obtain ⟨az,bA,rfl,ca⟩:=ju<|e.ow_rep 0 U
 exact tP U (λw=>yV kI U)<|mG e6 λa H=>⟨(by first | omega | (dsimp only;omega)),(by first | omega | (dsimp only;omega)),H.sb U,e.d [2,3,4,5,6,7,8,9,10,0,11,12,1,13] U⟩
 refine tMo ?_ ?_
 refine tf U U (λa H=>kj (vs :=#[(0,(J N))]) (cs :=[J N]) kg H e U U (by kernel_rfl) U U) ?_
 rintro _ w ⟨dC,rfl,e⟩
 replace e:=e.lit (xs:=([N]:List Int)) 0 U U U U
 refine tAk e [1,2,3,4,5,6,7,8,9,10,11,12,13,14] U λhS=>tMo ?_ ?_
 exact tY U (yl isAgg66 ((e.holeE_at 13 U).cell (j:=0) U) U)<|tAs hS<|mG d0 λa H=>⟨sV dC 0 1 1,H.sb U,e.d [3,4,5,6,7,8,9,10,11,1,12,13,2,14,0] U⟩
 refine tO<|tY U (yl isAgg54 ((e.holeE_at 11 U).cell (j:=0) U) U)<|tAn U ?_
 obtain ⟨_,_,rfl,_⟩:=ju<|e.ow_rep 1 U
 exact tP U (λw=>yV kI U)<|mG d3 λa H=>⟨sV dC 0 1 1,(by first | omega | (dsimp only;omega)),(by first | omega | (dsimp only;omega)),H.sb U,e.d [3,4,5,6,7,8,9,10,11,1,12,13,2,14,0] U⟩
 refine tO<|tY U (yl isAgg54 ((e.holeE_at 10 U).cell (j:=0) U) U)<|tAn U ?_
 obtain ⟨_,_,rfl,_⟩:=ju<|e.ow_rep 0 U
 refine tP U (λw=>yV kI U)<|tMo ?_ ?_
 exact tY U (yl isAgg66 ((e.holeE_at 12 U).cell (j:=0) U) U)<|tAs hS<|mG e6 λa H=>⟨(by first | omega | (dsimp only;omega)),(by first | omega | (dsimp only;omega)),H.sb U,e.d [2,3,4,5,6,7,8,9,10,0,11,12,1,13] U⟩
 refine tO<|tf U U (λa H=>kj (vs:=#[(0,J N)]) (cs:=[J N]) kg H e U U (by kernel_rfl) U U) ?_
 rintro _ w ⟨eP,rfl,e⟩
 replace e:=e.lit (xs:=([N]:List Int)) 0 U U U U
 exact tAk e [1,2,3,4,5,6,7,8,9,10,11,12,13,14] U λhS=>mG d3 λa H=>⟨sV eP 0 1 1,(by first | omega | (dsimp only;omega)),(by first | omega | (dsimp only;omega)),H.sb U,e.d [3,4,5,6,7,8,9,10,11,1,12,13,2,14,0] U⟩
 intro cE w e
 exact gz e [0,1,2,3,4,5,6,7,8,9,10,11] U
 refine gcf U<|gSk ?_
 replace e:=e.imp (c':=ow [b8] (bK:jw Bool)) 0 U λF h0=>h0
 replace e:=(e.shutE (y:=(bK:jw Bool)) 8 0 (dt U) U U).d [1,2,3,4,5,6,7,8,9,10,11,12] U
 rw [kq bQ] at e
 exact gz e [0,1,2,3,4,5,6,7,8,9,10,11] U
 intro cA w e
 exact gz e [0,1,2,3,4,5,6,7,8,9,10,11] U
 intro bx w e
 exact gR<|gp U<|Y U<|gE<|gze e [0,1,2,3,4,5,6,7,8,9,10,11] U
 intro _ _ w e _ _
 exact S<|gB U<|gS<|lF 95 U U<|gHh<|gR<|gp U<|Y U<|gE<|gze e [0,1,2,3,4,5,6,7,8,9,10] U
 intro _ ba w e _ _
 refine S<|gB U<|gS<|lF 66 U U<|gHh<|gS<|S<|gF kM U<|gL e 0 isAgg39 U<|gY (yV kZ U)<|Y U ?_
 replace e:=e.drnV0 10 U
 let a6:=sw aE aF M.b aG
 let g2:=blk aS [J K.c.P,J K.c.r,a6,sl aJ K.o aK,sl aL K.I aM] 101
 refine gBk<|gNf e (λbF bS=>[(1,pV aO),(2,pV aP),(6,pV aS),(9,sl aw aQ aR),(133,J<|(M.b.length:Int)),(134,J bF)]) (λbF bS=>[blk aO [J M.P,J M.r,a6] 41,ow [a6] bS,blk aP [J 0,J 0,nS] 41,g2,os aJ K.o aK,os aL K.I aM,bk3 (sl aw aQ aR) (ba:List (List kA)) bF]) [0,1,2,3,4,5,10] U ?_ ?_
 intro _ _ bF bS w e _ _ _ _
 refine S<|gB U<|gS<|lT 135 U U<|S<|Y U<|gA U<|gg λcI cb bb=>?_
 obtain ⟨bc,bd,_,he⟩:=e.drn_form 6 U bb
 obtain ⟨rfl,_,rfl⟩:=sl3 he
 obtain ⟨_,eQ,e⟩:=e.drn_pin 6 U bb
 have eR:=e.ow_rep 0 U
 have cJ:=eR
 obtain ⟨be,rfl,-⟩:=id cJ
 replace cJ:GT.rep (hp _) [be] cI:=cJ
 clear eQ cJ
 replace e:Mem W (hp W) _ [ow [be] (cI:List kA),blk aO [J M.P,J M.r,a6] 41,ow [a6] bS,blk aP [J 0,J 0,nS] 41,g2,os aJ K.o aK,os aL K.I aM,be9 bc bd aQ.length aR (ba:List (List kA)) bF.toNat [be]]:=e
 replace e:=e.d [0,1,2,3,4,5,6,7] U
 let c1:=sw aE aF M.b aG
 let g0:=blk aS [J K.c.P,J K.c.r,c1,sl aJ K.o aK,sl aL K.I aM] 101
 refine gJ e (λcK=>[(1,pV aO),(2,pV aP),(6,pV aS),(9,sw bc bd aQ aR),(133,J<|(M.b.length:Int)),(134,J bF)]) (λcK=>[blk aO [J M.P,J M.r,c1] 41,ow [c1] cK,blk aP [J 0,J 0,nS] 41,g0,os aJ K.o aK,os aL K.I aM,cw6 (sw bc bd aQ aR) (ba:List (List kA)) bF]) (λcK=>?_) ?_
 refine gW (.p 0<|.p 2<|.p 3<|.p 4<|.p 5<|.p 7<|.p 9<|.q 1<|.q 8<|.p 10<|.p 11<|.e 6 (.e 12 (.e 13 (.p 14<|.p 15<|.e 16 .fin .nil) .nil) .nil)<|.e 12 (.e 6 (.e 13 (.p 14<|.p 15<|.e 16 .fin .nil) .nil) .nil) .nil) [1,6,8,12,13] [0,2,3,4,5,7,9,10,11,14,15] e [1,3,4,5,6,7] [_,_,_,_,_,_] U mxo (by kernel_rfl) (λ_ _ _ h=>h.2) λw e hS=>uF kM U U<|uM U U<|uM U U<|uM U U ?_
 have hG:=e.drnH_len 7 U
 refine tP U (λw=>yI ci9 cb (kL bb hG) U)<|uF kM U U<|uM U U<|tQ U hS (λw e=>yL e 0 isAgg39 U)<|tQ U hS (λw e=>yL e 0 isAgg39 U)<|gg λab cc bL=>?_
 obtain ⟨_,_,_,gw,_,_,_⟩:=k4 (e.ow_rep 2 U) bL
 have hA:=kB<|e.ow_rep 2 U
 refine tP U (λw=>yI kZ cc (kL bL hA) U)<|uF ko U U<|gb λbT dD=>tMo ?_ ?_
 refine tY U (yl isAgg66 ((e.drnH_at 7 U).cell (j:=0) U) U)<|tAs hS<|tO ?_
 obtain ⟨_,dE,dF,e⟩:=lH e 2 U bL
 refine tY U (yl isAgg66 ((e.holeE_at 5 U).cell (j:=0) U) U)<|tAk e [4,6,7,8,9,10] U λhS=>tO ?_
 obtain ⟨eS,eT⟩:=kP.1 dD
 replace e:=(e.both 3 2 (dt U) U U).d [0,1,3,4,5,6,7,8,9,10] U
 refine tf U U (λa H=>lW (xs:=cI) (ys:=ab.a) 2 pF H e U U U U eS) ?_
 rintro cL w e
 rw [eT] at e
 refine tAk e [3,5,6,7,8,9] U λhS=>?_
 have hH:=e.holeE_len 4 U
 refine tP U (λw=>yI kZ cc (kL bL hH) U)<|uF ko U U<|tO ?_
 have dG:∀ u∈([cL]:List Value),u.oneCell'=true:=(Z (kF<|e.ow_rep 2 U) kE)
 refine tf0 U U (λa H=>mw (j:=0) (vs:=[cL]) 4 H e U U U sizeOf66 U U (nA<|dG _<|List.mem_singleton.2 U) dG U) ?_
 rintro _ w e
 replace e:Mem W (hp W) _ [ow [dF] ab.n,ow [dE] ab.i,ow [cL] bT,blk aO [J M.P,J M.r,c1] 41,kY aE aF M.b.length aG (bS:List jq) bF.toNat [cL,dE,J ab.j,J ab.on,dF],blk aP [J 0,J 0,nS] 41,g0,os aJ K.o aK,os aL K.I aM,be9 bc bd aQ.length aR (ba:List (List kA)) bF.toNat [be]]:=e
 refine tAn U<|tE ?_
 replace e:=e.drnH_gone 9 U cb bb
 replace e:=(k9 ab.j ab.on e 2 1 0 U).d [2,3,4,5,6,7,8,9] U
 replace e:=(e.shutE (y:=((⟨bT,ab.i,ab.j,ab.on,ab.n⟩:jq):jq)) 2 0 (dt U) U U).d [1,2,3,4,5,6,7] U
 exact gz e [0,1,2,3,4,5,6] U
 refine tO ?_
 obtain ⟨_,dH,dI,e⟩:=lH e 2 U bL
 refine tY U (yl isAgg66 ((e.holeE_at 5 U).cell (j:=0) U) U)<|tAk e [4,6,7,8,9,10] U λhS=>tO<|tY U (yl isAgg66 ((e.drnH_at 10 U).cell (j:=0) U) U)<|tAs hS<|tO ?_
 obtain ⟨eU,eV⟩:=kP.1 dD
 replace e:=(e.both 3 2 (dt U) U U).d [0,1,3,4,5,6,7,8,9,10] U
 refine tf U U (λa H=>lW (xs:=cI) (ys:=ab.a) 2 pF H e U U U U eU) ?_
 rintro cM w e
 rw [eV] at e
 refine tAk e [3,5,6,7,8,9] U λhS=>?_
 have h9:=e.holeE_len 4 U
 refine tP U (λw=>yI kZ cc (kL bL h9) U)<|uF ko U U<|tO ?_
 have dJ:∀ u∈([cM]:List Value),u.oneCell'=true:=(Z (kF<|e.ow_rep 2 U) kE)
 refine tf0 U U (λa H=>mw (j:=0) (vs:=[cM]) 4 H e U U U sizeOf66 U U (nA<|dJ _<|List.mem_singleton.2 U) dJ U) ?_
 rintro _ w e
 replace e:Mem W (hp W) _ [ow [dI] ab.n,ow [dH] ab.i,ow [cM] bT,blk aO [J M.P,J M.r,sw aE aF M.b aG] 41,kY aE aF M.b.length aG (bS:List jq) bF.toNat [cM,dH,J ab.j,J ab.on,dI],blk aP [J 0,J 0,nS] 41,blk aS [J K.c.P,J K.c.r,sw aE aF M.b aG,sl aJ K.o aK,sl aL K.I aM] 101,os aJ K.o aK,os aL K.I aM,be9 bc bd aQ.length aR (ba:List (List kA)) bF.toNat [be]]:=e
 refine tAn U<|tE ?_
 replace e:=e.drnH_gone 9 U cb bb
 replace e:=(k9 ab.j ab.on e 2 1 0 U).d [2,3,4,5,6,7,8,9] U
 replace e:=(e.shutE (y:=((⟨bT,ab.i,ab.j,ab.on,ab.n⟩:jq):jq)) 2 0 (dt U) U U).d [1,2,3,4,5,6,7] U
 exact gz e [0,1,2,3,4,5,6] U
 intro cK w e
 refine gR<|gp U<|Y U ?_
 replace e:=e.drnS_next 6 U
 exact gze e [0,1,2,3,4,5,6] U
 intro _ dK w e _ _
 refine S<|gB U<|gS<|lF 135 U U<|gHh<|S<|gY (yn (e.blk_at 0 U) isAgg41 sizeOf41 U)<|Y U<|gCg U call34 (yj _ (⟨M.P,M.r,dK⟩:jv) (sw aE aF M.b aG) (e.ow_rep 1 U) (⟨(⟨K.c.P,K.c.r,dK⟩:jv),K.o,K.I⟩:ld) aS (sw aE aF M.b aG) (e.ow_rep 1 U) (sl aJ K.o aK) (e.ow_rep 4 U) (sl aL K.I aM) (e.ow_rep 5 U) (e.blk_cells 3 U).1) ?_
 rintro _ _ _ w ⟨eW,rfl,hB⟩
 replace e:=e.give hB
 exact gSN e 3 sizeOf41 (Z U<|Z U<|Z (kF<|e.ow_rep 0 U) kE) U λw e=>gRt<|grc 3 results16 e U isAgg41 sizeOf41 ⟨eW,U,e.d [0] U⟩
theorem pP (K:World) (M:List jv) (v1:Value) (O:rp K v1 M) (f:jv->Option Bool) (H:Value) (L:∀ (w:World) (N:jv) (z1:Value) (_:GT.rep (hp w) [z1] N.b) (r:Bool),Below K.heap.size K w->f N=some r->w5 Tryz.prog H [.agg #[J N.P,J N.r,z1]] w (λv w'=>v=(.bool (r))/\Below w.heap.size w w')) :
    k6 Tryz.prog 81 [v1,H] K (lg M f) λr v w'=>v=(J r)/\Below K.heap.size K w':=by
 unfold lg
 refine kQ func81 U λr e=>?_
 refine S<|gA U<|gS<|S<|Y U ?_
 obtain ⟨aD,aE,rfl,_⟩:=ju O
 refine gY (yV nU U)<|Y U<|gBk<|gNf e (λaA aC=>[(0,sl aD M aE),(1,H),(7,J<|(M.length:Int)),(8,J aA)]) (λaA aC=>[]) [] U ?_ ?_
 intro _ aF aA aC w e _ _ _ aG
 refine S<|gB U<|gS<|lT 9 U U<|S<|Y U<|gA U<|S<|Y U<|Y U<|Y U<|gg λaH aI W=>?_
 obtain ⟨_,_,rfl⟩:=jA O W
 obtain ⟨aJ,aK,aL⟩:=nQ O W
 refine gI nU aI (jx W) U<|gY (yn (aK.mono e.lez) isAgg41 sizeOf41 U)<|gb λ_ aM=>gf U (λa hf=>nC hf U U U<|L _ aH aJ (e.now aL) _ e.below aM) ?_
 rintro _ w ⟨rfl,hB⟩
 replace e:=e.below' hB
 refine gs 16 U (λaN=>?_) λaN=>?_
 exact gct U<|S<|Y U<|gA U<|gRt<|gLr aG aF<|gr1 results81 U ⟨U,e.below⟩
 exact gcf U<|gSk<|gR<|gp U<|Y U<|gE<|gze e [] U
 intro _ _ w e _ _
 exact S<|gB U<|gS<|lF 9 U U<|gHh<|S<|gA U<|gq U U ⟨U,e.below⟩
theorem oh (L:World) (O:List jv) (N:Value) (h1:rp L N O) (f:jv->Option Bool) (e:Value) (M:∀ (w:World) (H:jv) (W:Value) (_:GT.rep (hp w) [W] H.b) (r:Bool),Below L.heap.size L w->f H=some r->w5 Tryz.prog e [.agg #[J H.P,J H.r,W]] w (λv w'=>v=(.bool (r))/\Below w.heap.size w w')) :
    k6 Tryz.prog 36 [N,e] L (lG O f) λr v w'=>v=(.bool (r))/\Below L.heap.size L w':=by
 unfold lG
 refine kQ func36 U λr K=>?_
 exact S<|gA U<|S<|Y U<|Y U<|gC K U call81 (pP _ O N (K.now h1) f e λw H aA aB r hB hq=>M w H aA aB r (K.below.trans<|hB.mono K.below.size) hq) λ_ _ w K=>gB U<|gA U<|gq U U ⟨U,K.below⟩
theorem tK (H:World) (K:List Bool) (W:Value) (L:rp H W K) (N:Bool) :
    k6 Tryz.prog 155 [W,(.bool (N))] H (n9 K N) λr v w'=>v=(J r)/\Below H.heap.size H w':=by
 unfold n9
 refine kQ func155 U λr e=>?_
 refine S<|gA U<|gS<|S<|Y U ?_
 obtain ⟨aD,aE,rfl,_⟩:=ju L
 refine gY (yV mK U)<|Y U<|gBk<|gNf e (λO aC=>[(0,sl aD K aE),(1,.bool N),(7,J<|(K.length:Int)),(8,J O)]) (λO aC=>[]) [] U ?_ ?_
 intro _ aF O aC w e _ _ _ aG
 refine S<|gB U<|gS<|lT 9 U U<|S<|Y U<|gA U<|S<|Y U<|Y U<|Y U<|gg λaH aI M=>?_
 obtain ⟨_,_,rfl⟩:=jA L M
 refine gI mK aI (jx M) U<|gY (yl isAgg4 ((kC (cs:=[.bool aH]) (e.now L) M U).cell (j:=0) U) U)<|gY (yG U<|ct5 underlying4 U U U)<|gsd 16 U (λaJ=>?_) λaJ=>?_
 exact gct U<|S<|Y U<|gA U<|gRt<|gLr aG aF<|gr1 results155 U ⟨U,e.below⟩
 exact gcf U<|gSk<|gR<|gp U<|Y U<|gE<|gze e [] U
 intro _ _ w e _ _
 exact S<|gB U<|gS<|lF 9 U U<|gHh<|S<|gA U<|gq U U ⟨U,e.below⟩
theorem sE (H:World) (M:List Bool) (L:Value) (N:rp H L M) (K:Bool) :
    k6 Tryz.prog 82 [L,(.bool (K))] H (mN M K) λr v w'=>v=(.bool (r))/\Below H.heap.size H w':=by
 unfold mN
 refine kQ func82 U λr e=>?_
 exact S<|gA U<|S<|Y U<|Y U<|gC e U call155 (tK _ M L (e.now N) K) λ_ _ w e=>gB U<|gA U<|gq U U ⟨U,e.below⟩
theorem qn (O:World) (d:ld) (W:Nat) (N:Value) (a1:rp O N d.c.b) (L:Value) (K:rp O L d.o) (M:Value) (a0:rp O M d.I) (H:(hp O) W=some (.cells ([J d.c.P,J d.c.r,N,L,M]:List Value).toArray 101 (0,0))) (a_:Int) (b_:Int) :
    k6 Tryz.prog 84 [pV W,J a_,J b_] O (mj d a_ b_) λr v w'=>v=(.bool (r))/\Below O.heap.size O w':=by
 unfold mj
 refine kQ func84 U λr e=>?_
 refine S<|gA U<|gS<|gJ e (λaB=>[(6,.bool aB)]) (λaB=>[]) (λaB=>?_) ?_
 refine gR<|Y U<|Y U<|gC e U call70 (rB _ d W N (e.now a1) L (e.now K) M (e.now a0) (e.lez _ _<|(kR.le_refl _) _ _ H) a_) λ_ _ w e=>Y U<|gs 10 U (λaG=>?_) λaG=>?_
 refine Y U<|Y U<|gC e U call70 (rB _ d W N (e.now a1) L (e.now K) M (e.now a0) (e.lez _ _<|(kR.le_refl _) _ _ H) b_) λ_ _ w e=>gKt U<|Y U<|gs 15 U (λaH=>?_) λaH=>?_
 refine Y U<|gY (yG U<|kW U U)<|gF sr U<|gY (yl isAgg99 (e.hz_cell H U) U)<|Y U<|gg λaI aJ aC=>?_
 obtain ⟨aK,aL,_,he⟩:=jy K aC
 subst he
 obtain ⟨_,_,aD,aM⟩:=kn K aC
 have aA:=aM
 obtain ⟨aF,rfl,-⟩:=id aA
 replace aA:GT.rep (hp O) [aF] aI:=aA
 replace aD:kS (hp O) aK (aL+a_.toNat*1) [aF]:=aD
 refine gI pR aJ (jx aC) U<|gY (yl isAgg97 ((aD.mono e.lez).cell (j:=0) U) U)<|Y U<|gg λaN aO aE=>?_
 obtain ⟨_,_,_,he⟩:=kG aA aE
 subst he
 exact gI mK aO (jx aE) U<|gY (yl isAgg4 ((kC (cs:=[.bool aN]) (e.now aA) aE U).cell (j:=0) U) U)<|gKt U<|gA U<|gE<|gz e [] U
 exact gO U<|gO U<|gO U<|gO U<|gO U<|gO U<|gO U<|gO U<|gO U<|gO U<|gKf U<|gA U<|gE<|gz e [] U
 exact gO U<|gO U<|gO U<|gKf U<|Y U<|gO U<|gO U<|gO U<|gO U<|gO U<|gO U<|gO U<|gO U<|gO U<|gO U<|gKf U<|gA U<|gE<|gz e [] U
 intro aB w e
 exact gy U U ⟨U,e.below⟩
theorem qS (W:World) (r_:Int) (b_:Int) (i_:Int) (a6:jv) (a7:Nat) (b7:Value) (b8:rp W b7 a6.b) (a2:(hp W) a7=some (.cells ([J a6.P,J a6.r,b7]:List Value).toArray 41 (0,0))) (b6:List (List kf)) (a8:Nat) (b3:Value) (aU:rp W b3 b6) (H:(hp W) a8=some (.cells ([b3]:List Value).toArray 71 (0,0))) (L:ld) (a9:Nat) (O:Nat) (a4:Value) (b4:rp W a4 L.c.b) (a3:Value) (b5:rp W a3 L.o) (a5:Value) (b0:rp W a5 L.I) (N:(hp W) O=some (.cells ([J L.c.P,J L.c.r,a4,a3,a5]:List Value).toArray 101 (0,0))) (M:(hp W) a9=some (.cells ([pV O]:List Value).toArray 69 (0,0))) :
    k6 Tryz.prog 83 [J r_,J b_,J i_,pV a7,pV a8,pV a9] W (l4 r_ b_ i_ a6 b6 L) λr v w'=>v=(.bool (r))/\Below W.heap.size W w':=by
 unfold l4
 refine kQ func83 U λr e=>?_
 refine S<|gA U<|gS<|S<|Y U<|gF nD U<|gY (yl isAgg3 (e.hz_cell a2 U) U)<|gB U<|gsd 13 U (λaJ=>?_) λaJ=>?_
 exact gct U<|S<|gA U<|gw U U U ⟨U,e.below⟩
 refine gcf U<|gSk<|gS<|gJ e (λaH=>[(9,.bool aH)]) (λaH=>[]) (λaH=>?_) ?_
 refine gW (.p 1<|.e 0 (.p 2<|.e 3 (.p 4<|.p 5<|.p 6<|.p 8<|.p 14<|.e 7 (.p 9<|.e 10 (.p 11<|.p 12<|.e 13 (.p 15<|.p 16<|.p 18<|.p 24<|.e 17 (.p 19<|.e 20 (.p 21<|.p 22<|.e 23 (.p 25<|.p 26<|.p 27<|.p 29<|.p 35<|.e 28 (.p 30<|.e 31 (.p 32<|.p 33<|.e 34 (.p 36<|.p 37<|.p 40<|.p 46<|.q 38<|.e 39 (.p 41<|.e 42 (.p 43<|.p 44<|.e 45 (.e 47 (.p 48<|.p 49<|.p 50<|.p 51 .fin) .nil) .nil) .nil) .nil) .nil) .nil) .nil) .nil) .nil) .nil) .nil) .nil) .nil) .nil) .nil) [39,42,45] [1,2,4,5,6,8,9,11,12,14,15,16,18,19,21,22,24,25,26,27,29,30,32,33,35,36,37,40,41,43,44,46,48,49,50,51] e [] [] U mxo (by kernel_rfl) (λ_ _ _ h=>h.2) λw e K=>uM U U<|tO<|tY U (yl isAgg71 (e.hz_cell H U) U)<|tAn U<|gg λaK aF aD=>?_
 obtain ⟨aL,aM,_,he⟩:=jy aU aD
 subst he
 obtain ⟨_,_,aE,aN⟩:=kn aU aD
 have aC:=aN
 obtain ⟨aI,rfl,-⟩:=id aC
 replace aC:GT.rep (hp W) [aI] aK:=aC
 replace aE:kS (hp W) aL (aM+r_.toNat*1) [aI]:=aE
 refine tP U (λw=>yI ti aF (jx aD) U)<|tO<|tY U (yl isAgg74 ((aE.mono e.lez).cell (j:=0) U) U)<|tAn U ?_
 obtain ⟨_,_,rfl,_⟩:=ju aC
 refine tP U (λw=>yV xD U)<|uB U U<|uM U U<|gsd 20 U (λaO=>?_) λaO=>?_
 refine uM U U<|uM U U<|tO<|tY U (yl isAgg71 (e.hz_cell H U) U)<|tAn U<|tP U (λw=>yI ti aF (jx aD) U)<|tO<|tY U (yl isAgg74 ((aE.mono e.lez).cell (j:=0) U) U)<|tAn U<|gg λaA aG aB=>?_
 obtain ⟨_,_,rfl⟩:=jA aC aB
 let a1:=J aA.block
 let a0:=J aA.i
 refine tP U (λw=>yI xD aG (jx aB) U)<|uF xu U U<|tO<|tY U (yl isAgg3 ((kC (cs:=[a1,a0]) (e.now aC) aB U).cell (j:=0) U) U)<|tAn U<|uB U U<|uM U U<|gsd 30 U (λaP=>?_) λaP=>?_
 refine uM U U<|uM U U<|tO<|tY U (yl isAgg71 (e.hz_cell H U) U)<|tAn U<|tP U (λw=>yI ti aF (jx aD) U)<|tO<|tY U (yl isAgg74 ((aE.mono e.lez).cell (j:=0) U) U)<|tAn U<|tP U (λw=>yI xD aG (jx aB) U)<|uF cl4 U U<|tO<|tY U (yl isAgg3 ((kC (cs:=[a1,a0]) (e.now aC) aB U).cell (j:=1) U) U)<|tAn U<|uB U U<|uT U U<|uM U U<|gsd 41 U (λaQ=>?_) λaQ=>?_
 refine tPo U U<|tPo U U<|tO<|tEo U U<|tAn U<|tPo U U<|tO<|tEo U U<|tAn U<|tPo U U<|tPo U U<|tO<|tEo U U<|tAn U<|tPo U U<|tPo U U<|tPo U U<|tPo U U<|tQo U K U<|tO<|tEo U U<|tAs K<|tPo U U<|tO<|tEo U U<|tAs K<|tPo U U<|tPo U U<|tO<|tEo U U<|tAs K ?_
 exact tO<|tEo U U<|tAn U<|tPo U U<|uT U U<|uT U U<|uA U U<|tE<|gz e [] U
 refine uM U U<|uM U U<|tO<|tY U (yl isAgg71 (e.hz_cell H U) U)<|tAn U<|tP U (λw=>yI ti aF (jx aD) U)<|tO<|tY U (yl isAgg74 ((aE.mono e.lez).cell (j:=0) U) U)<|tAn U<|tP U (λw=>yI xD aG (jx aB) U)<|uF xu U U<|tO<|tY U (yl isAgg3 ((kC (cs:=[a1,a0]) (e.now aC) aB U).cell (j:=0) U) U)<|tAn U<|uB U U<|uM U U<|gsd 51 U (λaR=>?_) λaR=>?_
 refine uM U U<|uM U U<|tQ U K (λw e=>yl isAgg69 (e.hz_cell M U) U)<|tO<|tY U (yl isAgg71 (e.hz_cell H U) U)<|tAs K<|tP U (λw=>yI ti aF (jx aD) U)<|tO<|tY U (yl isAgg74 ((aE.mono e.lez).cell (j:=0) U) U)<|tAs K<|tP U (λw=>yI xD aG (jx aB) U)<|uF xu U U<|tO<|tY U (yl isAgg3 ((kC (cs:=[a1,a0]) (e.now aC) aB U).cell (j:=0) U) U)<|tAs K<|tO<|gb λ_ aS=>tf U U (λa hf=>ki hf U call84 U<|qn _ L O a4 (e.now b4) a3 (e.now b5) a5 (e.now b0) (e.lez _ _<|(kR.le_refl _) _ _ N) aA.block b_ _ aS) ?_
 rintro _ w ⟨rfl,hB⟩
 replace e:=e.below' hB
 exact tAn U<|uT U U<|uK U U<|uT U U<|uA U U<|tE<|gz e [] U
 exact tPo U U<|tPo U U<|tQo U K U<|tO<|tEo U U<|tAs K<|tPo U U<|tO<|tEo U U<|tAs K<|tPo U U<|tPo U U<|tO<|tEo U U<|tAs K<|tO<|tEo U U<|tAn U<|uK U U<|uK U U<|uT U U<|uA U U<|tE<|gz e [] U
 refine tPo U U<|tPo U U<|tO<|tEo U U<|tAn U<|tPo U U<|tO<|tEo U U<|tAn U<|tPo U U<|tPo U U<|tO<|tEo U U<|tAn U<|tPo U U<|uK U U<|uM U U<|uM U U<|uM U U<|tO<|tY U (yl isAgg71 (e.hz_cell H U) U)<|tAn U<|tP U (λw=>yI ti aF (jx aD) U)<|tO<|tY U (yl isAgg74 ((aE.mono e.lez).cell (j:=0) U) U)<|tAn U<|tP U (λw=>yI xD aG (jx aB) U)<|uF xu U U<|tO<|tY U (yl isAgg3 ((kC (cs:=[a1,a0]) (e.now aC) aB U).cell (j:=0) U) U)<|tAn U ?_
 refine uB U U<|uM U U<|gsd 51 U (λaT=>?_) λaT=>?_
 refine uM U U<|uM U U<|tQ U K (λw e=>yl isAgg69 (e.hz_cell M U) U)<|tO<|tY U (yl isAgg71 (e.hz_cell H U) U)<|tAs K<|tP U (λw=>yI ti aF (jx aD) U)<|tO<|tY U (yl isAgg74 ((aE.mono e.lez).cell (j:=0) U) U)<|tAs K<|tP U (λw=>yI xD aG (jx aB) U)<|uF xu U U<|tO<|tY U (yl isAgg3 ((kC (cs:=[a1,a0]) (e.now aC) aB U).cell (j:=0) U) U)<|tAs K<|tO<|gb λ_ aV=>tf U U (λa hf=>ki hf U call84 U<|qn _ L O a4 (e.now b4) a3 (e.now b5) a5 (e.now b0) (e.lez _ _<|(kR.le_refl _) _ _ N) aA.block b_ _ aV) ?_
 rintro _ w ⟨rfl,hB⟩
 replace e:=e.below' hB
 exact tAn U<|uT U U<|uK U U<|uT U U<|uA U U<|tE<|gz e [] U
 exact tPo U U<|tPo U U<|tQo U K U<|tO<|tEo U U<|tAs K<|tPo U U<|tO<|tEo U U<|tAs K<|tPo U U<|tPo U U<|tO<|tEo U U<|tAs K<|tO<|tEo U U<|tAn U<|uK U U<|uK U U<|uT U U<|uA U U<|tE<|gz e [] U
 refine tPo U U<|tPo U U<|tO<|tEo U U<|tAn U<|tPo U U<|tO<|tEo U U<|tAn U<|tPo U U<|tPo U U<|tO<|tEo U U<|tAn U<|tPo U U<|tPo U U<|tPo U U<|tPo U U<|tO<|tEo U U<|tAn U<|tPo U U<|tO<|tEo U U<|tAn U<|tPo U U<|tPo U U<|tO<|tEo U U<|tAn U<|tPo U U ?_
 refine tPo U U<|tPo U U<|tPo U U<|tPo U U<|tO<|tEo U U<|tAn U<|tPo U U<|tO<|tEo U U<|tAn U<|tPo U U<|tPo U U<|tO<|tEo U U<|tAn U<|tPo U U<|tPo U U<|tPo U U<|tPo U U<|tQo U K U<|tO<|tEo U U<|tAs K<|tPo U U<|tO<|tEo U U<|tAs K<|tPo U U<|tPo U U<|tO ?_
 exact tEo U U<|tAs K<|tO<|tEo U U<|tAn U<|tPo U U<|tPo U U<|uK U U<|uA U U<|tE<|gz e [] U
 intro aH w e
 exact gRt<|gr1 results83 U ⟨U,e.below⟩
theorem xU (M:World) (r_:Int) (H:jv) (aA:Nat) (v1:Value) (h1:rp M v1 H.b) (aD:hc M aA [J H.P,J H.r,v1] 41) (L:List (List kf)) (aB:Nat) (v2:Value) (h2:rp M v2 L) (aE:hc M aB [v2] 71) (e:ld) (aC:Nat) (K:Nat) (v3:Value) (h3:rp M v3 e.c.b) (v4:Value) (h4:rp M v4 e.o) (v5:Value) (h5:rp M v5 e.I) (O:hc M K [J e.c.P,J e.c.r,v3,v4,v5] 101) (aF:hc M aC [pV K] 69) (a2:Nat) (a6:hc M a2 [(.func (.func 83) #[] #[pV aA,pV aB,pV aC])] 87) (a0:Int) (a4:Nat) (a5:hc M a4 [J a0] 3) (W:Int) (a3:Nat) (a1:hc M a3 [J W] 3) :
    k6 Tryz.prog 86 [J r_,pV a2,pV a4,pV a3] M (mY r_ H L e a0 W) λr v w'=>v=(.bool (r))/\Below M.heap.size M w':=by
 unfold mY
 refine kQ func86 U λr N=>?_
 refine S<|gA U<|S<|gY (yl isAgg87 (N.old_cell a6 U) U)<|Y U<|gY (yl isAgg3 (N.old_cell a5 U) U)<|gY (yl isAgg3 (N.old_cell a1 U) U)<|gb λ_ aG=>gf U (λa hf=>nC hf U U U ⟨83,[pV aA,pV aB,pV aC],U,call83,qS _ r_ a0 W H aA v1 (kp (N.now h1)<|Below.refl _ _) (N.old_later aD<|Below.refl _ _) L aB v2 (kp (N.now h2)<|Below.refl _ _) (N.old_later aE<|Below.refl _ _) e aC K v3 (kp (N.now h3)<|Below.refl _ _) v4 (kp (N.now h4)<|Below.refl _ _) v5 (kp (N.now h5)<|Below.refl _ _) (N.old_later O<|Below.refl _ _) (N.old_later aF<|Below.refl _ _) _ aG⟩) ?_
 rintro _ w ⟨rfl,hB⟩
 replace N:=N.below' hB
 exact gN U<|gA U<|gq U U ⟨U,N.below⟩
abbrev tm:Go.Wk.Ord:=(.e 6 (.e 7 .fin .nil) .nil)
abbrev bn9:Go.Wk.Ord:=(.e 3 (.e 5 tm .nil) (.e 5 (.e 3 tm .nil) .nil))
abbrev bp6:Go.Wk.Ord:=(.e 3 (.e 4 tm .nil) (.e 4 (.e 3 tm .nil) .nil))
abbrev bn6:Go.Wk.Ord:=(.e 1 (.e 3 tm .nil) .nil)
theorem yu (w0:World) (W:jv) (v1:Value) (h1:rp w0 v1 W.b) :
    k6 Tryz.prog 38 [.agg #[J W.P,J W.r,v1]] w0 (pQ W) λr v w'=>v=(.bool (r))/\Below w0.heap.size w0 w':=by
 unfold pQ
 refine kQ func38 U λr e=>?_
 let c1:=J W.P
 let c2:=J W.r
 refine S<|gBx e U λN w e=>gA U<|gS<|gJg (λK a w=>∃ (aC aG:Nat) (be au:Value) (aD:Nat) (bf:Value),St 123 [(1,pV N),(3,pV aC),(4,pV aD)] w0 (hp w0) [blk N [c1,c2,v1] 41,blk aC [pV aG] 69,blk aG [J K.1,J K.2.1,v1,be,au] 101,ow [be] K.2.2.1,ow [au] K.2.2.2.1,blk aD [bf] 71,ow [bf] K.2.2.2.2] a w) (λK=>?_) ?_
 let a3:Value:=.pointer none
 refine gW (.q 0<|.q 2<|.e 1 (.e 3 (.e 4 (.e 5 tm .nil)<|.e 5 (.e 4 tm .nil) .nil)<|.e 4 bn9<|.e 5 bp6 .nil)<|.e 4 (.e 1 bn9<|.e 5 bn6 .nil)<|.e 5 (.e 1 bp6<|.e 4 bn6 .nil) .nil) [0,1,2,4,5] [] e [0] [_] U mxo (by kernel_rfl) (λ_ _ _ h=>h.2) λw e M=>tQ U M (λw e=>yn (e.blk_at 0 U) isAgg41 sizeOf41 U)<|tQ U M (λw e=>yn (e.blk_at 0 U) isAgg41 sizeOf41 U)<|gb λ_ aw=>gb λaE aW=>gb λbg ax=>tSh tm (λa w=>∃ (ay az bA:Nat) (bB bC bD:Value),St 123 [(1,(pV N)),(3,(pV ay)),(4,(pV az)),(18,(pV bA)),(20,bD)] w0 (hp w0) [blk N [c1,c2,v1] 41,blk ay [a3] 69,blk az [nS] 71,blk bA [J aE.c.P,J aE.c.r,v1,bB,bC] 101,ow [bB] aE.o,ow [bC] aE.I,ow [bD] bg] a w) ?_ λb6=>?_
 rintro a w ⟨ay,az,bA,bB,bC,bD,H,e⟩
 refine gv H<|tO<|tf0 U U (λa H=>qm 1 H e U sizeOf69 U U U U U) ?_
 rintro _ w e
 refine tAn U<|tO<|tf0 U U (λa H=>qm 2 H e U sizeOf71 U U U (kF<|e.ow_rep 6 U) U) ?_
 rintro _ w e
 exact tAn U<|tE<|gZ λa H=>⟨ay,bA,bB,bC,az,bD,H.sb U,e.d [0,1,3,4,5,2,6] U⟩
 let a0:=blk N [c1,c2,v1] 41
 let a4:Value:=.agg #[c1,c2,v1]
 let aU:=J aE.c.P
 let b0:=J aE.c.r
 refine tSh (.e 3 tm .nil) (λa w=>∃ (bE bF bG:Nat) (bH bJ:Value),St 123 [(1,pV N),(3,pV bE),(4,pV bF),(18,pV bG),(19,a4)] w0 (hp w0) [a0,blk bE [a3] 69,blk bF [nS] 71,blk bG [aU,b0,v1,bH,bJ] 101,ow [bH] aE.o,ow [bJ] aE.I] a w) ?_ λb5=>?_
 rintro a w ⟨bE,bF,bG,bH,bJ,H,e⟩
 refine gv H<|tO<|tf U U (λa H=>ki H U call31 U<|ox _ W v1 (e.now h1) _ ax) ?_
 rintro aT w ⟨_,rfl,L⟩
 replace e:=e.give L
 exact tAn U<|mG b6 λa H=>⟨bE,bF,bG,bH,bJ,aT,H.sb U,e.d [1,2,3,4,5,6,0] U⟩
 refine tSh (.e 4 tm .nil) (λa w=>∃ (bK bL:Nat) (bM bN bO:Value),St 123 [(1,pV N),(4,pV bK),(18,pV bL),(20,bO)] w0 (hp w0) [a0,blk bK [nS] 71,blk bL [aU,b0,v1,bM,bN] 101,ow [bM] aE.o,ow [bN] aE.I,ow [bO] bg] a w) ?_ λd0=>?_
 rintro a w ⟨bK,bL,bM,bN,bO,H,e⟩
 refine tSv H e [0] U λM=>tO<|tf U U (λa H=>mQ e zeroValue69 U U) ?_
 rintro _ w ⟨aR,rfl,e⟩
 exact tAk e [1] U λM=>mG b6 λa H=>⟨aR,bK,bL,bM,bN,bO,H.sb U,e.d [1,0,2,3,4,5,6] U⟩
 refine tSh (.e 5 tm .nil) (λa w=>∃ (bP bQ:Nat) (bR bS bT:Value),St 123 [(1,pV N),(3,pV bP),(18,pV bQ),(20,bT)] w0 (hp w0) [a0,blk bP [a3] 69,blk bQ [aU,b0,v1,bR,bS] 101,ow [bR] aE.o,ow [bS] aE.I,ow [bT] bg] a w) ?_ λd5=>?_
 rintro a w ⟨bP,bQ,bR,bS,bT,H,e⟩
 refine tSv H e [0] U λM=>tO<|tf U U (λa H=>mQ e zeroValue71 U U) ?_
 rintro _ w ⟨aR,rfl,e⟩
 exact tAk e [1] U λM=>mG b6 λa H=>⟨bP,aR,bQ,bR,bS,bT,H.sb U,e.d [1,2,0,3,4,5,6] U⟩
 refine tSh bn6 (λa w=>∃ (bU bV:Nat),St 123 [(1,pV N),(3,pV bU),(4,pV bV),(17,a4),(19,a4)] w0 (hp w0) [a0,blk bU [a3] 69,blk bV [nS] 71] a w) ?_ λc6=>?_
 rintro a w ⟨bU,bV,H,e⟩
 refine tSv H e [0] U λM=>tO<|tf U U (λa H=>ki H U call30 U<|qL _ W v1 (e.now h1) _ aw) ?_
 rintro cV w aY
 rcases aY with ⟨aZ,-,-⟩ | ⟨cW,aZ,aY⟩
 cases aZ.symm.trans aW
 obtain rfl:=Option.some.inj<|aW.symm.trans aZ
 obtain ⟨aR,aT,ab,rfl,L⟩:=aY
 replace e:=e.give L
 exact tAk e [3] U λM=>mG b5 λa H=>⟨bU,bV,aR,aT,ab,H.sb U,e.d [3,4,5,0,1,2] U⟩
 refine tSh bp6 (λa w=>∃ (ae af:Nat) (ah ai:Value),St 123 [(1,pV N),(4,pV ae),(18,pV af),(19,a4)] w0 (hp w0) [a0,blk ae [nS] 71,blk af [aU,b0,v1,ah,ai] 101,ow [ah] aE.o,ow [ai] aE.I] a w) ?_ λd1=>?_
 rintro a w ⟨ae,af,ah,ai,H,e⟩
 refine tSv H e [0] U λM=>tMo ?_ ?_
 refine tf U U (λa H=>ki H U call31 U<|ox _ W v1 (e.now h1) _ ax) ?_
 rintro aT w ⟨_,rfl,L⟩
 replace e:=e.give L
 exact tAn U<|mG d0 λa H=>⟨ae,af,ah,ai,aT,H.sb U,e.d [1,2,3,4,5,0] U⟩
 refine tO<|tf U U (λa H=>mQ e zeroValue69 U U) ?_
 rintro _ w ⟨aR,rfl,e⟩
 exact tAk e [1] U λM=>mG b5 λa H=>⟨aR,ae,af,ah,ai,H.sb U,e.d [1,0,2,3,4,5] U⟩
 refine tSh bn9 (λa w=>∃ (aj ak:Nat) (al am:Value),St 123 [(1,pV N),(3,pV aj),(18,pV ak),(19,a4)] w0 (hp w0) [a0,blk aj [a3] 69,blk ak [aU,b0,v1,al,am] 101,ow [al] aE.o,ow [am] aE.I] a w) ?_ λd6=>?_
 rintro a w ⟨aj,ak,al,am,H,e⟩
 refine tSv H e [0] U λM=>tMo ?_ ?_
 refine tf U U (λa H=>ki H U call31 U<|ox _ W v1 (e.now h1) _ ax) ?_
 rintro aT w ⟨_,rfl,L⟩
 replace e:=e.give L
 exact tAn U<|mG d5 λa H=>⟨aj,ak,al,am,aT,H.sb U,e.d [1,2,3,4,5,0] U⟩
 refine tO<|tf U U (λa H=>mQ e zeroValue71 U U) ?_
 rintro _ w ⟨aR,rfl,e⟩
 exact tAk e [1] U λM=>mG b5 λa H=>⟨aj,aR,ak,al,am,H.sb U,e.d [1,2,0,3,4,5] U⟩
 refine tMo ?_ ?_
 refine tf U U (λa H=>ki H U call30 U<|qL _ W v1 (e.now h1) _ aw) ?_
 rintro cV w aY
 rcases aY with ⟨aZ,-,-⟩ | ⟨cW,aZ,aY⟩
 cases aZ.symm.trans aW
 obtain rfl:=Option.some.inj<|aW.symm.trans aZ
 obtain ⟨aR,aT,ab,rfl,L⟩:=aY
 replace e:=e.give L
 refine tAk e [3] U λM=>tMo ?_ ?_
 refine tf U U (λa H=>ki H U call31 U<|ox _ W v1 (e.now h1) _ ax) ?_
 rintro cF w ⟨_,rfl,L⟩
 replace e:=e.give L
 refine tAn U<|tMo ?_ ?_
 refine tf U U (λa H=>mQ e zeroValue69 U U) ?_
 rintro _ w ⟨cX,rfl,e⟩
 exact tAk e [5] U λM=>mG d5 λa H=>⟨cX,aR,aT,ab,cF,H.sb U,e.d [5,0,2,3,4,1] U⟩
 refine tO<|tf U U (λa H=>mQ e zeroValue71 U U) ?_
 rintro _ w ⟨cY,rfl,e⟩
 exact tAk e [5] U λM=>mG d0 λa H=>⟨cY,aR,aT,ab,cF,H.sb U,e.d [5,0,2,3,4,1] U⟩
 refine tMo ?_ ?_
 refine tf U U (λa H=>mQ e zeroValue69 U U) ?_
 rintro _ w ⟨cZ,rfl,e⟩
 exact tAk e [4] U λM=>mG d6 λa H=>⟨cZ,aR,aT,ab,H.sb U,e.d [4,0,1,2,3] U⟩
 refine tO<|tf U U (λa H=>mQ e zeroValue71 U U) ?_
 rintro _ w ⟨c7,rfl,e⟩
 exact tAk e [4] U λM=>mG d1 λa H=>⟨c7,aR,aT,ab,H.sb U,e.d [4,0,1,2,3] U⟩
 refine tMo ?_ ?_
 refine tf U U (λa H=>mQ e zeroValue69 U U) ?_
 rintro _ w ⟨cG,rfl,e⟩
 refine tAk e [1] U λM=>tMo ?_ ?_
 refine tf U U (λa H=>ki H U call30 U<|qL _ W v1 (e.now h1) _ aw) ?_
 rintro _ w bh
 rcases bh with ⟨bi,-,-⟩ | ⟨_,bi,bh⟩
 cases bi.symm.trans aW
 obtain rfl:=Option.some.inj<|aW.symm.trans bi
 obtain ⟨c8,c9,ca,rfl,L⟩:=bh
 replace e:=e.give L
 exact tAk e [4] U λM=>mG d6 λa H=>⟨cG,c8,c9,ca,H.sb U,e.d [4,3,0,1,2] U⟩
 refine tO<|tf U U (λa H=>mQ e zeroValue71 U U) ?_
 rintro _ w ⟨cb,rfl,e⟩
 exact tAk e [2] U λM=>mG c6 λa H=>⟨cG,cb,H.sb U,e.d [2,1,0] U⟩
 refine tO<|tf U U (λa H=>mQ e zeroValue71 U U) ?_
 rintro _ w ⟨cH,rfl,e⟩
 refine tAk e [1] U λM=>tMo ?_ ?_
 refine tf U U (λa H=>ki H U call30 U<|qL _ W v1 (e.now h1) _ aw) ?_
 rintro _ w bj
 rcases bj with ⟨bk,-,-⟩ | ⟨_,bk,bj⟩
 cases bk.symm.trans aW
 obtain rfl:=Option.some.inj<|aW.symm.trans bk
 obtain ⟨cc,cd,ce,rfl,L⟩:=bj
 replace e:=e.give L
 exact tAk e [4] U λM=>mG d1 λa H=>⟨cH,cc,cd,ce,H.sb U,e.d [4,3,0,1,2] U⟩
 refine tO<|tf U U (λa H=>mQ e zeroValue69 U U) ?_
 rintro _ w ⟨cf,rfl,e⟩
 exact tAk e [2] U λM=>mG c6 λa H=>⟨cf,cH,H.sb U,e.d [2,0,1] U⟩
 repeat clear e
 rintro K a w ⟨aC,aG,be,au,aD,bf,H,e⟩
 refine gv H<|gS<|S<|gL e 1 isAgg69 U<|gY (yG U<|kW U U)<|gF r9 U<|gL e 2 isAgg97 U<|gC e U call82 (sE _ K.2.2.2.1 au (e.ow_rep 4 U) false) λ_ _ w e=>gs 25 U (λcg=>?_) λcg=>?_
 exact gct U<|S<|gA U<|gw U U U ⟨U,e.below⟩
 refine gcf U<|gSk<|gS<|S<|gL e 5 isAgg71 U ?_
 obtain ⟨aP,aI,rfl,_⟩:=ju<|e.ow_rep 6 U
 refine gY (yV ti U)<|Y U ?_
 obtain ⟨aL,aM,rfl,_⟩:=ju<|e.ow_rep 3 U
 obtain ⟨aN,aO,rfl,_⟩:=ju<|e.ow_rep 4 U
 let a9:=sl aP K.2.2.2.2 aI
 let b4:=blk aD [a9] 71
 let a7:=os aN K.2.2.2.1 aO
 let a5:=blk aC [pV aG] 69
 let b3:=os aL K.2.2.1 aM
 let b7:=os aP K.2.2.2.2 aI
 let a2:=sl aN K.2.2.2.1 aO
 let a1:=sl aL K.2.2.1 aM
 let e4:=blk aG [J K.1,J K.2.1,v1,a1,a2] 101
 let e5:=J<|(K.2.2.2.2.length:Int)
 let e2:=blk N [c1,c2,v1] 41
 refine gBk<|gNf e (λan cI=>[(1,pV N),(3,pV aC),(4,pV aD),(26,a9),(27,e5),(28,J an)]) (λan cI=>[e2,a5,e4,b3,a7,b4,b7]) [0,1,2,3,4,5,6] U ?_ ?_
 repeat clear e
 intro _ ci an cI w e _ _ _ cj
 refine S<|gB U<|gS<|lT 29 U U<|S<|Y U<|gg λck cl bl=>?_
 obtain ⟨bW,bX,rfl⟩:=jA (e.ow_rep 6 U) bl
 obtain ⟨_,_,bm,cm⟩:=kn (e.ow_rep 6 U) bl
 have bY:=cm
 obtain ⟨cJ,rfl,-⟩:=id bY
 replace bY:GT.rep (hp _) [cJ] ck:=bY
 replace bm:kS (hp _) bW (bX+an.toNat*1) [cJ]:=bm
 let e6:=sw bW bX K.2.2.2.2 aI
 refine gI ti cl (jx bl) U<|gY (yl isAgg74 (bm.cell (j:=0) U) U)<|gA U<|gA U<|gS<|gJ e (λbZ=>[(1,pV N),(3,pV aC),(4,pV aD),(26,e6),(27,e5),(28,J an),(46,.bool bZ)]) (λbZ=>[e2,a5,e4,b3,a7,blk aD [e6] 71,ot bW bX K.2.2.2.2 aI]) (λbZ=>?_) ?_
 refine gR<|Y U ?_
 obtain ⟨_,_,rfl,_⟩:=ju bY
 refine gY (yV xD U)<|gB U<|Y U<|gsd 36 U (λcn=>?_) λcn=>?_
 exact gO U<|gO U<|gO U<|gO U<|gO U<|gO U<|gO U<|gO U<|gO U<|gKt U<|gE<|gz e [0,1,2,3,4,5,6] U
 refine Y U<|gF nD U<|gL e 0 isAgg3 U<|gB U<|Y U<|gsd 41 U (λco=>?_) λco=>?_
 exact Y U<|gY (yV xD U)<|gB U<|gKt U<|gKf U<|gE<|gz e [0,1,2,3,4,5,6] U
 exact gO U<|gO U<|gO U<|gKf U<|gKf U<|gE<|gz e [0,1,2,3,4,5,6] U
 repeat clear e
 intro bZ w e
 refine gs 46 U (λcq=>?_) λcq=>?_
 exact gct U<|S<|gA U<|gRt<|gLr cj ci<|gr1 results38 U ⟨U,e.below⟩
 exact gcf U<|gSk<|gR<|gp U<|Y U<|gE<|gze e [0,1,2,3,4,5,6] U
 repeat clear e
 intro _ _ w e _ _
 refine S<|gB U<|gS<|lF 29 U U<|gHh<|S<|gY (yU U)<|gAl e zeroValue87 U λaS w e=>gS1 e 0 sizeOf87 U U λw e=>gS<|S<|gF kM U<|gL e 1 isAgg39 U ?_
 obtain ⟨bo,aF,rfl,_⟩:=ju h1
 let c4:=blk aS [.func (.func 83) #[] #[pV N,pV aD,pV aC]] 87
 let a8:=J<|(W.b.length:Int)
 let c5:=sl bo W.b aF
 refine gY (yV kZ U)<|Y U<|gBk<|gNf e (λaQ cK=>[(1,pV N),(7,pV aS),(50,c5),(51,a8),(52,J aQ)]) (λaQ cK=>[blk N [c1,c2,c5] 41,c4,b4,b7,a5,blk aG [J K.1,J K.2.1,c5,a1,a2] 101,b3,a7]) [1,0,6,7,2,3,4,5] U ?_ ?_
 repeat clear e
 intro _ bp aQ cK w e _ _ _ bq
 refine S<|gB U<|gS<|lT 53 U U<|S<|Y U<|gg λaH cr br=>?_
 obtain ⟨aJ,aK,rfl⟩:=jA h1 br
 obtain ⟨_,bt,b8,ct,b9,ba,cv⟩:=k4 h1 br
 let O:=sw aJ aK W.b aF
 refine gI kZ cr (jx br) U<|gY (yn (ct.mono e.lez) isAgg68 sizeOf68 U)<|gAl e zeroValue3 U λaV w e=>gAl e zeroValue68 U λaa w e=>gS1 e 1 sizeOf3 U U λw e=>gSN e 0 sizeOf68 (Z (kF b9)<|Z (kF ba)<|Z U<|Z U<|Z (kF cv) kE) U λw e=>S<|gY (yn (e.blk_at 2 U) isAgg41 sizeOf41 U)<|gL e 1 isAgg3 U<|gCg U call62 (nm _ W O (e.now h1) aQ) ?_
 rintro aX _ _ w ⟨_,rfl,L⟩
 replace e:=e.give L
 refine gA U<|gS<|S<|gF ko U<|gL e 1 isAgg66 U ?_
 obtain ⟨bu,ac,rfl,_⟩:=ju b9
 refine gY (yV lY U)<|Y U ?_
 obtain ⟨ao,ap,rfl,_⟩:=ju<|e.ow_rep 0 U
 let d2:=blk aG [J K.1,J K.2.1,O,a1,a2] 101
 let a6:=blk N [c1,c2,O] 41
 let c3:=blk aV [J aQ] 3
 let d4:=sl bu aH.a ac
 let e0:=J<|(aH.a.length:Int)
 let d3:=os ao aX ap
 refine gBk<|gNf e (λbb cL=>[(1,pV N),(7,pV aS),(8,pV aV),(9,pV aa),(10,sl ao aX ap),(50,O),(51,a8),(52,J aQ),(61,d4),(62,e0),(63,J bb)]) (λbb cL=>[a6,c4,b4,b7,a5,d2,b3,a7,c3,blk aa [d4,bt,J aH.j,J aH.on,b8] 68,d3]) [3,4,5,6,7,8,9,10,2,1,0] U ?_ ?_
 repeat clear e
 intro _ cw bb cL w e _ _ _ cx
 refine S<|gB U<|gS<|lT 64 U U<|S<|gg λcM cy bv=>?_
 obtain ⟨bx,bz,rfl⟩:=jA b9 bv
 obtain ⟨_,cz,bc⟩:=mP b9 bv
 refine gI lY cy (jx bv) U<|gY (yn (cz.mono e.lez) isAgg80 sizeOf80 U)<|gAl e zeroValue80 U λ_ w e=>gSN e 0 sizeOf80 (Z U<|Z (kF bc) kE) U λw e=>S<|gF mT U<|gL e 0 isAgg54 U ?_
 obtain ⟨dA,dB,rfl,_⟩:=ju bc
 let e3:=sw bx bz aH.a ac
 let e1:=blk aa [e3,bt,J aH.j,J aH.on,b8] 68
 refine gY (yV kI U)<|Y U<|gBk<|gNf e (λcA cN=>[(1,pV N),(7,pV aS),(8,pV aV),(9,pV aa),(10,sl ao aX ap),(50,O),(51,a8),(52,J aQ),(61,e3),(62,e0),(63,J bb),(68,sl dA cM.A dB),(69,J<|(cM.A.length:Int)),(70,J cA)]) (λcA cN=>[a6,c4,b4,b7,a5,d2,b3,a7,c3,e1,d3]) [1,2,3,4,5,6,7,8,9,10,11] U ?_ ?_
 repeat clear e
 intro _ dC cA cN w e _ _ _ dD
 refine S<|gB U<|gS<|lT 71 U U<|S<|Y U<|gg λcO dE cB=>?_
 obtain ⟨_,_,rfl⟩:=jA bc cB
 refine gI kI dE (jx cB) U<|gY (yl isAgg3 ((kC (cs:=[J cO]) (e.now bc) cB U).cell (j:=0) U) U)<|gA U<|gA U<|gS<|gW (.p 1<|.p 2<|.p 3<|.p 4<|.p 6<|.p 8<|.p 9<|.p 10<|.q 0<|.q 5<|.q 7<|.e 11 (.p 12<|.p 13<|.e 14 (.p 15<|.e 16 (.p 17 .fin) .nil) .nil) .nil) [0,5,7,11,14] [1,2,3,4,6,8,9,10,12,13,15,17] e [0,1,2,3,4,5,6,7,8,9,10] [a6,c4,b4,b7,a5,d2,b3,a7,c3,e1,d3] U mxo (by kernel_rfl) (λ_ _ _ h=>h.2) λw e M=>uM U U<|uM U U<|uM U U<|gg λcC cP aq=>?_
 obtain ⟨_,_,rfl⟩:=jA (e.ow_rep 10 U) aq
 refine tP U (λw=>yI kI cP (jx aq) U)<|uF kM U U<|uM U U<|uM U U<|tP U (λw=>yI kI cP (jx aq) U)<|tQ U M (λw e=>yL e 1 isAgg87 U)<|tQ U M (λw e=>yl isAgg3 ((kC (cs:=[J cC]) (e.ow_rep 10 U) aq U).cell (j:=0) U) U)<|tQ U M (λw e=>yL e 0 isAgg39 U)<|tO<|tY U (yl isAgg3 ((kC (cs:=[J cC]) (e.ow_rep 10 U) aq U).cell (j:=0) U) U)<|tAs M<|gg λdF dG cQ=>?_
 obtain ⟨_,_,_,dH,_,dI,_⟩:=k4 h1 cQ
 refine tP U (λw=>yI kZ dG (jx cQ) U)<|uF lC U U<|tO<|tY U (yl isAgg53 ((dH.mono e.lez).cell (j:=1) U) U)<|tAs M ?_
 obtain ⟨_,_,rfl,_⟩:=ju dI
 refine tP U (λw=>yV lh U)<|tO<|gb λ_ dJ=>tf U U (λa H=>nC H U U U ⟨83,[pV N,pV aD,pV aC],U,call83,qS _ cO cC (dF.i.length:Int) W N O (kp (e.now h1)<|Below.refl _ _) (e.blk_later 0 U<|Below.refl _ _) K.2.2.2.2 aD a9 (kp (e.ow_rep 3 U)<|Below.refl _ _) (e.blk_later 2 U<|Below.refl _ _) (⟨(⟨K.1,K.2.1,W.b⟩:jv),K.2.2.1,K.2.2.2.1⟩:ld) aC aG O (kp (e.now h1)<|Below.refl _ _) a1 (kp (e.ow_rep 6 U)<|Below.refl _ _) a2 (kp (e.ow_rep 7 U)<|Below.refl _ _) (e.blk_later 5 U<|Below.refl _ _) (e.blk_later 4 U<|Below.refl _ _) _ dJ⟩) ?_
 rintro _ w ⟨rfl,L⟩
 replace e:=e.below' L
 refine tAn U<|tP U (λw=>yN U)<|tE<|gsn 92 U (λdK=>?_) λdK=>?_
 exact gct U<|S<|gA U<|gRt<|gLr dD dC<|gLr cx cw<|gLr bq bp<|gr1 results38 U ⟨U,e.below⟩
 exact gcf U<|gSk<|gR<|gp U<|Y U<|gE<|gze e [0,1,2,3,4,5,6,7,8,9,10] U
 repeat clear e
 intro _ _ w e _ _
 exact S<|gB U<|gS<|lF 71 U U<|gHh<|gR<|gp U<|Y U<|gE<|gze e [0,1,2,3,4,5,6,7,8,9,10] U
 repeat clear e
 intro _ _ w e _ _
 refine S<|gB U<|gS<|lF 64 U U<|gHh<|gS<|S<|gF lC U<|gL e 9 isAgg53 U ?_
 obtain ⟨cR,cS,rfl,_⟩:=ju ba
 refine gY (yV lh U)<|Y U<|gBk<|gNf e (λar cT=>[(1,pV N),(7,pV aS),(8,pV aV),(9,pV aa),(50,O),(51,a8),(52,J aQ),(96,sl cR aH.i cS),(97,J<|(aH.i.length:Int)),(98,J ar)]) (λar cT=>[a6,c4,b4,b7,a5,d2,b3,a7,c3,blk aa [d4,sl cR aH.i cS,J aH.j,J aH.on,b8] 68]) [0,1,2,3,4,5,6,7,8,9] U ?_ ?_
 repeat clear e
 intro _ dL ar cT w e _ _ _ dM
 refine S<|gB U<|gS<|lT 99 U U<|S<|Y U<|gg λdN dO cD=>?_
 obtain ⟨_,_,rfl⟩:=jA ba cD
 obtain ⟨dP,dQ,cU⟩:=nO ba cD
 refine gI lh dO (jx cD) U<|gY (yn (dQ.mono e.lez) isAgg65 sizeOf65 U)<|gAl e zeroValue3 U λcE w e=>gAl e zeroValue65 U λ_ w e=>gS1 e 1 sizeOf3 U U λw e=>gSN e 0 sizeOf65 (Z U<|Z U<|Z (kF cU)<|Z U kE) U λw e=>S<|gF ml U<|gL e 0 isAgg54 U<|gY (yU U)<|gC e U call85 (lR _ dN.A dP (e.now cU) (λy0=>mY y0 W K.2.2.2.2 (⟨(⟨K.1,K.2.1,W.b⟩:jv),K.2.2.1,K.2.2.2.1⟩:ld) aQ ar) (.func (.func 86) #[] #[pV aS,pV aV,pV cE]) λw y0 r L hq=>⟨86,[pV aS,pV aV,pV cE],U,call86,xU w y0 W N O (kp (e.now h1) L) (e.blk_later 2 U L) K.2.2.2.2 aD a9 (kp (e.ow_rep 5 U) L) (e.blk_later 4 U L) (⟨(⟨K.1,K.2.1,W.b⟩:jv),K.2.2.1,K.2.2.2.1⟩:ld) aC aG O (kp (e.now h1) L) a1 (kp (e.ow_rep 8 U) L) a2 (kp (e.ow_rep 9 U) L) (e.blk_later 7 U L) (e.blk_later 6 U L) aS (e.blk_later 3 U L) aQ aV (e.blk_later 10 U L) ar cE (e.blk_later 1 U L) r hq⟩) λ_ _ w e=>gs 106 U (λdR=>?_) λdR=>?_
 exact gct U<|S<|gA U<|gRt<|gLr dM dL<|gLr bq bp<|gr1 results38 U ⟨U,e.below⟩
 exact gcf U<|gSk<|gR<|gp U<|Y U<|gE<|gze e [2,3,4,5,6,7,8,9,10,11] U
 repeat clear e
 intro _ _ w e _ _
 refine S<|gB U<|gS<|lF 99 U U<|gHh<|gS<|gJ e (λbd=>[(1,pV N),(7,pV aS),(50,O),(51,a8),(52,J aQ),(121,.bool bd)]) (λbd=>[a6,c4,b4,b7,a5,d2,b3,a7]) (λbd=>?_) ?_
 refine gR<|gF oR U<|gL e 9 isAgg3 U<|gC e U call77 (oy _ aH.j) λ_ _ w e=>Y U<|gs 111 U (λdS=>?_) λdS=>?_
 refine gL e 1 isAgg87 U<|gF oI U<|gL e 9 isAgg3 U<|gL e 8 isAgg3 U<|gF lC U<|gL e 9 isAgg53 U<|gY (yV lh U)<|gb λ_ dT=>gf U (λa H=>nC H U U U ⟨83,[pV N,pV aD,pV aC],U,call83,qS _ aH.on aQ (aH.i.length:Int) W N O (kp (e.now h1)<|Below.refl _ _) (e.blk_later 0 U<|Below.refl _ _) K.2.2.2.2 aD a9 (kp (e.ow_rep 3 U)<|Below.refl _ _) (e.blk_later 2 U<|Below.refl _ _) (⟨(⟨K.1,K.2.1,W.b⟩:jv),K.2.2.1,K.2.2.2.1⟩:ld) aC aG O (kp (e.now h1)<|Below.refl _ _) a1 (kp (e.ow_rep 6 U)<|Below.refl _ _) a2 (kp (e.ow_rep 7 U)<|Below.refl _ _) (e.blk_later 5 U<|Below.refl _ _) (e.blk_later 4 U<|Below.refl _ _) _ dT⟩) ?_
 rintro _ w ⟨rfl,L⟩
 replace e:=e.below' L
 exact gN U<|gKt U<|gE<|gz e [0,1,2,3,4,5,6,7] U
 exact gO U<|gO U<|gO U<|gO U<|gO U<|gO U<|gO U<|gO U<|gO U<|gKf U<|gE<|gz e [0,1,2,3,4,5,6,7] U
 repeat clear e
 intro bd w e
 refine gs 121 U (λdU=>?_) λdU=>?_
 exact gct U<|S<|gA U<|gRt<|gLr bq bp<|gr1 results38 U ⟨U,e.below⟩
 exact gcf U<|gSk<|gR<|gp U<|Y U<|gE<|gze e [0,1,2,3,4,5,6,7] U
 repeat clear e
 intro _ _ w e _ _
 exact S<|gB U<|gS<|lF 53 U U<|gHh<|S<|gA U<|gw U U U ⟨U,e.below⟩
theorem yo (K:World) (H:jv) (L:Value) (M:rp K L H.b) :
    k6 Tryz.prog 37 [.agg #[J H.P,J H.r,L]] K (oP H) λr v w'=>v=(.bool (r))/\Below K.heap.size K w':=by
 unfold oP
 refine kQ func37 U λr e=>?_
 exact S<|gBx e U λ_ w e=>gA U<|S<|gY (yn (e.blk_at 0 U) isAgg41 sizeOf41 U)<|gC e U call38 (yu _ H L<|e.now M) λ_ _ w e=>gN U<|gA U<|gq U U ⟨U,e.below⟩
theorem aa8 (H:World) (u:kU) (K:Value) (N:rp H K u.C) :
    k6 Tryz.prog 17 [.agg #[K]] H (qp u) λr v w'=>v=(.bool (r))/\Below H.heap.size H w':=by
 unfold qp
 refine kQ func17 U λr e=>?_
 refine S<|gBx e U λ_ w e=>gA U<|gS<|gJ e (λL=>[(2,.bool L)]) (λL=>[]) (λL=>?_) ?_
 refine gR<|gY (yn (e.blk_at 0 U) isAgg28 sizeOf28 U)<|gC e U call35 (uv _ u K<|e.now N) λ_ _ w e=>Y U<|gs 5 U (λaB=>?_) λaB=>?_
 exact gF mu U<|gL e 0 isAgg26 U<|gC e U call36 (oh _ u.C K (e.now N) (λM=>oP M) (.func (.func 37) #[] #[]) λw M O aD r _ W=>⟨37,[],U,call37,yo w M O aD  r W⟩) λ_ _ w e=>gN U<|gKt U<|gA U<|gE<|gz e [] U
 exact gO U<|gO U<|gO U<|gO U<|gKf U<|gA U<|gE<|gz e [] U
 intro L w e
 exact gy U U ⟨U,e.below⟩
theorem u7 (K:World) (u:kU) (M:Value) (h1:rp K M u.C) :
    k6 Tryz.prog 7 [.agg #[M]] K (oO u) λr v w'=>∃ (x1:Value),v=(.tuple #[.agg #[x1],(.bool (r.2))])/\Mem K (hp K) w' [ow [x1] r.1.C]:=by
 unfold oO
 refine kQ func7 U λr e=>?_
 refine S<|gBx e U λ_ w e=>gAl e zeroValue28 U λ_ w e=>gA U<|S<|gY (yn (e.blk_at 1 U) isAgg28 sizeOf28 U)<|gCg U call14 (wq _ u M<|e.now h1) ?_
 rintro aD _ _ w ⟨W,rfl,L⟩
 replace e:=e.give L
 refine Y U<|gX U<|gX U<|gAl e zeroValue28 U λ_ w e=>gSN e 0 sizeOf28 (Z (kF<|e.ow_rep 1 U) kE) U λw e=>gA U<|gS<|S<|Y U<|gN U<|gsn 12 U (λaF=>?_) λaF=>?_
 refine gct U<|S<|gY (yG U<|mV (vs :=[]) (cs :=#[nS]) U U (by kernel_rfl))<|gSN e 2 sizeOf28 (Z U kE) U λw e=>gA U<|gRt ?_
 replace e:=e.nilow (α:=jv)
 exact au6 3 results7 e U isAgg28 sizeOf28 ⟨nS,U,e.d [0] U⟩
 refine gcf U<|gSk<|S<|gF mu U<|gL e 0 isAgg26 U<|gCg U call15 (oG _ aD.1.C W (e.ow_rep 1 U) (λN=>nf N) (.func (.func 16) #[] #[]) λw N aG aH r L hq=>⟨16,[],U,call16,ap5 w N aG aH  r hq⟩) ?_
 rintro O _ _ w ⟨_,rfl,L⟩
 replace e:=e.give L
 obtain ⟨aB,aC,rfl,_⟩:=ju<|e.ow_rep 0 U
 let H:=sl aB O aC
 refine gY (yG U<|mV (vs:=[(0,H)]) (cs:=#[H]) U U (by kernel_rfl))<|gSN e 1 sizeOf28 (Z U kE) U λw e=>gS<|S<|gY (yn (e.blk_at 1 U) isAgg28 sizeOf28 U)<|gC e U call17 (aa8 _ (⟨O⟩:kU) H<|e.ow_rep 0 U) λ_ _ w e=>gN U<|gsn 20 U (λaI=>?_) λaI=>?_
 refine gct U<|S<|gY (yG U<|mV (vs :=[]) (cs :=#[nS]) U U (by kernel_rfl))<|gSN e 3 sizeOf28 (Z U kE) U λw e=>gA U<|gRt ?_
 replace e:=e.nilow (α:=jv)
 exact au6 4 results7 e U isAgg28 sizeOf28 ⟨nS,U,e.d [0] U⟩
 exact gcf U<|gSk<|S<|gY (yn (e.blk_at 1 U) isAgg28 sizeOf28 U)<|gSN e 3 sizeOf28 (Z U kE) U λw e=>gA U<|gRt<|au6 3 results7 e U isAgg28 sizeOf28 ⟨H,U,e.d [0] U⟩
theorem tn (H:World) (N:List Int) (v1:Value) (L:rp H v1 N) (O:List Int) (v2:Value) (K:rp H v2 O) :
    k6 Tryz.prog 205 [v1,v2] H (rR N O) λr v w'=>v=(.bool (r))/\Below H.heap.size H w':=by
 unfold rR
 refine kQ func205 U λr e=>?_
 refine S<|gA U<|gS<|S<|Y U ?_
 obtain ⟨aE,aF,rfl,_⟩:=ju L
 refine gY (yV kI U)<|Y U ?_
 obtain ⟨aG,aH,rfl,_⟩:=ju K
 refine gY (yV kI U)<|gB U<|gsd 10 U (λaI=>?_) λaI=>?_
 exact gct U<|S<|gA U<|gw U U U ⟨U,e.below⟩
 refine gcf U<|gSk<|gS<|S<|gA U<|gBk<|gNf e (λaA aD=>[(0,sl aE N aF),(1,sl aG O aH),(5,J aA)]) (λaA aD=>[]) [] U ?_ ?_
 intro _ aJ aA aD w e _ _ _ aK
 refine gS<|S<|Y U<|Y U<|gY (yV kI U)<|gB U<|lT 14 U U<|gS<|gW (.p 0<|.p 1<|.p 2<|.p 4<|.p 5<|.p 6<|.q 3<|.e 7 (.p 8 .fin) .nil) [7] [0,1,2,4,5,6,8] e [] [] U mxo (by kernel_rfl) (λ_ _ _ h=>h.2) λw e hS=>uM U U<|uM U U<|gg λaL aM M=>?_
 obtain ⟨_,_,rfl⟩:=jA L M
 refine tP U (λw=>yI kI aM (jx M) U)<|uM U U<|uM U U<|gg λaN aO W=>?_
 obtain ⟨_,_,rfl⟩:=jA K W
 refine tP U (λw=>yI kI aO (jx W) U)<|tQ U hS (λw e=>yl isAgg3 ((kC (cs:=[J aL]) (e.now L) M U).cell (j:=0) U) U)<|tO<|tY U (yl isAgg3 ((kC (cs:=[J aN]) (e.now K) W U).cell (j:=0) U) U)<|tAs hS<|uB U U<|tE<|gsd 25 U (λaP=>?_) λaP=>?_
 exact gct U<|S<|gA U<|gRt<|gLr aK aJ<|gr1 results205 U ⟨U,e.below⟩
 exact gcf U<|gSk<|gR<|Y U<|gp U<|gA U<|gE<|gze e [] U
 intro _ _ w e _ _
 exact gS<|S<|Y U<|Y U<|gY (yV kI U)<|gB U<|lF 14 U U<|gHh<|S<|gA U<|gw U U U ⟨U,e.below⟩
theorem au0 (H:World) (L:kA) (N:Value) (W:rp H N L.A) (K:kA) (M:Value) (O:rp H M K.A) :
    k6 Tryz.prog 228 [.agg #[J L.to,N],.agg #[J K.to,M]] H (sC L K) λr v w'=>v=(.bool (r))/\Below H.heap.size H w':=by
 unfold sC
 refine kQ func228 U λr e=>?_
 refine S<|gBx e U λ_ w e=>gBx e U λ_ w e=>gA U<|gS<|S<|gF oH U<|gL e 1 isAgg3 U<|gF oH U<|gL e 0 isAgg3 U<|gB U<|gsd 9 U (λaA=>?_) λaA=>?_
 exact gct U<|S<|gA U<|gw U U U ⟨U,e.below⟩
 refine gcf U<|gSk<|gS<|S<|gF mT U<|gL e 1 isAgg54 U<|gF mT U<|gL e 0 isAgg54 U<|gC e U call205 (tn _ L.A N (e.now W) K.A M<|e.now O) λ_ _ w e=>gN U<|gsn 15 U (λaB=>?_) λaB=>?_
 exact gct U<|S<|gA U<|gw U U U ⟨U,e.below⟩
 exact gcf U<|gSk<|S<|gA U<|gw U U U ⟨U,e.below⟩
theorem ak6 (H:World) (N:List kA) (v1:Value) (L:rp H v1 N) (O:List kA) (v2:Value) (K:rp H v2 O) :
    k6 Tryz.prog 203 [v1,v2] H (uw N O) λr v w'=>v=(.bool (r))/\Below H.heap.size H w':=by
 unfold uw
 refine kQ func203 U λr e=>?_
 refine S<|gA U<|gS<|S<|Y U ?_
 obtain ⟨aE,aF,rfl,_⟩:=ju L
 refine gY (yV lY U)<|Y U ?_
 obtain ⟨aG,aH,rfl,_⟩:=ju K
 refine gY (yV lY U)<|gB U<|gsd 10 U (λaI=>?_) λaI=>?_
 exact gct U<|S<|gA U<|gw U U U ⟨U,e.below⟩
 refine gcf U<|gSk<|gS<|S<|gA U<|gBk<|gNf e (λaA aD=>[(0,sl aE N aF),(1,sl aG O aH),(5,J aA)]) (λaA aD=>[]) [] U ?_ ?_
 intro _ aJ aA aD w e _ _ _ aK
 refine gS<|S<|Y U<|Y U<|gY (yV lY U)<|gB U<|lT 14 U U<|gS<|gW (.p 0<|.p 1<|.p 2<|.p 4<|.p 5<|.p 6<|.q 3<|.e 7 (.e 8 (.p 9 .fin) .nil) .nil) [7] [0,1,2,4,5,6,9] e [] [] U mxo (by kernel_rfl) (λ_ _ _ h=>h.2) λw e hS=>uM U U<|uM U U<|gg λaL aM M=>?_
 obtain ⟨_,_,rfl⟩:=jA L M
 obtain ⟨aN,aO,aP⟩:=mP L M
 refine tP U (λw=>yI lY aM (jx M) U)<|uM U U<|uM U U<|gg λaQ aR W=>?_
 obtain ⟨_,_,rfl⟩:=jA K W
 obtain ⟨aS,aT,aV⟩:=mP K W
 refine tP U (λw=>yI lY aR (jx W) U)<|tQ U hS (λw e=>yn (aO.mono e.lez) isAgg80 sizeOf80 U)<|tO<|tY U (yn (aT.mono e.lez) isAgg80 sizeOf80 U)<|tAs hS<|tO<|gb λ_ aW=>tf U U (λa hf=>ki hf U call228 U<|au0 _ aL aN (e.now aP) aQ aS (e.now aV) _ aW) ?_
 rintro _ w ⟨rfl,hB⟩
 replace e:=e.below' hB
 refine tAn U<|tP U (λw=>yN U)<|tE<|gsn 26 U (λaX=>?_) λaX=>?_
 exact gct U<|S<|gA U<|gRt<|gLr aK aJ<|gr1 results203 U ⟨U,e.below⟩
 exact gcf U<|gSk<|gR<|Y U<|gp U<|gA U<|gE<|gze e [] U
 intro _ _ w e _ _
 exact gS<|S<|Y U<|Y U<|gY (yV lY U)<|gB U<|lF 14 U U<|gHh<|S<|gA U<|gw U U U ⟨U,e.below⟩
theorem as4 (L:World) (K:kD) (N:Value) (h1:rp L N K.A) (H:kD) (M:Value) (W:rp L M H.A) :
    k6 Tryz.prog 229 [.agg #[J K.op,J K.to,N,J K.N],.agg #[J H.op,J H.to,M,J H.N]] L (sQ K H) λr v w'=>v=(.bool (r))/\Below L.heap.size L w':=by
 unfold sQ
 refine kQ func229 U λr e=>?_
 refine S<|gBx e U λ_ w e=>gBx e U λ_ w e=>gA U<|gS<|S<|gF nN U<|gL e 1 isAgg3 U<|gF nN U<|gL e 0 isAgg3 U<|gB U<|gsd 9 U (λaA=>?_) λaA=>?_
 exact gct U<|S<|gA U<|gw U U U ⟨U,e.below⟩
 refine gcf U<|gSk<|gS<|S<|gF oa U<|gL e 1 isAgg3 U<|gF oa U<|gL e 0 isAgg3 U<|gB U<|gsd 14 U (λaB=>?_) λaB=>?_
 exact gct U<|S<|gA U<|gw U U U ⟨U,e.below⟩
 refine gcf U<|gSk<|gS<|S<|gF ml U<|gL e 1 isAgg54 U<|gF ml U<|gL e 0 isAgg54 U<|gC e U call205 (tn _ K.A N (e.now h1) H.A M<|e.now W) λ_ _ w e=>gN U<|gsn 20 U (λO=>?_) λO=>?_
 exact gct U<|S<|gA U<|gw U U U ⟨U,e.below⟩
 refine gcf U<|gSk<|gS<|S<|gF pj U<|gL e 1 isAgg3 U<|gF pj U<|gL e 0 isAgg3 U<|gB U<|gsd 25 U (λaD=>?_) λaD=>?_
 exact gct U<|S<|gA U<|gw U U U ⟨U,e.below⟩
 exact gcf U<|gSk<|S<|gA U<|gw U U U ⟨U,e.below⟩
theorem al1 (H:World) (N:List kD) (v1:Value) (L:rp H v1 N) (O:List kD) (v2:Value) (K:rp H v2 O) :
    k6 Tryz.prog 204 [v1,v2] H (uj N O) λr v w'=>v=(.bool (r))/\Below H.heap.size H w':=by
 unfold uj
 refine kQ func204 U λr e=>?_
 refine S<|gA U<|gS<|S<|Y U ?_
 obtain ⟨aE,aF,rfl,_⟩:=ju L
 refine gY (yV lh U)<|Y U ?_
 obtain ⟨aG,aH,rfl,_⟩:=ju K
 refine gY (yV lh U)<|gB U<|gsd 10 U (λaI=>?_) λaI=>?_
 exact gct U<|S<|gA U<|gw U U U ⟨U,e.below⟩
 refine gcf U<|gSk<|gS<|S<|gA U<|gBk<|gNf e (λaA aD=>[(0,sl aE N aF),(1,sl aG O aH),(5,J aA)]) (λaA aD=>[]) [] U ?_ ?_
 intro _ aJ aA aD w e _ _ _ aK
 refine gS<|S<|Y U<|Y U<|gY (yV lh U)<|gB U<|lT 14 U U<|gS<|gW (.p 0<|.p 1<|.p 2<|.p 4<|.p 5<|.p 6<|.q 3<|.e 7 (.e 8 (.p 9 .fin) .nil) .nil) [7] [0,1,2,4,5,6,9] e [] [] U mxo (by kernel_rfl) (λ_ _ _ h=>h.2) λw e hS=>uM U U<|uM U U<|gg λaL aM M=>?_
 obtain ⟨_,_,rfl⟩:=jA L M
 obtain ⟨aN,aO,aP⟩:=nO L M
 refine tP U (λw=>yI lh aM (jx M) U)<|uM U U<|uM U U<|gg λaQ aR W=>?_
 obtain ⟨_,_,rfl⟩:=jA K W
 obtain ⟨aS,aT,aV⟩:=nO K W
 refine tP U (λw=>yI lh aR (jx W) U)<|tQ U hS (λw e=>yn (aO.mono e.lez) isAgg65 sizeOf65 U)<|tO<|tY U (yn (aT.mono e.lez) isAgg65 sizeOf65 U)<|tAs hS<|tO<|gb λ_ aW=>tf U U (λa hf=>ki hf U call229 U<|as4 _ aL aN (e.now aP) aQ aS (e.now aV) _ aW) ?_
 rintro _ w ⟨rfl,hB⟩
 replace e:=e.below' hB
 refine tAn U<|tP U (λw=>yN U)<|tE<|gsn 26 U (λaX=>?_) λaX=>?_
 exact gct U<|S<|gA U<|gRt<|gLr aK aJ<|gr1 results204 U ⟨U,e.below⟩
 exact gcf U<|gSk<|gR<|Y U<|gp U<|gA U<|gE<|gze e [] U
 intro _ _ w e _ _
 exact gS<|S<|Y U<|Y U<|gY (yV lh U)<|gB U<|lF 14 U U<|gHh<|S<|gA U<|gw U U U ⟨U,e.below⟩
theorem ag2 (K:World) (H:jq) (O:Value) (h1:rp K O H.a) (W:Value) (h2:rp K W H.i) (M:Value) (h3:rp K M H.n) (L:jq) (v4:Value) (h4:rp K v4 L.a) (v5:Value) (h5:rp K v5 L.i) (N:Value) (h6:rp K N L.n) :
    k6 Tryz.prog 157 [.agg #[O,W,J H.j,J H.on,M],.agg #[v4,v5,J L.j,J L.on,N]] K (qW H L) λr v w'=>v=(.bool (r))/\Below K.heap.size K w':=by
 unfold qW
 refine kQ func157 U λr e=>?_
 refine S<|gBx e U λ_ w e=>gBx e U λ_ w e=>gA U<|gS<|S<|gF ko U<|gL e 1 isAgg66 U<|gF ko U<|gL e 0 isAgg66 U<|gC e U call203 (ak6 _ H.a O (e.now h1) L.a v4<|e.now h4) λ_ _ w e=>gN U<|gsn 10 U (λaA=>?_) λaA=>?_
 exact gct U<|S<|gA U<|gw U U U ⟨U,e.below⟩
 refine gcf U<|gSk<|gS<|S<|gF lC U<|gL e 1 isAgg53 U<|gF lC U<|gL e 0 isAgg53 U<|gC e U call204 (al1 _ H.i W (e.now h2) L.i v5<|e.now h5) λ_ _ w e=>gN U<|gsn 16 U (λaB=>?_) λaB=>?_
 exact gct U<|S<|gA U<|gw U U U ⟨U,e.below⟩
 refine gcf U<|gSk<|gS<|S<|gF oR U<|gL e 1 isAgg3 U<|gF oR U<|gL e 0 isAgg3 U<|gB U<|gsd 21 U (λaC=>?_) λaC=>?_
 exact gct U<|S<|gA U<|gw U U U ⟨U,e.below⟩
 refine gcf U<|gSk<|gS<|S<|gF oI U<|gL e 1 isAgg3 U<|gF oI U<|gL e 0 isAgg3 U<|gB U<|gsd 26 U (λaD=>?_) λaD=>?_
 exact gct U<|S<|gA U<|gw U U U ⟨U,e.below⟩
 refine gcf U<|gSk<|gS<|S<|gF lb U<|gL e 1 isAgg54 U<|gF lb U<|gL e 0 isAgg54 U<|gC e U call205 (tn _ H.n M (e.now h3) L.n N<|e.now h6) λ_ _ w e=>gN U<|gsn 32 U (λaE=>?_) λaE=>?_
 exact gct U<|S<|gA U<|gw U U U ⟨U,e.below⟩
 exact gcf U<|gSk<|S<|gA U<|gw U U U ⟨U,e.below⟩
theorem aa2 (H:World) (N:List jq) (v1:Value) (L:rp H v1 N) (O:List jq) (v2:Value) (K:rp H v2 O) :
    k6 Tryz.prog 87 [v1,v2] H (sc N O) λr v w'=>v=(.bool (r))/\Below H.heap.size H w':=by
 unfold sc
 refine kQ func87 U λr e=>?_
 refine S<|gA U<|gS<|S<|Y U ?_
 obtain ⟨aE,aF,rfl,_⟩:=ju L
 refine gY (yV kZ U)<|Y U ?_
 obtain ⟨aG,aH,rfl,_⟩:=ju K
 refine gY (yV kZ U)<|gB U<|gsd 10 U (λaI=>?_) λaI=>?_
 exact gct U<|S<|gA U<|gw U U U ⟨U,e.below⟩
 refine gcf U<|gSk<|gS<|S<|gA U<|gBk<|gNf e (λaA aD=>[(0,sl aE N aF),(1,sl aG O aH),(5,J aA)]) (λaA aD=>[]) [] U ?_ ?_
 intro _ aJ aA aD w e _ _ _ aK
 refine gS<|S<|Y U<|Y U<|gY (yV kZ U)<|gB U<|lT 14 U U<|gS<|gW (.p 0<|.p 1<|.p 2<|.p 4<|.p 5<|.p 6<|.q 3<|.e 7 (.e 8 (.p 9 .fin) .nil) .nil) [7] [0,1,2,4,5,6,9] e [] [] U mxo (by kernel_rfl) (λ_ _ _ h=>h.2) λw e hS=>uM U U<|uM U U<|gg λaL aM M=>?_
 obtain ⟨_,_,rfl⟩:=jA L M
 obtain ⟨aN,aO,aP,aQ,aR,aS,aT⟩:=k4 L M
 refine tP U (λw=>yI kZ aM (jx M) U)<|uM U U<|uM U U<|gg λaV aW W=>?_
 obtain ⟨_,_,rfl⟩:=jA K W
 obtain ⟨aX,aY,aZ,aa,ab,ac,ae⟩:=k4 K W
 refine tP U (λw=>yI kZ aW (jx W) U)<|tQ U hS (λw e=>yn (aQ.mono e.lez) isAgg68 sizeOf68 U)<|tO<|tY U (yn (aa.mono e.lez) isAgg68 sizeOf68 U)<|tAs hS<|tO<|gb λ_ af=>tf U U (λa hf=>ki hf U call157 U<|ag2 _ aL aN (e.now aR) aO (e.now aS) aP (e.now aT) aV aX (e.now ab) aY (e.now ac) aZ (e.now ae) _ af) ?_
 rintro _ w ⟨rfl,hB⟩
 replace e:=e.below' hB
 refine tAn U<|tP U (λw=>yN U)<|tE<|gsn 26 U (λah=>?_) λah=>?_
 exact gct U<|S<|gA U<|gRt<|gLr aK aJ<|gr1 results87 U ⟨U,e.below⟩
 exact gcf U<|gSk<|gR<|Y U<|gp U<|gA U<|gE<|gze e [] U
 intro _ _ w e _ _
 exact gS<|S<|Y U<|Y U<|gY (yV kZ U)<|gB U<|lF 14 U U<|gHh<|S<|gA U<|gw U U U ⟨U,e.below⟩
theorem ao0 (L:World) (K:jv) (N:Value) (h1:rp L N K.b) (H:jv) (M:Value) (W:rp L M H.b) :
    k6 Tryz.prog 39 [.agg #[J K.P,J K.r,N],.agg #[J H.P,J H.r,M]] L (rL K H) λr v w'=>v=(.bool (r))/\Below L.heap.size L w':=by
 unfold rL
 refine kQ func39 U λr e=>?_
 refine S<|gBx e U λ_ w e=>gBx e U λ_ w e=>gA U<|gS<|S<|gF nD U<|gL e 1 isAgg3 U<|gF nD U<|gL e 0 isAgg3 U<|gB U<|gsd 9 U (λaA=>?_) λaA=>?_
 exact gct U<|S<|gA U<|gw U U U ⟨U,e.below⟩
 refine gcf U<|gSk<|gS<|S<|gF mF U<|gL e 1 isAgg3 U<|gF mF U<|gL e 0 isAgg3 U<|gB U<|gsd 14 U (λaB=>?_) λaB=>?_
 exact gct U<|S<|gA U<|gw U U U ⟨U,e.below⟩
 refine gcf U<|gSk<|gS<|S<|gF kM U<|gL e 1 isAgg39 U<|gF kM U<|gL e 0 isAgg39 U<|gC e U call87 (aa2 _ K.b N (e.now h1) H.b M<|e.now W) λ_ _ w e=>gN U<|gsn 20 U (λO=>?_) λO=>?_
 exact gct U<|S<|gA U<|gw U U U ⟨U,e.below⟩
 exact gcf U<|gSk<|S<|gA U<|gw U U U ⟨U,e.below⟩
theorem ag0 (H:World) (N:List jv) (v1:Value) (L:rp H v1 N) (O:List jv) (v2:Value) (K:rp H v2 O) :
    k6 Tryz.prog 18 [v1,v2] H (tR N O) λr v w'=>v=(.bool (r))/\Below H.heap.size H w':=by
 unfold tR
 refine kQ func18 U λr e=>?_
 refine S<|gA U<|gS<|S<|Y U ?_
 obtain ⟨aE,aF,rfl,_⟩:=ju L
 refine gY (yV nU U)<|Y U ?_
 obtain ⟨aG,aH,rfl,_⟩:=ju K
 refine gY (yV nU U)<|gB U<|gsd 10 U (λaI=>?_) λaI=>?_
 exact gct U<|S<|gA U<|gw U U U ⟨U,e.below⟩
 refine gcf U<|gSk<|gS<|S<|gA U<|gBk<|gNf e (λaA aD=>[(0,sl aE N aF),(1,sl aG O aH),(5,J aA)]) (λaA aD=>[]) [] U ?_ ?_
 intro _ aJ aA aD w e _ _ _ aK
 refine gS<|S<|Y U<|Y U<|gY (yV nU U)<|gB U<|lT 14 U U<|gS<|gW (.p 0<|.p 1<|.p 2<|.p 4<|.p 5<|.p 6<|.q 3<|.e 7 (.e 8 (.p 9 .fin) .nil) .nil) [7] [0,1,2,4,5,6,9] e [] [] U mxo (by kernel_rfl) (λ_ _ _ h=>h.2) λw e hS=>uM U U<|uM U U<|gg λaL aM M=>?_
 obtain ⟨_,_,rfl⟩:=jA L M
 obtain ⟨aN,aO,aP⟩:=nQ L M
 refine tP U (λw=>yI nU aM (jx M) U)<|uM U U<|uM U U<|gg λaQ aR W=>?_
 obtain ⟨_,_,rfl⟩:=jA K W
 obtain ⟨aS,aT,aV⟩:=nQ K W
 refine tP U (λw=>yI nU aR (jx W) U)<|tQ U hS (λw e=>yn (aO.mono e.lez) isAgg41 sizeOf41 U)<|tO<|tY U (yn (aT.mono e.lez) isAgg41 sizeOf41 U)<|tAs hS<|tO<|gb λ_ aW=>tf U U (λa hf=>ki hf U call39 U<|ao0 _ aL aN (e.now aP) aQ aS (e.now aV) _ aW) ?_
 rintro _ w ⟨rfl,hB⟩
 replace e:=e.below' hB
 refine tAn U<|tP U (λw=>yN U)<|tE<|gsn 26 U (λaX=>?_) λaX=>?_
 exact gct U<|S<|gA U<|gRt<|gLr aK aJ<|gr1 results18 U ⟨U,e.below⟩
 exact gcf U<|gSk<|gR<|Y U<|gp U<|gA U<|gE<|gze e [] U
 intro _ _ w e _ _
 exact gS<|S<|Y U<|Y U<|gY (yV nU U)<|gB U<|lF 14 U U<|gHh<|S<|gA U<|gw U U U ⟨U,e.below⟩
theorem rj (H:World) (L:kU) (N:Value) (W:rp H N L.C) (K:kU) (M:Value) (O:rp H M K.C) :
    k6 Tryz.prog 8 [.agg #[N],.agg #[M]] H (pD L K) λr v w'=>v=(.bool (r))/\Below H.heap.size H w':=by
 unfold pD
 refine kQ func8 U λr e=>?_
 refine S<|gBx e U λ_ w e=>gBx e U λ_ w e=>gA U<|gS<|S<|gF mu U<|gL e 1 isAgg26 U<|gF mu U<|gL e 0 isAgg26 U<|gC e U call18 (ag0 _ L.C N (e.now W) K.C M<|e.now O) λ_ _ w e=>gN U<|gsn 10 U (λaA=>?_) λaA=>?_
 exact gct U<|S<|gA U<|gw U U U ⟨U,e.below⟩
 exact gcf U<|gSk<|S<|gA U<|gw U U U ⟨U,e.below⟩
theorem ry (M:World) (hz:kR) (L:List Int) (N:Value) (k_:Int) (O:Mem M hz M [ow [N] L]) :
    k6 Tryz.prog 90 [N,J k_] M (nE L k_) λr v w'=>v=(J r.1)/\Mem M hz w' [ow [N] r.2]:=by
 unfold nE
 refine k7 func90 U λr=>?_
 have e:=O
 refine S<|gA U<|gS<|S<|gA U ?_
 obtain ⟨aD,aE,rfl,_⟩:=ju<|e.ow_rep 0 U
 refine gBk<|gNf e (λaC K=>[(0,sl aD L aE),(1,J K.2),(5,J aC)]) (λaC K=>[ow [sl aD L aE] K.1]) [0] U ?_ ?_
 intro _ _ aC K w e _ _ _ _
 refine gS<|S<|Y U<|Y U ?_
 have aK:=o9<|e.ow_rep 0 U
 refine gY (yV kI U)<|gB U<|lT 9 U U<|S<|Y U<|Y U<|Y U<|gg λ_ aF W=>?_
 obtain ⟨_,_,rfl⟩:=jA (e.ow_rep 0 U) W
 have H:=kB<|e.ow_rep 0 U
 refine gI kI aF (kL W H) U<|gf0 U (λa hf=>lI (x1:=K.2) (j:=0) (vs:=[J K.2]) 0 hf e U W U sizeOf3 U U U (Z U kE) U U) ?_
 rintro _ w e
 exact gR<|Y U<|gB U<|gA U<|gR<|Y U<|gp U<|gA U<|gE<|gze e [0] U
 intro _ _ w e _ _
 refine gS<|S<|Y U<|Y U ?_
 have aV:=o9<|e.ow_rep 0 U
 exact gY (yV kI U)<|gB U<|lF 9 U U<|gHh<|S<|Y U<|gA U<|gq U U ⟨U,e.d [0] U⟩
theorem aa9 (w0:World) (hz:kR) (a_:List kA) (v1:Value) (k_:Int) (a0:Mem w0 hz w0 [ow [v1] a_]) :
    k6 Tryz.prog 88 [v1,J k_] w0 (qo a_ k_) λr v w'=>v=(J r.1)/\Mem w0 hz w' [ow [v1] r.2]:=by
 unfold qo
 refine k7 func88 U λr=>?_
 have e:=a0
 refine S<|gA U<|gS<|S<|gA U ?_
 obtain ⟨aJ,aG,rfl,_⟩:=ju<|e.ow_rep 0 U
 refine gBk<|gNf e (λO H=>[(0,sl aJ a_ aG),(1,J H.2),(5,J O)]) (λO H=>[ow [sl aJ a_ aG] H.1]) [0] U ?_ ?_
 intro _ _ O H w e _ _ _ _
 refine gS<|S<|Y U<|Y U ?_
 have aX:=o9<|e.ow_rep 0 U
 refine gY (yV lY U)<|gB U<|lT 9 U U<|S<|Y U<|Y U<|Y U<|gg λK aK W=>?_
 obtain ⟨aL,aM,rfl⟩:=jA (e.ow_rep 0 U) W
 obtain ⟨aN,aO,_⟩:=mP (e.ow_rep 0 U) W
 have M:=kB<|e.ow_rep 0 U
 refine gI lY aK (kL W M) U<|gF oH U<|gf0 U (λa hf=>pK (x1:=((⟨H.2,K.A⟩:kA):kA)) (j:=0) (vs:=[J H.2]) 0 hf e U W aO U (λF h ho=>(λ_=>pA (α:=Int) (β:=List Int) (cs:=[J K.to]) (cs':=[J H.2]) (ds:=[aN]) U λ_ _=>Flat.own_iff.2 U) F ho) U sizeOf3 U U U (Z U kE) U) ?_
 rintro _ w e
 have aH:=List.getElem?_set_self (a:=((⟨H.2,K.A⟩:kA):kA))<|jx W
 refine S<|Y U<|gB U<|gA U<|gR<|Y U<|Y U ?_
 obtain ⟨_,_,aF,aP⟩:=kn (e.ow_rep 0 U) aH
 obtain ⟨_,_,rfl,rfl,aI⟩:=aP
 obtain ⟨L,rfl,-⟩:=id aI
 replace aF:kS (hp _) aL (aM+O.toNat*2) [J H.2,L]:=aF
 have N:=kB<|e.ow_rep 0 U
 refine gI lY aK (kL aH N) U<|gF mT U<|gY (yl isAgg54 (aF.cell (j:=1) U) U)<|Y U ?_
 replace e:Mem w0 hz _ [ow [L] K.A,bk0 [sw aL aM a_ aG] [L] λ(y:List Int)=>((H.1.set O.toNat (⟨H.2,K.A⟩:kA)):List kA).set O.toNat (⟨H.2,y⟩:kA)]:=e.open 0 U<|wN aH aF U<|show zx (α:=kA) _ _ (⟨H.2,K.A⟩:kA) [L] K.A (λy=>(⟨H.2,y⟩:kA)) from (sZ (α:=Int) (β:=List Int) (cs:=[J H.2]) (ds:=[L]) (v:=[L]) (inner:=K.A) (x:=K.A) (z:=H.2) (put:=λ(y:List Int)=>y) U<|ab7 [L] K.A)
 obtain ⟨aQ,_,a1,_,aR⟩:=e.take2 (L1:=[_]) (L2:=[_]) [0] [1] (dt U) U U
 refine gCg U call90 (ry _ aQ K.A L (w64<|H.2+1) a1 ) ?_
 rintro _ _ _ w ⟨rfl,hB⟩
 replace e:=aR _ _ hB;clear hB
 replace e:=(e.shut 1 0 (dt U) U U).d [1] U
 exact gA U<|gR<|Y U<|gp U<|gA U<|gE<|gze e [0] U
 intro _ _ w e _ _
 refine gS<|S<|Y U<|Y U ?_
 have aj:=o9<|e.ow_rep 0 U
 exact gY (yV lY U)<|gB U<|lF 9 U U<|gHh<|S<|Y U<|gA U<|gq U U ⟨U,e.d [0] U⟩
theorem ab8 (w0:World) (hz:kR) (a_:List kD) (v1:Value) (k_:Int) (a3:Mem w0 hz w0 [ow [v1] a_]) :
    k6 Tryz.prog 89 [v1,J k_] w0 (qj a_ k_) λr v w'=>v=(J r.1)/\Mem w0 hz w' [ow [v1] r.2]:=by
 unfold qj
 refine k7 func89 U λr=>?_
 have K:=a3
 refine S<|gA U<|gS<|S<|gA U ?_
 obtain ⟨aV,aM,rfl,_⟩:=ju<|K.ow_rep 0 U
 refine gBk<|gNf K (λO H=>[(0,sl aV a_ aM),(1,J H.2),(5,J O)]) (λO H=>[ow [sl aV a_ aM] H.1]) [0] U ?_ ?_
 intro _ _ O H w K _ _ _ _
 refine gS<|S<|Y U<|Y U ?_
 have ak:=o9<|K.ow_rep 0 U
 refine gY (yV lh U)<|gB U<|lT 9 U U<|S<|Y U<|Y U<|Y U<|gg λe aN aG=>?_
 obtain ⟨aO,aP,rfl⟩:=jA (K.ow_rep 0 U) aG
 obtain ⟨aW,aX,_⟩:=nO (K.ow_rep 0 U) aG
 have a1:=kB<|K.ow_rep 0 U
 refine gI lh aN (kL aG a1) U<|gF nN U<|gf0 U (λa hf=>pK (x1:=((⟨H.2,e.to,e.A,e.N⟩:kD):kD)) (j:=0) (vs:=[J H.2]) 0 hf K U aG aX U (λF h ho=>(λ_=>pA (α:=Int) (β:=Int × (List Int) × Int) (cs:=[J e.op]) (cs':=[J H.2]) (ds:=[J e.to,aW,J e.N]) U λ_ _=>Flat.own_iff.2 U) F ho) U sizeOf3 U U U (Z U kE) U) ?_
 rintro _ w K
 have aJ:=List.getElem?_set_self (a:=((⟨H.2,e.to,e.A,e.N⟩:kD):kD))<|jx aG
 refine S<|Y U<|gB U<|gA U<|S<|Y U<|Y U<|Y U ?_
 obtain ⟨_,_,aQ,aY⟩:=kn (K.ow_rep 0 U) aJ
 obtain ⟨_,_,rfl,rfl,_,_,rfl,rfl,_,_,rfl,aR,rfl⟩:=aY
 obtain ⟨aH,rfl,-⟩:=id aR
 replace aQ:kS (hp _) aO (aP+O.toNat*4) [J H.2,J e.to,aH,J e.N]:=aQ
 have a2:=kB<|K.ow_rep 0 U
 let N:=J<|w64<|H.2+1
 refine gI lh aN (kL aJ a2) U<|gF oa U<|gf0 U (λa hf=>pK (x1:=((⟨H.2,w64<|H.2+1,e.A,e.N⟩:kD):kD)) (j:=1) (vs:=[N]) 0 hf K U aJ aQ U (λF h ho=>(λ_=>ng (α:=Int) (β:=Int × (List Int) × Int) (cs:=[J H.2]) (ds:=[J e.to,aH,J e.N]) (ds':=[N,aH,J e.N]) U λ_=>pA (α:=Int) (β:=(List Int) × Int) (cs:=[J e.to]) (cs':=[N]) (ds:=[aH,J e.N]) U λ_ _=>Flat.own_iff.2 U) F ho) U sizeOf3 U U U (Z U kE) U) ?_
 rintro _ w K
 have aS:=List.getElem?_set_self (a:=((⟨H.2,w64<|H.2+1,e.A,e.N⟩:kD):kD))<|jx aJ
 refine S<|Y U<|gB U<|gA U<|S<|Y U<|Y U ?_
 obtain ⟨_,_,aK,aZ⟩:=kn (K.ow_rep 0 U) aS
 obtain ⟨_,_,rfl,rfl,_,_,rfl,rfl,_,_,rfl,aT,rfl⟩:=aZ
 obtain ⟨L,rfl,-⟩:=id aT
 replace aK:kS (hp _) aO (aP+O.toNat*4) [J H.2,N,L,J e.N]:=aK
 have a0:=kB<|K.ow_rep 0 U
 refine gI lh aN (kL aS a0) U<|gF ml U<|gY (yl isAgg54 (aK.cell (j:=2) U) U)<|Y U ?_
 replace K:Mem w0 hz _ [ow [L] e.A,bk0 [sw aO aP a_ aM] [L] λ(y:List Int)=>(((H.1.set O.toNat (⟨H.2,e.to,e.A,e.N⟩:kD)).set O.toNat (⟨H.2,w64<|H.2+1,e.A,e.N⟩:kD)):List kD).set O.toNat (⟨H.2,w64<|H.2+1,y,e.N⟩:kD)]:=K.open 0 U<|wN aS aK U<|show zx (α:=kD) _ _ (⟨H.2,w64<|H.2+1,e.A,e.N⟩:kD) [L] e.A (λy=>(⟨H.2,w64<|H.2+1,y,e.N⟩:kD)) from (sZ (α:=Int) (β:=Int × (List Int) × Int) (cs:=[J H.2]) (ds:=[J<|w64<|H.2+1,L,J e.N]) (v:=[L]) (inner:=e.A) (x:=(w64<|H.2+1,e.A,e.N)) (z:=H.2) (put:=λ(y:List Int)=>(w64<|H.2+1,y,e.N)) U<|sZ (α:=Int) (β:=(List Int) × Int) (cs:=[J<|w64<|H.2+1]) (ds:=[L,J e.N]) (v:=[L]) (inner:=e.A) (x:=(e.A,e.N)) (z:=w64<|H.2+1) (put:=λ(y:List Int)=>(y,e.N)) U<|bc7 (α:=List Int) (β:=Int) (cs:=[L]) (ds:=[J e.N]) (v:=[L]) (inner:=e.A) (x:=e.A) (z:=e.N) (put:=λ(y:List Int)=>y) U<|ab7 [L] e.A)
 obtain ⟨aa,_,a4,_,ab⟩:=K.take2 (L1:=[_]) (L2:=[_]) [0] [1] (dt U) U U
 refine gCg U call90 (ry _ aa e.A L (w64<|(w64<|H.2+1)+1) a4 ) ?_
 rintro aF _ _ w ⟨rfl,hB⟩
 replace K:=ab _ _ hB;clear hB
 replace K:=(K.shut 1 0 (dt U) U U).d [1] U
 refine gA U<|S<|Y U<|Y U<|Y U<|gg λM ac aL=>?_
 obtain ⟨aI,ae,_⟩:=nO (K.ow_rep 0 U) aL
 have W:=kB<|K.ow_rep 0 U
 refine gI lh ac (kL aL W) U<|gF pj U<|gf0 U (λa hf=>pK (x1:=((⟨M.op,M.to,M.A,aF.1⟩:kD):kD)) (j:=3) (vs:=[J aF.1]) 0 hf K U aL ae U (λF h ho=>(λ_=>ng (α:=Int) (β:=Int × (List Int) × Int) (cs:=[J M.op]) (ds:=[J M.to,aI,J M.N]) (ds':=[J M.to,aI,J aF.1]) U λ_=>ng (α:=Int) (β:=(List Int) × Int) (cs:=[J M.to]) (ds:=[aI,J M.N]) (ds':=[aI,J aF.1]) U λ_=>ng (α:=List Int) (β:=Int) (cs:=[aI]) (ds:=[J M.N]) (ds':=[J aF.1]) U λ_ _=>Flat.own_iff.2 U) F ho) U sizeOf3 U U U (Z U kE) U) ?_
 rintro _ w K
 exact gR<|Y U<|gB U<|gA U<|gR<|Y U<|gp U<|gA U<|gE<|gze K [0] U
 intro _ _ w K _ _
 refine gS<|S<|Y U<|Y U ?_
 have ay:=o9<|K.ow_rep 0 U
 exact gY (yV lh U)<|gB U<|lF 9 U U<|gHh<|S<|Y U<|gA U<|gq U U ⟨U,K.d [0] U⟩
end Go.Proofs.YtkihhabnfheieaaGreat
