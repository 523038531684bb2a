/- A part of the proof of FnExactSingleUnitSaid. -/
import Derived.Test.YtkihhabnfheieaaGreatSuWalksB
namespace Go.Proofs.YtkihhabnfheieaaGreat
open Go Go.Wk Go.RowKit
set_option maxRecDepth 4000
set_option maxHeartbeats 4000000
open Tryz
theorem nm (K:World) (L:jv) (v1:Value) (h1:rp K v1 L.b) (N:Int) :
    k6 Tryz.prog 62 [.agg #[J L.P,J L.r,v1],J N] K (lQ L N) λr v w'=>∃ (x1:Value),v=x1/\Mem K (hp K) w' [ow [x1] r]:=by
 unfold lQ
 refine kQ func62 U λr e=>?_
 refine S<|gBx e U λ_ w e=>gA U<|S<|gA U<|gS<|S<|Y U<|gF kM U<|gL e 0 isAgg39 U ?_
 obtain ⟨aI,aE,rfl,_⟩:=ju h1
 refine gY (yV kZ U)<|gY (yS (by omega) (by omega) U)<|gC e U call78 (lu _ N 0<|((L.b.length:Int)) - 1) λ_ _ w e=>gN U<|gsn 14 U (λaL=>?_) λaL=>?_
 refine gct U<|S<|gA U<|gRt ?_
 replace e:=e.nilow (α:=Int)
 exact gr1 results62 U ⟨nS,U,e.d [0] U⟩
 refine gcf U<|gSk<|gS<|S<|gF kM U<|gL e 0 isAgg39 U<|gY (yV kZ U)<|Y U<|gBk ?_
 replace e:=e.nilow (α:=Int)
 let M:=J<|(L.b.length:Int)
 refine gNg (λO aJ a w=>∃ (aB:Value),St 33 [(1,J N),(5,aB),(16,sl aI L.b aE),(17,M),(18,J O)] K (hp K) [ow [aB] aJ] a w) (λa H=>⟨nS,H.sb U,e.d [0] U⟩) ?_ ?_
 repeat clear e
 rintro _ _ O aJ a w ⟨aB,H,e⟩ _ _ _ _
 refine gv H<|S<|gB U<|gS<|go _ 19 U (decide_eq_true (by omega))<|gct U<|gSk<|gS<|gJg (λaF a w=>∃ (aC:Value),St 33 [(1,J N),(5,aC),(16,sl aI L.b aE),(17,M),(18,J O)] K (hp K) [ow [aC] aF] a w) (λaF=>?_) ?_
 refine gBk<|S<|Y U<|gg λaM aN aG=>?_
 obtain ⟨aO,aP,rfl⟩:=jA h1 aG
 obtain ⟨_,_,aQ,aR,aS,aT,aK⟩:=k4 h1 aG
 refine gI kZ aN (jx aG) U<|gY (yn (aR.mono e.lez) isAgg68 sizeOf68 U)<|gAl e zeroValue68 U λ_ w e=>gA U<|gSN e 0 sizeOf68 (Z (kF aS)<|Z (kF aT)<|Z U<|Z U<|Z (kF aK) kE) U λw e=>S<|gF lb U<|gL e 0 isAgg54 U<|Y U<|gC e U call131 (tG _ aM.n aQ (e.now aK) N) λ_ _ w e=>gJg (λaH a w=>∃ (W:Value),St 33 [(1,J N),(5,W),(16,sw aO aP L.b aE),(17,M),(18,J O)] K (hp K) [ow [W] aH] a w) (λaH=>?_) ?_
 refine gs 26 U (λaV=>?_) λaV=>?_
 refine gct U<|gR<|Y U<|Y U<|gf U (λa H=>kj (vs :=#[(0,(J O))]) (cs :=[J O]) kg H e U U (by kernel_rfl) U U) ?_
 rintro _ w ⟨_,rfl,e⟩
 replace e:=e.lit (xs:=([O]:List Int)) 0 U U U U
 refine gb λ_ aW=>?_
 obtain ⟨aX,aY⟩:=kP.1 aW
 refine gf U (λa H=>kz 2 kg H e U (e.ow_rep 0 U) U U U aX) ?_
 rintro aZ w e
 rw [aY] at e
 exact gA U<|gE<|gZ λa H=>⟨aZ,H.sb U,e.d [2] U⟩
 exact gcf U<|gSk<|gZ λa H=>⟨aB,H.sb U,e.d [1] U⟩
 repeat clear e
 rintro aH a w ⟨W,H,e⟩
 exact gv H<|gZ λa H=>⟨W,H.sb U,e.d [0] U⟩
 repeat clear e
 rintro aF a w ⟨aC,H,e⟩
 exact gv H<|gR<|gp U<|Y U<|gE<|gZe λa H=>⟨aC,H.sb U,e.d [0] U⟩
 repeat clear e
 rintro _ _ a w ⟨aa,H,e⟩ _ _
 exact gv H<|S<|gB U<|gS<|lF 19 U U<|gHh<|S<|Y U<|gA U<|gq U U ⟨aa,U,e.d [0] U⟩
theorem ab5 (K:World) (O:Int) (e:jv) (W:Value) (h1:rp K W e.b) (N:Nat) (aB:hc K N [J e.P,J e.r,W] 41) (M:Nat) (L:hc K M [(.func (.func 148) #[] #[pV N])] 103) :
    k6 Tryz.prog 154 [J O,pV M] K (pZ O e) λr v w'=>v=(.bool (r))/\Below K.heap.size K w':=by
 unfold pZ
 refine kQ func154 U λr H=>?_
 refine S<|gA U<|S<|gY (yl isAgg103 (H.old_cell L U) U)<|Y U<|gb λ_ aC=>gf U (λa hf=>nC hf U U U ⟨148,[pV N],U,call148,sP _ O e W (kp (H.now h1)<|Below.refl _ _) N (H.old_later aB<|Below.refl _ _) _ aC⟩) ?_
 rintro _ w ⟨rfl,hB⟩
 replace H:=H.below' hB
 exact gN U<|gA U<|gq U U ⟨U,H.below⟩
theorem ak4 (w0:World) (u:kU) (v1:Value) (h1:rp w0 v1 u.C) (k_:Int) :
    k6 Tryz.prog 79 [.agg #[v1],J k_] w0 (tB u k_) λr v w'=>v=(.bool (r))/\Below w0.heap.size w0 w':=by
 unfold tB
 refine kQ func79 U λr e=>?_
 refine S<|gBx e U λaC w e=>gBx e U λaD w e=>gA U<|S<|gF mu U<|gL e 1 isAgg26 U<|gL e 0 isAgg3 U<|gg λK ap aW=>?_
 obtain ⟨aL,aM,aN,he⟩:=jy h1 aW
 subst he
 obtain ⟨aq,ar,aK⟩:=nQ h1 aW
 let a5:=sw aL aM u.C aN
 let O:=blk aC [a5] 28
 let W:=blk aD [J k_] 3
 refine gI nU ap (jx aW) U<|gY (yn (ar.mono e.lez) isAgg41 sizeOf41 U)<|gAl e zeroValue41 U λM w e=>gSN e 0 sizeOf41 (Z U<|Z U<|Z (kF aK) kE) U λw e=>gS<|gS<|gJ e (λaO=>[(2,pV aC),(3,pV aD),(5,pV M),(36,.bool aO)]) (λaO=>[O,W,blk M [J K.P,J K.r,aq] 41]) (λaO=>?_) ?_
 refine gR<|gF mF U<|gL e 0 isAgg3 U<|gC e U call78 (lu _ K.r 0 300) λ_ _ w e=>gN U<|Y U<|gsn 21 U (λau=>?_) λau=>?_
 exact gO U<|gO U<|gO U<|gO U<|gO U<|gO U<|gO U<|gKt U<|Y U<|gO U<|gO U<|gO U<|gO U<|gO U<|gKt U<|gE<|gz e [2,1,0] U
 refine gF nD U<|gL e 0 isAgg3 U<|gF mF U<|gL e 0 isAgg3 U<|gY (yG U<|db5 U U U) ?_
 have be:bn2 3 K.r=min 3 K.r:=bq9 _ _
 refine gC e U call78 (lu _ K.P 0<|bn2 3 K.r) λ_ _ w e=>gN U<|gKf U<|Y U<|gsn 30 U (λaw=>?_) λaw=>?_
 exact gO U<|gO U<|gO U<|gO U<|gO U<|gKt U<|gE<|gz e [2,1,0] U
 refine gF kM U<|gL e 0 isAgg39 U ?_
 obtain ⟨_,_,rfl,_⟩:=ju aK
 exact gY (yV kZ U)<|gC e U call78 (lu _ (K.b.length:Int) 1 160) λ_ _ w e=>gN U<|gKf U<|gE<|gz e [2,1,0] U
 repeat clear e
 intro aO w e
 refine gs 36 U (λax=>?_) λax=>?_
 exact gct U<|S<|gA U<|gw U U U ⟨U,e.below⟩
 refine gcf U<|gSk<|S<|gY (yU U)<|gAl e zeroValue103 U λaG w e=>gS1 e 0 sizeOf103 U U λw e=>gS<|S<|gF kM U<|gL e 3 isAgg39 U ?_
 obtain ⟨ai,aE,rfl,_⟩:=ju aK
 let a1:=blk aG [.func (.func 148) #[] #[pV M]] 103
 let a0:=J<|(K.b.length:Int)
 refine gY (yV kZ U)<|Y U<|gBk<|gNf e (λaJ aj=>[(2,pV aC),(3,pV aD),(5,pV M),(6,pV aG),(39,sl ai K.b aE),(40,a0),(41,J aJ)]) (λaJ aj=>[O,W,blk M [J K.P,J K.r,sl ai K.b aE] 41,a1]) [1,2,3,0] U ?_ ?_
 repeat clear e
 intro _ aX aJ aj w e _ _ _ aY
 refine S<|gB U<|gS<|lT 42 U U<|S<|Y U<|gg λN ay aZ=>?_
 obtain ⟨aH,aI,rfl⟩:=jA aK aZ
 obtain ⟨ak,aa,ab,az,aP,al,ac⟩:=k4 aK aZ
 let L:=sw aH aI K.b aE
 let a2:=blk M [J K.P,J K.r,L] 41
 refine gI kZ ay (jx aZ) U<|gY (yn (az.mono e.lez) isAgg68 sizeOf68 U)<|gAl e zeroValue68 U λaQ w e=>gA U<|gSN e 0 sizeOf68 (Z (kF aP)<|Z (kF al)<|Z U<|Z U<|Z (kF ac) kE) U λw e=>gS<|gS<|gJ e (λaR=>[(2,pV aC),(3,pV aD),(5,pV M),(6,pV aG),(7,J aJ),(8,pV aQ),(39,L),(40,a0),(41,J aJ),(75,.bool aR)]) (λaR=>[O,W,a2,a1,blk aQ [ak,aa,J N.j,J N.on,ab] 68]) (λaR=>?_) ?_
 refine gW (.p 0<|.p 3<|.q 1<|.p 2<|.e 4 (.e 5 (.p 6<|.p 7<|.p 8<|.e 9 (.e 10 (.p 11<|.p 13<|.q 12<|.e 14 (.e 15 (.p 16<|.p 17<|.p 18<|.p 19<|.p 20<|.e 21 (.e 22 (.p 23<|.p 24<|.p 25<|.e 26 (.p 27<|.p 28<|.p 29 .fin) .nil) .nil) .nil) .nil) .nil) .nil) .nil) .nil) .nil) [4,5,14] [0,2,3,6,7,8,11,13,16,17,18,19,20,23,24,25,27,28,29] e [0,1,2,3,4] [_,_,_,_,_] U mxo (by kernel_rfl) (λ_ _ _ h=>h.2) λw e hS=>uF lb U U<|uF oR U U<|tQ U hS (λw e=>yL e 0 isAgg54 U) ?_
 obtain ⟨_,_,rfl,_⟩:=ju ac
 refine tP U (λw=>yV kI U)<|tO<|tY U (yL e 0 isAgg3 U)<|tAs hS<|tO<|gb λ_ bA=>tf U U (λa hf=>ki hf U call149 U<|za _ N.j _ bA) ?_
 rintro _ w ⟨rfl,H⟩
 replace e:=e.below' H
 refine tAk e [0,1,2,3,4] U λhS=>uB U U<|uM U U<|gsd 53 U (λbB=>?_) λbB=>?_
 refine tPo U U<|tO<|tEo U U<|tAn U<|tO<|tEo U U<|tAn U<|tPo U U<|tPo U U<|tQo U hS U<|tO<|tEo U U<|tAs hS<|tO<|tEo U U<|tAn U<|tPo U U<|tPo U U<|uT U U<|uM U U<|tPo U U<|tO<|tEo U U<|tAn U<|tO<|tEo U U<|tAn U<|tPo U U<|tPo U U<|tPo U U<|tO ?_
 exact tEo U U<|tAn U<|tPo U U<|tPo U U<|uT U U<|tE<|gz e [1,2,3,4,0] U
 refine uF oR U U<|tO<|tY U (yL e 0 isAgg3 U)<|tAn U<|tO<|gb λ_ bC=>tf U U (λa hf=>ki hf U call77 U<|oy _ N.j _ bC) ?_
 rintro _ w ⟨rfl,H⟩
 replace e:=e.below' H
 refine tAk e [0,1,2,3,4] U λhS=>uM U U<|gs 57 U (λbD=>?_) λbD=>?_
 refine uF oI U U<|tQ U hS (λw e=>yL e 4 isAgg103 U)<|tO<|tY U (yL e 0 isAgg3 U)<|tAs hS<|tO<|gb λ_ bE=>tf U U (λa hf=>nC hf U U U ⟨148,[pV M],U,call148,sP _ N.on K L (kp (e.now aK)<|Below.refl _ _) M (e.blk_later 3 U<|Below.refl _ _) _ bE⟩) ?_
 rintro _ w ⟨rfl,H⟩
 replace e:=e.below' H
 refine tAn U<|tP U (λw=>yN U)<|uT U U<|uK U U<|uM U U<|gsn 65 U (λbF=>?_) λbF=>?_
 exact tPo U U<|tO<|tEo U U<|tAn U<|tO<|tEo U U<|tAn U<|tPo U U<|tPo U U<|tPo U U<|tO<|tEo U U<|tAn U<|tPo U U<|tPo U U<|uT U U<|tE<|gz e [1,2,3,4,0] U
 refine uF oR U U<|tO<|tY U (yL e 0 isAgg3 U)<|tAn U<|tO<|gb λ_ bG=>tf U U (λa hf=>ki hf U call77 U<|oy _ N.j _ bG) ?_
 rintro _ w ⟨rfl,H⟩
 replace e:=e.below' H
 refine tAn U<|tP U (λw=>yN U)<|uM U U<|gsn 70 U (λbH=>?_) λbH=>?_
 exact uF oI U U<|tO<|tY U (yL e 0 isAgg3 U)<|tAn U<|uB U U<|uT U U<|uK U U<|tE<|gz e [1,2,3,4,0] U
 exact tPo U U<|tO<|tEo U U<|tAn U<|tPo U U<|uK U U<|uK U U<|tE<|gz e [1,2,3,4,0] U
 refine tPo U U<|tQo U hS U<|tO<|tEo U U<|tAs hS<|tO<|tEo U U<|tAn U<|tPo U U<|uK U U<|uK U U<|uM U U<|uF oR U U<|tO<|tY U (yL e 0 isAgg3 U)<|tAn U<|tO<|gb λ_ bJ=>tf U U (λa hf=>ki hf U call77 U<|oy _ N.j _ bJ) ?_
 rintro _ w ⟨rfl,H⟩
 replace e:=e.below' H
 refine tAn U<|tP U (λw=>yN U)<|uM U U<|gsn 70 U (λbK=>?_) λbK=>?_
 exact uF oI U U<|tO<|tY U (yL e 0 isAgg3 U)<|tAn U<|uB U U<|uT U U<|uK U U<|tE<|gz e [1,2,3,4,0] U
 exact tPo U U<|tO<|tEo U U<|tAn U<|tPo U U<|uK U U<|uK U U<|tE<|gz e [1,2,3,4,0] U
 repeat clear e
 intro aR w e
 refine gs 75 U (λbL=>?_) λbL=>?_
 exact gct U<|S<|gA U<|gRt<|gLr aY aX<|gr1 results79 U ⟨U,e.below⟩
 refine gcf U<|gSk<|gS<|gS<|gJ e (λaS=>[(2,pV aC),(3,pV aD),(5,pV M),(6,pV aG),(7,J aJ),(8,pV aQ),(39,L),(40,a0),(41,J aJ),(85,.bool aS)]) (λaS=>[O,W,a2,a1,blk aQ [ak,aa,J N.j,J N.on,ab] 68]) (λaS=>?_) ?_
 refine gR<|gF lb U<|gL e 4 isAgg54 U<|gY (yU U)<|gC e U call85 (lR _ N.n ab (e.now ac) (λy0=>pW y0 K) (.func (.func 150) #[] #[pV M]) λw y0 r H hq=>⟨150,[pV M],U,call150,ac4 w y0 K L (kp (e.now aK) H) M (e.blk_later 2 U H) r hq⟩) λ_ _ w e=>Y U<|gs 80 U (λbM=>?_) λbM=>?_
 exact gO U<|gO U<|gO U<|gO U<|gKt U<|gE<|gz e [0,1,2,3,4] U
 exact gF lC U<|gL e 4 isAgg53 U<|gY (yU U)<|gC e U call151 (pN _ N.i aa (e.now al) (λy0=>pc y0 u k_) (.func (.func 152) #[] #[pV aC,pV aD]) λw y0 bN bO r H hq=>⟨152,[pV aC,pV aD],U,call152,ad0 w y0 bN bO u a5 (kp (e.now h1) H) aC (e.blk_later 0 U H) k_ aD (e.blk_later 1 U H) r hq⟩) λ_ _ w e=>gKf U<|gE<|gz e [0,1,2,3,4] U
 repeat clear e
 intro aS w e
 refine gs 85 U (λbP=>?_) λbP=>?_
 exact gct U<|S<|gA U<|gRt<|gLr aY aX<|gr1 results79 U ⟨U,e.below⟩
 refine gcf U<|gSk<|S<|gY (yn (e.blk_at 2 U) isAgg41 sizeOf41 U)<|Y U<|gCg U call62 (nm _ K L (e.now aK) aJ) ?_
 rintro am _ _ w ⟨_,rfl,H⟩
 replace e:=e.give H
 obtain ⟨_,_,rfl,_⟩:=ju<|e.ow_rep 0 U
 refine gY (yV kI U)<|gA U<|S<|gF ko U<|gL e 5 isAgg66 U ?_
 obtain ⟨bQ,an,rfl,_⟩:=ju aP
 let a4:=J<|(N.a.length:Int)
 let a3:=J<|(am.length:Int)
 refine gY (yV lY U)<|Y U<|gBk<|gNf e (λaT ao=>[(2,pV aC),(3,pV aD),(5,pV M),(6,pV aG),(7,J aJ),(9,a3),(39,L),(40,a0),(41,J aJ),(91,sl bQ N.a an),(92,a4),(93,J aT)]) (λaT ao=>[O,W,a2,a1]) [1,2,3,4] U ?_ ?_
 repeat clear e
 intro _ bR aT ao w e _ _ _ bS
 refine S<|gB U<|gS<|lT 94 U U<|S<|gg λae bT af=>?_
 obtain ⟨bU,bV,rfl⟩:=jA aP af
 obtain ⟨_,bW,ah⟩:=mP aP af
 refine gI lY bT (jx af) U<|gY (yn (bW.mono e.lez) isAgg80 sizeOf80 U)<|gAl e zeroValue80 U λ_ w e=>gSN e 0 sizeOf80 (Z U<|Z (kF ah) kE) U λw e=>gS<|gJ e (λaV=>[(2,pV aC),(3,pV aD),(5,pV M),(6,pV aG),(7,J aJ),(9,a3),(39,L),(40,a0),(41,J aJ),(91,sw bU bV N.a an),(92,a4),(93,J aT),(118,.bool aV)]) (λaV=>[O,W,a2,a1]) (λaV=>?_) ?_
 refine gR<|Y U<|gB U<|Y U<|gsd 99 U (λbX=>?_) λbX=>?_
 exact gO U<|gO U<|gO U<|gO U<|gO U<|gKt U<|Y U<|gO U<|gO U<|gO U<|gO U<|gO U<|gKt U<|Y U<|gO U<|gO U<|gO U<|gO U<|gKt U<|gE<|gz e [1,2,3,4] U
 refine gL e 4 isAgg103 U<|gF oH U<|gL e 0 isAgg3 U<|gb λ_ bY=>gf U (λa hf=>nC hf U U U ⟨148,[pV M],U,call148,sP _ ae.to K L (kp (e.now aK)<|Below.refl _ _) M (e.blk_later 3 U<|Below.refl _ _) _ bY⟩) ?_
 rintro _ w ⟨rfl,H⟩
 replace e:=e.below' H
 refine gN U<|gKf U<|Y U<|gsn 106 U (λbZ=>?_) λbZ=>?_
 exact gO U<|gO U<|gO U<|gO U<|gO U<|gKt U<|Y U<|gO U<|gO U<|gO U<|gO U<|gKt U<|gE<|gz e [1,2,3,4] U
 refine gF mT U<|gL e 0 isAgg54 U ?_
 obtain ⟨b8,b9,rfl,_⟩:=ju ah
 refine gY (yV kI U)<|Y U<|gB U<|gKf U<|Y U<|gsd 113 U (λba=>?_) λba=>?_
 exact gO U<|gO U<|gO U<|gO U<|gKt U<|gE<|gz e [1,2,3,4] U
 exact gF mT U<|gL e 0 isAgg54 U<|gY (yU U)<|gC e U call85 (lR _ ae.A (sl b8 ae.A b9) (e.now ah) (λy0=>pZ y0 K) (.func (.func 154) #[] #[pV aG]) λw y0 r H hq=>⟨154,[pV aG],U,call154,ab5 w y0 K L (kp (e.now aK) H) M (e.blk_later 3 U H) aG (e.blk_later 4 U H) r hq⟩) λ_ _ w e=>gKf U<|gE<|gz e [1,2,3,4] U
 repeat clear e
 intro aV w e
 refine gs 118 U (λbb=>?_) λbb=>?_
 exact gct U<|S<|gA U<|gRt<|gLr bS bR<|gLr aY aX<|gr1 results79 U ⟨U,e.below⟩
 exact gcf U<|gSk<|gR<|gp U<|Y U<|gE<|gze e [0,1,2,3] U
 repeat clear e
 intro _ _ w e _ _
 exact S<|gB U<|gS<|lF 94 U U<|gHh<|gR<|gp U<|Y U<|gE<|gze e [0,1,2,3] U
 repeat clear e
 intro _ _ w e _ _
 exact S<|gB U<|gS<|lF 42 U U<|gHh<|S<|gA U<|gw U U U ⟨U,e.below⟩
theorem ze (K:World) (H:jv) (v1:Value) (L:rp K v1 H.b) :
    k6 Tryz.prog 80 [.agg #[J H.P,J H.r,v1]] K (qN H) λr v w'=>v=(J r)/\Below K.heap.size K w':=by
 unfold qN
 refine kQ func80 U λr e=>?_
 refine S<|gBx e U λ_ w e=>gA U<|S<|gA U<|gS<|S<|gF kM U<|gL e 0 isAgg39 U ?_
 obtain ⟨aF,aG,rfl,_⟩:=ju L
 refine gY (yV kZ U)<|Y U<|gBk<|gNf e (λO M=>[(3,J M),(7,sl aF H.b aG),(8,J<|(H.b.length:Int)),(9,J O)]) (λO M=>[]) [] U ?_ ?_
 repeat clear e
 intro _ _ O M w e _ _ _ _
 refine S<|gB U<|gS<|lT 10 U U<|S<|gg λ_ aH N=>?_
 obtain ⟨_,_,rfl⟩:=jA L N
 obtain ⟨_,_,_,aI,aD,W,aJ⟩:=k4 L N
 refine gI kZ aH (jx N) U<|gY (yn (aI.mono e.lez) isAgg68 sizeOf68 U)<|gAl e zeroValue68 U λ_ w e=>gSN e 0 sizeOf68 (Z (kF aD)<|Z (kF W)<|Z U<|Z U<|Z (kF aJ) kE) U λw e=>gR<|Y U<|gF ko U<|gL e 0 isAgg66 U ?_
 obtain ⟨_,_,rfl,_⟩:=ju aD
 refine gY (yV lY U)<|gF lC U<|gL e 0 isAgg53 U ?_
 obtain ⟨_,_,rfl,_⟩:=ju W
 exact gY (yV lh U)<|gp U<|gB U<|gA U<|gR<|gp U<|Y U<|gE<|gze e [] U
 repeat clear e
 intro _ _ w e _ _
 exact S<|gB U<|gS<|lF 10 U U<|gHh<|S<|Y U<|gA U<|gq U U ⟨U,e.below⟩
theorem uv (K:World) (u:kU) (v1:Value) (H:rp K v1 u.C) :
    k6 Tryz.prog 35 [.agg #[v1]] K (oq u) λr v w'=>v=(.bool (r))/\Below K.heap.size K w':=by
 unfold oq
 refine kQ func35 U λr e=>?_
 refine S<|gBx e U λW w e=>gA U<|gS<|S<|gF mu U<|gL e 0 isAgg26 U ?_
 obtain ⟨aF,N,rfl,_⟩:=ju H
 refine gY (yV nU U)<|gC e U call78 (lu _ (u.C.length:Int) 1 4) λ_ _ w e=>gN U<|gsn 10 U (λaH=>?_) λaH=>?_
 exact gct U<|S<|gA U<|gw U U U ⟨U,e.below⟩
 refine gcf U<|gSk<|S<|gA U<|gS<|S<|gF mu U<|gL e 0 isAgg26 U<|gY (yV nU U)<|Y U<|gBk<|gNf e (λL O=>[(1,pV W),(3,J O),(12,sl aF u.C N),(13,J<|(u.C.length:Int)),(14,J L)]) (λL O=>[blk W [sl aF u.C N] 28]) [0] U ?_ ?_
 intro _ aI L O w e _ _ _ aJ
 refine S<|gB U<|gS<|lT 15 U U<|S<|Y U<|gg λaK aL M=>?_
 obtain ⟨aM,aN,rfl⟩:=jA H M
 obtain ⟨aO,aP,aG⟩:=nQ H M
 refine gI nU aL (jx M) U<|gY (yn (aP.mono e.lez) isAgg41 sizeOf41 U)<|gAl e zeroValue41 U λ_ w e=>gA U<|gSN e 0 sizeOf41 (Z U<|Z U<|Z (kF aG) kE) U λw e=>gS<|S<|gY (yn (e.blk_at 1 U) isAgg28 sizeOf28 U)<|Y U<|gC e U call79 (ak4 _ u (sw aM aN u.C N) (e.now H) L) λ_ _ w e=>gN U<|gsn 22 U (λaQ=>?_) λaQ=>?_
 exact gct U<|S<|gA U<|gRt<|gLr aJ aI<|gr1 results35 U ⟨U,e.below⟩
 exact gcf U<|gSk<|gR<|Y U<|gY (yn (e.blk_at 0 U) isAgg41 sizeOf41 U)<|gC e U call80 (ze _ aK aO<|e.now aG) λ_ _ w e=>gB U<|gA U<|gR<|gp U<|Y U<|gE<|gze e [1] U
 intro _ _ w e _ _
 exact S<|gB U<|gS<|lF 15 U U<|gHh<|S<|Y U<|gB U<|gA U<|gw U U U ⟨U,e.below⟩
theorem oG (L:World) (H:List jv) (v1:Value) (h1:rp L v1 H) (f:jv->Option jv) (O:Value) (a0:∀ (w:World) (y0:jv) (z1:Value) (_:GT.rep (hp w) [z1] y0.b) (r:jv),Below L.heap.size L w->f y0=some r->w5 Tryz.prog O [.agg #[J y0.P,J y0.r,z1]] w (λv w'=>∃ (x1:Value),v=(.agg #[J r.P,J r.r,x1])/\Mem w (hp w) w' [ow [x1] r.b])) :
    k6 Tryz.prog 15 [v1,O] L (lX H f) λr v w'=>∃ (x1:Value),v=x1/\Mem L (hp L) w' [ow [x1] r]:=by
 unfold lX
 refine kQ func15 U λr e=>?_
 refine S<|gA U<|S<|gA U<|gS<|S<|Y U ?_
 obtain ⟨aJ,aK,rfl,_⟩:=ju h1
 refine gY (yV nU U)<|Y U<|gBk ?_
 replace e:=e.nilow (α:=jv)
 refine gNg (λaG aB a w=>∃ (aC:Value),St 22 [(1,O),(5,aC),(8,sl aJ H aK),(9,J<|(H.length:Int)),(10,J aG)] L (hp L) [ow [aC] aB] a w) (λa K=>⟨nS,K.sb U,e.d [0] U⟩) ?_ ?_
 rintro _ _ aG aB a w ⟨aC,K,e⟩ _ _ _ _
 refine gv K<|S<|gB U<|gS<|lT 11 U U<|S<|gg λaE aL aF=>?_
 obtain ⟨_,_,rfl⟩:=jA h1 aF
 obtain ⟨aH,aM,aI⟩:=nQ h1 aF
 refine gI nU aL (jx aF) U<|gY (yn (aM.mono e.lez) isAgg41 sizeOf41 U)<|gAl e zeroValue41 U λaN w e=>gSN e 0 sizeOf41 (Z U<|Z U<|Z (kF aI) kE) U λw e=>gR<|Y U<|Y U<|gY (yn (e.blk_at 0 U) isAgg41 sizeOf41 U)<|gb λW aO=>gf U (λa K=>nC K U U U<|a0 _ aE aH (e.now aI) _ e.below aO) ?_
 rintro _ w ⟨aD,rfl,hB⟩
 replace e:=e.give hB
 let N:=J W.P
 let M:=J W.r
 refine gf U (λa K=>kj (vs:=#[(0,.agg #[N,M,aD])]) (cs:=[N,M,aD]) bh8 K e U U (by kernel_rfl) U U) ?_
 rintro _ w ⟨aP,rfl,e⟩
 replace e:=e.els_nil (α:=jv)
 replace e:Mem L (hp L) _ [els [] ([]:List jv),blk aP [N,M,aD] 41,ow [N,M,aD] (W:jv),blk aN [J aE.P,J aE.r,aH] 41,ow [aC] aB]:=ak0 W.P W.r e 2 U
 replace e:=(e.els_cons 0 2 (dt U) U U).d [0,1,3,4] U
 replace e:=(e.lit_els 1 0 (dt U) U U U U).d [1,2,3] U
 refine gb λ_ aQ=>?_
 obtain ⟨aR,aS⟩:=kP.1 aQ
 replace e:=(e.both 2 0 (dt U) U U).d [1,2] U
 refine gf U (λa K=>lW (xs:=aB) (ys:=([W]:List jv)) 1 bh8 K e U U U U aR) ?_
 rintro aT w e
 rw [aS] at e
 exact gA U<|gR<|gp U<|Y U<|gE<|gZe λa K=>⟨aT,K.sb U,e.d [1] U⟩
 rintro _ _ a w ⟨aV,K,e⟩ _ _
 exact gv K<|S<|gB U<|gS<|lF 11 U U<|gHh<|S<|Y U<|gA U<|gq U U ⟨aV,U,e.d [0] U⟩
theorem ah3 (L:World) (u:kU) (O:Value) (h1:rp L O u.C) (f:jv->Option jv) (H:Value) (N:∀ (w:World) (M:jv) (z1:Value) (_:GT.rep (hp w) [z1] M.b) (r:jv),Below L.heap.size L w->f M=some r->w5 Tryz.prog H [.agg #[J M.P,J M.r,z1]] w (λv w'=>∃ (x1:Value),v=(.agg #[J r.P,J r.r,x1])/\Mem w (hp w) w' [ow [x1] r.b])) :
    k6 Tryz.prog 25 [.agg #[O],H] L (tU u f) λr v w'=>∃ (x1:Value),v=(.tuple #[.agg #[x1],(.bool (r.2))])/\Mem L (hp L) w' [ow [x1] r.1.C]:=by
 unfold tU
 refine kQ func25 U λr e=>?_
 refine S<|gBx e U λ_ w e=>gAl e zeroValue28 U λ_ w e=>gA U<|gS<|S<|gY (yn (e.blk_at 1 U) isAgg28 sizeOf28 U)<|gC e U call35 (uv _ u O<|e.now h1) λ_ _ w e=>gN U<|gsn 8 U (λaD=>?_) λaD=>?_
 refine gct U<|S<|gY (yG U<|mV (vs :=[]) (cs :=#[nS]) U U (by kernel_rfl))<|gSN e 0 sizeOf28 (Z U kE) U λw e=>gA U<|gRt ?_
 replace e:=e.nilow (α:=jv)
 exact au6 1 results25 e U isAgg28 sizeOf28 ⟨nS,U,e.d [0] U⟩
 refine gcf U<|gSk<|S<|gF mu U<|gL e 1 isAgg26 U<|Y U<|gCg U call15 (oG _ u.C O (e.now h1) f H λw M aE aF r W hq=>N w M aE aF r (e.below.trans<|W.mono e.below.size) hq) ?_
 rintro aA _ _ w ⟨_,rfl,W⟩
 replace e:=e.give W
 obtain ⟨aB,aC,rfl,_⟩:=ju<|e.ow_rep 0 U
 let K:=sl aB aA aC
 exact gY (yG U<|mV (vs:=[(0,K)]) (cs:=#[K]) U U (by kernel_rfl))<|gSN e 1 sizeOf28 (Z U kE) U λw e=>gA U<|gRt<|au6 1 results25 e U isAgg28 sizeOf28 ⟨K,U,e.d [0] U⟩
theorem yH (H:World) (N:Int) (e:jv) (O:Value) (W:rp H O e.b) (L:Nat) (K:hc H L [J e.P,J e.r,O] 41) :
    k6 Tryz.prog 140 [J N,pV L] H (oe N e) λr v w'=>v=(.bool (r))/\Below H.heap.size H w':=by
 unfold oe
 refine kQ func140 U λr M=>?_
 refine S<|gA U<|S<|Y U<|gF kM U<|gY (yl isAgg39 (M.old_cell K U) U) ?_
 obtain ⟨_,_,rfl,_⟩:=ju W
 exact gY (yV kZ U)<|gY (yS (by omega) (by omega) U)<|gC M U call78 (lu _ N 0<|((e.b.length:Int)) - 1) λ_ _ w M=>gN U<|gA U<|gq U U ⟨U,M.below⟩
theorem zG (L:World) (M:jq) (v1:Value) (h1:rp L v1 M.a) (v2:Value) (h2:rp L v2 M.i) (O:Value) (h3:rp L O M.n) (e:jv) (W:Value) (h4:rp L W e.b) (H:Nat) (N:hc L H [J e.P,J e.r,W] 41) :
    k6 Tryz.prog 139 [.agg #[v1,v2,J M.j,J M.on,O],pV H] L (qE M e) λr v w'=>v=(.bool (r))/\Below L.heap.size L w':=by
 unfold qE
 refine kQ func139 U λr K=>?_
 exact S<|gBx K U λ_ w K=>gA U<|S<|gF lb U<|gL K 0 isAgg54 U<|gY (yU U)<|gC K U call85 (lR _ M.n O (K.now h3) (λy0=>oe y0 e) (.func (.func 140) #[] #[pV H]) λw y0 r hB hq=>⟨140,[pV H],U,call140,yH w y0 e W (kp (K.now h4) hB) H (K.old_later N hB) r hq⟩) λ_ _ w K=>gA U<|gq U U ⟨U,K.below⟩
theorem oz (K:World) (N:List jq) (v1:Value) (O:rp K v1 N) (f:jq->Option Bool) (H:Value) (M:∀ (w:World) (L:jq) (z1:Value) (_:GT.rep (hp w) [z1] L.a) (z2:Value) (_:GT.rep (hp w) [z2] L.i) (z3:Value) (_:GT.rep (hp w) [z3] L.n) (r:Bool),Below K.heap.size K w->f L=some r->w5 Tryz.prog H [.agg #[z1,z2,J L.j,J L.on,z3]] w (λv w'=>v=(.bool (r))/\Below w.heap.size w w')) :
    k6 Tryz.prog 197 [v1,H] K (l5 N f) λr v w'=>v=(J r)/\Below K.heap.size K w':=by
 unfold l5
 refine kQ func197 U λr e=>?_
 refine S<|gA U<|gS<|S<|Y U ?_
 obtain ⟨aD,aE,rfl,_⟩:=ju O
 refine gY (yV kZ U)<|Y U<|gBk<|gNf e (λaA aC=>[(0,sl aD N aE),(1,H),(7,J<|(N.length:Int)),(8,J aA)]) (λaA aC=>[]) [] U ?_ ?_
 intro _ aF aA aC w e _ _ _ aG
 refine S<|gB U<|gS<|lT 9 U U<|S<|Y U<|gA U<|S<|Y U<|Y U<|Y U<|gg λaH aI W=>?_
 obtain ⟨_,_,rfl⟩:=jA O W
 obtain ⟨aJ,aK,aL,aM,aN,aO,aP⟩:=k4 O W
 refine gI kZ aI (jx W) U<|gY (yn (aM.mono e.lez) isAgg68 sizeOf68 U)<|gb λ_ aQ=>gf U (λa hf=>nC hf U U U<|M _ aH aJ (e.now aN) aK (e.now aO) aL (e.now aP) _ e.below aQ) ?_
 rintro _ w ⟨rfl,hB⟩
 replace e:=e.below' hB
 refine gs 16 U (λaR=>?_) λaR=>?_
 exact gct U<|S<|Y U<|gA U<|gRt<|gLr aG aF<|gr1 results197 U ⟨U,e.below⟩
 exact gcf U<|gSk<|gR<|gp U<|Y U<|gE<|gze e [] U
 intro _ _ w e _ _
 exact S<|gB U<|gS<|lF 9 U U<|gHh<|S<|gA U<|gq U U ⟨U,e.below⟩
theorem oY (K:World) (O:List jq) (N:Value) (h1:rp K N O) (f:jq->Option Bool) (H:Value) (M:∀ (w:World) (e:jq) (z1:Value) (_:GT.rep (hp w) [z1] e.a) (W:Value) (_:GT.rep (hp w) [W] e.i) (z3:Value) (_:GT.rep (hp w) [z3] e.n) (r:Bool),Below K.heap.size K w->f e=some r->w5 Tryz.prog H [.agg #[z1,W,J e.j,J e.on,z3]] w (λv w'=>v=(.bool (r))/\Below w.heap.size w w')) :
    k6 Tryz.prog 138 [N,H] K (lA O f) λr v w'=>v=(.bool (r))/\Below K.heap.size K w':=by
 unfold lA
 refine kQ func138 U λr L=>?_
 exact S<|gA U<|S<|Y U<|Y U<|gC L U call197 (oz _ O N (L.now h1) f H λw e aA aB aC aD aE aF r hB hq=>M w e aA aB aC aD aE aF r (L.below.trans<|hB.mono L.below.size) hq) λ_ _ w L=>gB U<|gA U<|gq U U ⟨U,L.below⟩
theorem wb (K:World) (H:jv) (v1:Value) (M:rp K v1 H.b) :
    k6 Tryz.prog 66 [.agg #[J H.P,J H.r,v1]] K (pM H) λr v w'=>v=(.bool (r))/\Below K.heap.size K w':=by
 unfold pM
 refine kQ func66 U λr e=>?_
 refine S<|gBx e U λN w e=>gA U<|gS<|gJ e (λL=>[(2,.bool L)]) (λL=>[]) (λL=>?_) ?_
 refine gR<|gF kM U<|gL e 0 isAgg39 U ?_
 obtain ⟨aC,W,rfl,_⟩:=ju M
 refine gY (yV kZ U)<|gB U<|Y U<|gsd 7 U (λaE=>?_) λaE=>?_
 exact gF kM U<|gL e 0 isAgg39 U<|gY (yU U)<|gC e U call138 (oY _ H.b (sl aC H.b W) (e.now M) (λO=>qE O H) (.func (.func 139) #[] #[pV N]) λw O aF aG aH aI aJ aK r hB hq=>⟨139,[pV N],U,call139,zG w O aF aG aH aI aJ aK H (sl aC H.b W) (kp (e.now M) hB) N (e.blk_later 0 U hB) r hq⟩) λ_ _ w e=>gN U<|gKt U<|gA U<|gE<|gz e [] U
 exact gO U<|gO U<|gO U<|gO U<|gO U<|gKf U<|gA U<|gE<|gz e [] U
 intro L w e
 exact gy U U ⟨U,e.below⟩
theorem zZ (a0:jv):∀ (b_:Int) (a5:List Bool) (a1:List Int) (r:(List Bool) × (List Int)),nz b_ a5 a0 a1=some r->∀ (w0:World) (hz:kR) (H:Nat) (a3:Value) (L:Nat) (a2:Value) (a6:GT.rep hz [a2] a0.b) (M:hz L=some (.cells ([J a0.P,J a0.r,a2]:List Value).toArray 41 (0,0))) (K:Nat) (e:Nat) (a4:Value) (N:hz K=some (.cells ([(.func (.func 184) #[] #[pV H,pV L,pV K,pV e])]:List Value).toArray 180 (0,0))) (a7:Mem w0 hz w0 [blk H [a3] 97,ow [a3] a5,blk e [a4] 54,ow [a4] a1]),Con Tryz.prog 184 [J b_,pV H,pV L,pV K,pV e] w0 (λv w'=>∃ (x1:Value) (x2:Value),v=(.tuple #[])/\Mem w0 hz w' [blk H [x1] 97,blk e [x2] 54,ow [x1] r.1,ow [x2] r.2]):=by
 refine nz.partial_correctness a0 (motive:=λb_ a5 a1 r=>∀ (w0:World) (hz:kR) (H:Nat) (a3:Value) (L:Nat) (a2:Value) (a6:GT.rep hz [a2] a0.b) (M:hz L=some (.cells ([J a0.P,J a0.r,a2]:List Value).toArray 41 (0,0))) (K:Nat) (e:Nat) (a4:Value) (N:hz K=some (.cells ([.func (.func 184) #[] #[pV H,pV L,pV K,pV e]]:List Value).toArray 180 (0,0))) (a7:Mem w0 hz w0 [blk H [a3] 97,ow [a3] a5,blk e [a4] 54,ow [a4] a1]),Con Tryz.prog 184 [J b_,pV H,pV L,pV K,pV e] w0 (λv w'=>∃ (x1:Value) (x2:Value),v=(.tuple #[])/\Mem w0 hz w' [blk H [x1] 97,blk e [x2] 54,ow [x1] r.1,ow [x2] r.2])) ?_
 intro aU b3 b_ a5 a1 r hq w0 hz H a3 L a2 a6 M K e a4 N a7
 have W:∀ (w0:World) (hz:kR) (b_:Int) (a5:List Bool) (H:Nat) (a3:Value) (_:jv) (L:Nat) (a2:Value) (a6:GT.rep hz [a2] a0.b) (M:hz L=some (.cells ([J a0.P,J a0.r,a2]:List Value).toArray 41 (0,0))) (K:Nat) (a1:List Int) (e:Nat) (a4:Value) (N:hz K=some (.cells ([.func (.func 184) #[] #[pV H,pV L,pV K,pV e]]:List Value).toArray 180 (0,0))) (a7:Mem w0 hz w0 [blk H [a3] 97,ow [a3] a5,blk e [a4] 54,ow [a4] a1]) (r:(List Bool) × (List Int)) (hq:aU b_ a5 a1=some r),Con Tryz.prog 184 [J b_,pV H,pV L,pV K,pV e] w0 (λv w'=>∃ (x1:Value) (x2:Value),v=(.tuple #[])/\Mem w0 hz w' [blk H [x1] 97,blk e [x2] 54,ow [x1] r.1,ow [x2] r.2]):=λw0 hz b_ a5 H a3 _ L a2 a6 M K a1 e a4 N a7 r hq=>b3 b_ a5 a1 r hq w0 hz H a3 L a2 a6 M K e a4 N a7
 refine bg7 (ρ:=(List Bool) × (List Int)) (R:=λr v w'=>∃ (x1:Value) (x2:Value),v=(.tuple #[])/\Mem w0 hz w' [blk H [x1] 97,blk e [x2] 54,ow [x1] r.1,ow [x2] r.2]) func184 U hq ?_
 have O:=a7
 refine S<|gL O 0 isAgg97 U<|Y U<|gg λ_ aX aD=>?_
 obtain ⟨aY,aZ,aa,he⟩:=kG (O.ow_rep 1 U) aD
 subst he
 refine gI mK aX (jx aD) U<|gf0 U (λa hf=>lI (x1:=true) (j:=0) (vs:=[.bool true]) 1 hf O U aD U sizeOf4 U U U (Z U kE) U U) ?_
 rintro _ w O
 refine gS<|S<|gF kM U<|gY (yl isAgg39 (O.hz_cell M U) U)<|Y U<|gg λaB ab aL=>?_
 obtain ⟨ac,ae,af,he⟩:=jy a6 aL
 subst he
 obtain ⟨_,_,_,ah,_,_,aM⟩:=k4 a6 aL
 refine gI kZ ab (jx aL) U<|gF lb U<|gY (yl isAgg54 ((ah.mono O.lez).cell (j:=4) U) U) ?_
 obtain ⟨aR,aN,rfl,_⟩:=ju aM
 refine gY (yV kI U)<|Y U ?_
 obtain ⟨ai,aj,rfl,_⟩:=ju<|O.ow_rep 3 U
 let a8:=J<|(aB.n.length:Int)
 refine gBk<|gNg (λaE aA a w=>∃ (aO aC:Value),St 35 [(0,J b_),(1,pV H),(3,pV K),(4,pV e),(16,sl aR aB.n aN),(17,a8),(18,J aE)] w0 hz [blk H [aO] 97,ow [aO] aA.1,blk e [aC] 54,ow [aC] aA.2] a w) (λa hf=>⟨sw aY aZ a5 aa,sl ai a1 aj,hf.sb U,O.d [0,1,2,3] U⟩) ?_ ?_
 rintro _ _ aE aA a w ⟨aO,aC,hf,O⟩ _ _ _ _
 refine gv hf<|S<|gB U<|gS<|go _ 19 U (decide_eq_true (by omega))<|gct U<|gSk<|gS<|gJg (λaF a w=>∃ (aG aH:Value),St 35 [(0,J b_),(1,pV H),(3,pV K),(4,pV e),(16,sl aR aB.n aN),(17,a8),(18,J aE)] w0 hz [blk H [aG] 97,ow [aG] aF.1,blk e [aH] 54,ow [aH] aF.2] a w) (λaF=>?_) ?_
 refine gBk<|S<|gg λaS ak aP=>?_
 obtain ⟨al,am,rfl⟩:=jA aM aP
 refine gI kI ak (jx aP) U<|gY (yl isAgg3 ((kC (cs:=[J aS]) (O.now aM) aP U).cell (j:=0) U) U)<|gA U<|S<|gL O 0 isAgg97 U<|Y U<|gg λan ao aQ=>?_
 obtain ⟨aT,aV,aW,he⟩:=kG (O.ow_rep 1 U) aQ
 subst he
 refine gI mK ao (jx aQ) U<|gY (yl isAgg4 ((kC (cs:=[.bool an]) (O.ow_rep 1 U) aQ U).cell (j:=0) U) U)<|gN U<|gJg (λaI a w=>∃ (aJ aK:Value),St 35 [(0,J b_),(1,pV H),(3,pV K),(4,pV e),(16,sw al am aB.n aN),(17,a8),(18,J aE)] w0 hz [blk H [aJ] 97,ow [aJ] aI.1,blk e [aK] 54,ow [aK] aI.2] a w) (λaI=>?_) ?_
 refine gsn 26 U (λap=>?_) λap=>?_
 refine gct U<|gR<|gY (yl isAgg180 (O.hz_cell N U) U)<|Y U ?_
 obtain ⟨aq,a9,b0,_,ar⟩:=O.take2 (L1:=[_,_,_,_]) (L2:=[]) [0,1,2,3] [] (dt U) U U
 refine gb λ_ au=>gf U (λa hf=>nC hf U U U ⟨184,[pV H,pV L,pV K,pV e],U,call184,W _ aq aS aA.1 H (sw aT aV aA.1 aW) a0 L (sw ac ae a0.b af) (GT.mono a9 a6) (a9 _ _<|(kR.le_refl _) _ _ M) K aA.2 e aC (a9 _ _<|(kR.le_refl _) _ _ N) b0  _ au⟩) ?_
 rintro _ w ⟨aw,ax,rfl,hB⟩
 replace O:=ar _ _ hB;clear hB
 exact gE<|gZ λa hf=>⟨aw,ax,hf.sb U,O.d [0,2,1,3] U⟩
 exact gcf U<|gSk<|gZ λa hf=>⟨sw aT aV aA.1 aW,aC,hf.sb U,O.d [0,1,2,3] U⟩
 rintro aI a w ⟨aJ,aK,hf,O⟩
 exact gv hf<|gZ λa hf=>⟨aJ,aK,hf.sb U,O.d [0,1,2,3] U⟩
 rintro aF a w ⟨aG,aH,hf,O⟩
 exact gv hf<|gR<|gp U<|Y U<|gE<|gZe λa hf=>⟨aG,aH,hf.sb U,O.d [0,1,2,3] U⟩
 rintro _ _ a w ⟨ay,_,hf,O⟩ _ _
 refine gv hf<|S<|gB U<|gS<|lF 19 U U<|gHh<|gR<|gL O 2 isAgg54 U<|Y U<|gf U (λa hf=>kj (vs:=#[(0,J b_)]) (cs:=[J b_]) kg hf O U U (by kernel_rfl) U U) ?_
 rintro _ w ⟨_,rfl,O⟩
 replace O:=O.lit (xs:=([b_]:List Int)) 0 U U U U
 refine gb λ_ az=>?_
 obtain ⟨bA,bB⟩:=kP.1 az
 refine gf U (λa hf=>kz 4 kg hf O U (O.ow_rep 0 U) U U U bA) ?_
 rintro bC w O
 rw [bB] at O
 exact gS1 O 3 sizeOf54 (kF<|O.ow_rep 4 U) U λw O=>gE<|gre results184 ⟨ay,bC,U,O.d [1,3,2,4] U⟩
theorem ad6 (w0:World) (hz:kR) (b_:Int) (a3:List Bool) (e:Nat) (a1:Value) (M:jv) (K:Nat) (a0:Value) (a4:GT.rep hz [a0] M.b) (O:hz K=some (.cells ([J M.P,J M.r,a0]:List Value).toArray 41 (0,0))) (L:Nat) (W:List Int) (H:Nat) (a2:Value) (N:hz L=some (.cells ([(.func (.func 184) #[] #[pV e,pV K,pV L,pV H])]:List Value).toArray 180 (0,0))) (a5:Mem w0 hz w0 [blk e [a1] 97,ow [a1] a3,blk H [a2] 54,ow [a2] W]) (r:(List Bool) × (List Int)) (hq:nz b_ a3 M W=some r):Con Tryz.prog 184 [J b_,pV e,pV K,pV L,pV H] w0 (λv w'=>∃ (x1:Value) (x2:Value),v=(.tuple #[])/\Mem w0 hz w' [blk e [x1] 97,blk H [x2] 54,ow [x1] r.1,ow [x2] r.2]):=zZ M b_ a3 W r hq w0 hz e a1 K a0 a4 O L H a2 N a5
theorem aj9 (L:World) (K:jv) (v1:Value) (h1:rp L v1 K.b) :
    k6 Tryz.prog 128 [.agg #[J K.P,J K.r,v1]] L (rP K) λr v w'=>∃ (x1:Value),v=x1/\Mem L (hp L) w' [ow [x1] r]:=by
 unfold rP
 refine kQ func128 U λr e=>?_
 refine S<|gBx e U λaA w e=>gA U<|S<|gAl e zeroValue54 U λaB w e=>S<|gF kM U<|gL e 1 isAgg39 U ?_
 obtain ⟨aG,aH,rfl,_⟩:=ju h1
 refine gY (yV kZ U)<|gb λaC aI=>?_
 obtain ⟨⟨aJ,aK⟩,aD⟩:=lU.1 aI
 refine gf U (λa N=>ni (x0:=(false:Bool)) uh (λ_=>(Flat.own_iff.2 U)) N e U U U aJ (Int.le_refl _) aK) ?_
 rintro aL w e
 rw [aD] at e
 have O:(aC.length:Int)=(K.b.length:Int):=by rw [<- aD];simp only [List.length_replicate];omega
 refine gAl e zeroValue97 U λaE w e=>gS1 e 0 sizeOf97 (kF<|e.ow_rep 1 U) U λw e=>S<|gAl e zeroValue180 U λaF w e=>S<|gY (yU U)<|gS1 e 0 sizeOf180 U U λw e=>S<|gL e 0 isAgg180 U ?_
 replace e:=e.nilow (α:=Int)
 obtain ⟨aM,W,M,H,aN⟩:=e.take2 (L1:=[_,_,_,_]) (L2:=[_,_]) [2,3,4,0] [1,5] (dt U) U U
 refine gb λ_ aO=>gf U (λa N=>nC N U U U ⟨184,[pV aE,pV aA,pV aF,pV aB],U,call184,ad6 _ aM 0 aC aE aL K aA (sl aG K.b aH) (GT.mono W h1) (bd0<|H 1 _ U) aF ([]:List Int) aB nS (bd0<|H 0 _ U) M  _ aO⟩) ?_
 rintro _ w ⟨_,aP,rfl,hB⟩
 replace e:=aN _ _ hB;clear hB
 exact S<|gL e 1 isAgg54 U<|gA U<|gq U U ⟨aP,U,e.d [3] U⟩
theorem mW (H:World) (O:List Int) (N:Value) (M:rp H N O) :
    k6 Tryz.prog 69 [N] H (ky O) λr v w'=>∃ (x1:Value),v=x1/\Mem H (hp H) w' [ow [x1] r]:=by
 unfold ky
 refine kQ func69 U λr e=>?_
 refine S<|gA U<|gS<|S<|Y U ?_
 rcases cs9 M with ⟨K,aA⟩ | ⟨_,_,K⟩
 subst K;subst aA
 refine gcg (m':=some ([]:List Int)) (by simp [k8])<|gY (yG U<|bu5 kI.und U U U)<|gct U<|S<|gA U<|gRt ?_
 replace e:=e.nilow (α:=Int)
 exact gr1 results69 U ⟨nS,U,e.d [0] U⟩
 subst K
 refine gY (yG U<|bw8 kI.und U U U)<|gcf U<|gSk<|S<|gf U (λa L=>k5 (α:=Int) kg e U) ?_
 rintro _ w e
 refine Y U<|gb λ_ aB=>?_
 obtain ⟨W,aD⟩:=kP.1 aB
 refine gf U (λa L=>kz 0 kg L e U (e.now M) U U U W) ?_
 rintro aE w e
 rw [aD] at e
 exact gA U<|gq U U ⟨aE,U,e.d [0] U⟩
theorem zQ (K:World) (e:List Int) (M:Value) (N:rp K M e) :
    k6 Tryz.prog 127 [M] K (rz e) λr v w'=>∃ (x1:Value),v=x1/\Mem K (hp K) w' [ow [x1] r]:=by
 unfold rz
 refine kQ func127 U λr H=>?_
 refine S<|gA U<|S<|Y U<|gCg U call69 (mW _ e M<|H.now N) ?_
 rintro _ _ _ w ⟨_,rfl,O⟩
 replace H:=H.give O
 refine gA U<|S<|Y U<|gf U (λa L=>ki L U call61 U<|bg1 lays189 H 0 U) ?_
 rintro _ w ⟨rfl,H⟩
 refine S<|Y U<|gf U (λa L=>ki L U call183 U<|bi0 lays2_20 H 0 U) ?_
 rintro W w H
 exact gA U<|gq U U ⟨W,U,H.d [0] U⟩
theorem zS (K:World) (H:jv) (L:Value) (N:rp K L H.b) :
    k6 Tryz.prog 60 [.agg #[J H.P,J H.r,L]] K (qG H) λr v w'=>∃ (x1:Value),v=x1/\Mem K (hp K) w' [ow [x1] r]:=by
 unfold qG
 refine kQ func60 U λr e=>?_
 refine S<|gBx e U λ_ w e=>gA U<|gS<|S<|gY (yn (e.blk_at 0 U) isAgg41 sizeOf41 U)<|gC e U call66 (wb _ H L<|e.now N) λ_ _ w e=>gN U<|gsn 5 U (λaA=>?_) λaA=>?_
 refine gct U<|S<|gA U<|gRt ?_
 replace e:=e.nilow (α:=Int)
 exact gr1 results60 U ⟨nS,U,e.d [0] U⟩
 refine gcf U<|gSk<|S<|gY (yn (e.blk_at 0 U) isAgg41 sizeOf41 U)<|gCg U call128 (aj9 _ H L<|e.now N) ?_
 rintro aB _ O w ⟨_,rfl,M⟩
 replace e:=e.give M
 refine gCg U call127 (zQ _ aB O<|e.ow_rep 0 U) ?_
 rintro _ _ W w ⟨_,rfl,M⟩
 replace e:=e.give M
 exact gA U<|gq U U ⟨W,U,e.d [0] U⟩
theorem ak8 (O:World) (H:jv) (v1:Value) (h1:rp O v1 H.b) :
    k6 Tryz.prog 125 [.agg #[J H.P,J H.r,v1]] O (qQ H) λr v w'=>∃ (x1:Value),v=x1/\Mem O (hp O) w' [ow [x1] r]:=by
 unfold qQ
 refine kQ func125 U λr e=>?_
 refine S<|gBx e U λaF w e=>gA U<|S<|gF kM U<|gL e 0 isAgg39 U ?_
 obtain ⟨ap,aD,rfl,_⟩:=ju h1
 refine gY (yV kZ U)<|gb λaC bB=>?_
 obtain ⟨⟨bC,bD⟩,aq⟩:=lU.1 bB
 refine gf U (λa N=>ni (x0:=([]:List (jw Int))) ci6 (λ_=>ke.2<|.inl ⟨U,U⟩) N e U U U bC (Int.le_refl _) bD) ?_
 rintro _ w e
 rw [aq] at e
 have a9:(aC.length:Int)=(H.b.length:Int):=by rw [<- aq];simp only [List.length_replicate];omega
 refine gA U<|gS<|S<|gF kM U<|gL e 1 isAgg39 U<|gY (yV kZ U)<|Y U ?_
 obtain ⟨aG,aE,rfl,_⟩:=ju<|e.ow_rep 0 U
 let a2:=J<|(H.b.length:Int)
 let K:=sl aG aC aE
 let a0:=J H.P
 refine gBk<|gNf e (λM aY=>[(1,pV aF),(3,K),(17,sl ap H.b aD),(18,a2),(19,J M)]) (λM aY=>[blk aF [a0,J H.r,sl ap H.b aD] 41,ow [K] aY]) [1,0] U ?_ ?_
 repeat clear e
 intro _ _ M aY w e _ _ _ _
 refine S<|gB U<|gS<|lT 20 U U<|S<|Y U<|gg λaO bE aZ=>?_
 obtain ⟨aH,aI,rfl⟩:=jA h1 aZ
 obtain ⟨_,_,_,bF,aP,bG,bH⟩:=k4 h1 aZ
 let L:=sw aH aI H.b aD
 refine gI kZ bE (jx aZ) U<|gY (yn (bF.mono e.lez) isAgg68 sizeOf68 U)<|gAl e zeroValue68 U λ_ w e=>gA U<|gSN e 0 sizeOf68 (Z (kF aP)<|Z (kF bG)<|Z U<|Z U<|Z (kF bH) kE) U λw e=>S<|gY (yn (e.blk_at 1 U) isAgg41 sizeOf41 U)<|Y U<|gCg U call62 (nm _ H L (e.now h1) M) ?_
 rintro aA _ _ w ⟨_,rfl,hB⟩
 replace e:=e.give hB
 refine gA U<|S<|gF ko U<|gL e 1 isAgg66 U ?_
 obtain ⟨bJ,ar,rfl,_⟩:=ju aP
 refine gY (yV lY U)<|Y U ?_
 obtain ⟨aJ,aK,rfl,_⟩:=ju<|e.ow_rep 0 U
 let a1:=blk aF [a0,J H.r,L] 41
 let a8:=J<|(aO.a.length:Int)
 let a5:=sl aJ aA aK
 let a3:=os aJ aA aK
 refine gBk<|gNf e (λaQ aL=>[(1,pV aF),(3,K),(4,J M),(6,a5),(17,L),(18,a2),(19,J M),(28,sl bJ aO.a ar),(29,a8),(30,J aQ)]) (λaQ aL=>[a1,ow [K] aL,a3]) [2,3,0] U ?_ ?_
 repeat clear e
 intro _ _ aQ aL w e _ _ _ _
 refine S<|gB U<|gS<|lT 31 U U<|S<|gg λaa bK ab=>?_
 obtain ⟨bL,bM,rfl⟩:=jA aP ab
 obtain ⟨ac,bN,ae⟩:=mP aP ab
 refine gI lY bK (jx ab) U<|gY (yn (bN.mono e.lez) isAgg80 sizeOf80 U)<|gAl e zeroValue80 U λaR w e=>gSN e 0 sizeOf80 (Z U<|Z (kF ae) kE) U λw e=>S<|gf U (λa N=>am3 (β:=Int) e U) ?_
 rintro af w e
 let a6:=blk aR [J aa.to,ac] 80
 refine gA U<|gS<|S<|Y U<|gY (yV kI U)<|Y U<|gBk<|gNf e (λah ai=>[(1,pV aF),(3,K),(4,J M),(6,a5),(8,pV aR),(9,af),(17,L),(18,a2),(19,J M),(28,sw bL bM aO.a ar),(29,a8),(30,J aQ),(35,a5),(36,J<|(aA.length:Int)),(37,J ah)]) (λah ai=>[a1,ow [K] aL,a3,a6,owm af ai]) [2,3,4,1,0] U ?_ ?_
 repeat clear e
 intro _ _ ah ai w e _ _ _ _
 refine S<|gB U<|gS<|lT 38 U U<|S<|Y U<|gg λau bO aj=>?_
 obtain ⟨_,_,rfl⟩:=jA (e.ow_rep 2 U) aj
 refine gI kI bO (jx aj) U<|gY (yl isAgg3 ((kC (cs:=[J au]) (e.ow_rep 2 U) aj U).cell (j:=0) U) U)<|gA U<|gA U<|gR<|Y U<|Y U<|gF mT U<|gL e 3 isAgg54 U<|Y U<|gg λaw bP ak=>?_
 obtain ⟨_,_,_,he⟩:=kG ae ak
 subst he
 refine gI kI bP (jx ak) U<|gY (yl isAgg3 ((kC (cs:=[J aw]) (e.now ae) ak U).cell (j:=0) U) U)<|gf0 U (λa N=>v7 (β:=Int) (key:=au) (u:=aw) (b:=false) 4 underlying3 underlying110 N e U U U U U) ?_
 rintro _ w e
 exact gR<|gp U<|Y U<|gE<|gze e [0,1,2,3,4] U
 repeat clear e
 intro _ aS w e _ _
 refine S<|gB U<|gS<|lF 38 U U<|gHh<|gR<|Y U<|Y U<|Y U<|Y U<|gg λaT ax aM=>?_
 obtain ⟨al,am,rfl⟩:=jA (e.ow_rep 1 U) aM
 obtain ⟨_,_,_,bQ⟩:=kn (e.ow_rep 1 U) aM
 have an:=bQ
 obtain ⟨_,rfl,-⟩:=id an
 have a4:=kB<|e.ow_rep 1 U
 refine gI aa1 ax (kL aM a4) U ?_
 obtain ⟨_,bR,e⟩:=e.openE 1 U aM
 have bS:=e.ow_rep 0 U
 have aV:=bS
 obtain ⟨ao,rfl,-⟩:=id aV
 replace aV:GT.rep (hp _) [ao] aT:=aV
 clear bR aV
 replace e:Mem O (hp O) _ [ow [ao] (aT:List (jw Int)),a1,kY al am aC.length aE (aL:List (List<|jw Int)) M.toNat [ao],a3,a6,owm af aS]:=e
 replace e:=e.d [0,1,2,3,4,5] U
 refine gY (yl isAgg159 ((e.holeE_at 2 U).cell (j:=0) U) U)<|Y U ?_
 obtain ⟨aW,he⟩:=ve e 5 U
 subst he
 refine gf U (λa N=>kj (vs:=#[(0,.map<|some aW)]) (cs:=[.map<|some aW]) az0 N e U U (by kernel_rfl) U U) ?_
 rintro _ w ⟨_,rfl,e⟩
 replace e:=e.els_nil (α:=jw Int)
 have cF:=xp e 7 U
 let a7:=ow [.map<|some aW] (aS:jw Int)
 replace e:=e.imp (c':=a7) 7 U λF h0=>xw h0
 replace e:=e.imp (c':=a7) 7 U λF h0=>h0
 replace e:=(e.els_cons 0 7 (dt U) U U).d [0,1,2,3,4,5,6] U
 replace e:=(e.lit_els 1 0 (dt U) U U U U).d [1,2,3,4,5,6] U
 refine gb λaX bT=>?_
 obtain ⟨bU,bV⟩:=kP.1 bT
 replace e:=(e.both 1 0 (dt U) U U).d [1,2,3,4,5] U
 refine gf U (λa N=>lW (xs:=aT) (ys:=([aS]:List (jw Int))) 0 az0 N e U U U U bU) ?_
 rintro aN w e
 rw [bV] at e
 have W:=e.holeE_len 2 U
 refine gI aa1 ax (kL aM W) U ?_
 have bA:∀ u∈([aN]:List Value),u.oneCell'=true:=(Z (kF<|e.ow_rep 0 U) kE)
 refine gf0 U (λa N=>mw (j:=0) (vs:=[aN]) 2 N e U U U sizeOf159 U U (nA<|bA _<|List.mem_singleton.2 U) bA U) ?_
 rintro _ w e
 replace e:Mem O (hp O) _ [ow [aN] aX,blk aF [a0,J H.r,L] 41,kY al am aC.length aE (aL:List (List<|jw Int)) M.toNat [aN],os aJ aA aK,blk aR [J aa.to,ac] 80]:=e
 refine gE ?_
 replace e:=e.imp (c':=ow [aN] (aX:List (jw Int))) 0 U λF h0=>h0
 replace e:=(e.shutE (y:=(aX:List (jw Int))) 2 0 (dt U) U U).d [1,2,3,4] U
 exact gR<|gp U<|Y U<|gE<|gze e [0,1,2] U
 repeat clear e
 intro _ _ w e _ _
 exact S<|gB U<|gS<|lF 31 U U<|gHh<|gR<|gp U<|Y U<|gE<|gze e [0,1] U
 repeat clear e
 intro _ _ w e _ _
 exact S<|gB U<|gS<|lF 20 U U<|gHh<|S<|Y U<|gA U<|gq U U ⟨sl aG aC aE,U,e.d [1] U⟩
theorem rZ (L:World) (H:List kA) (v1:Value) (h1:rp L v1 H) (f:kA->Option kA) (N:Value) (O:∀ (w:World) (y0:kA) (z1:Value) (_:GT.rep (hp w) [z1] y0.A) (r:kA),Below L.heap.size L w->f y0=some r->w5 Tryz.prog N [.agg #[J y0.to,z1]] w (λv w'=>∃ (x1:Value),v=(.agg #[J r.to,x1])/\Mem w (hp w) w' [ow [x1] r.A])) :
    k6 Tryz.prog 134 [v1,N] L (mb H f) λr v w'=>∃ (x1:Value),v=x1/\Mem L (hp L) w' [ow [x1] r]:=by
 unfold mb
 refine kQ func134 U λr e=>?_
 refine S<|gA U<|S<|gA U<|gS<|S<|Y U ?_
 obtain ⟨aJ,aK,rfl,_⟩:=ju h1
 refine gY (yV lY U)<|Y U<|gBk ?_
 replace e:=e.nilow (α:=kA)
 refine gNg (λaF aB a w=>∃ (aC:Value),St 22 [(1,N),(5,aC),(8,sl aJ H aK),(9,J<|(H.length:Int)),(10,J aF)] L (hp L) [ow [aC] aB] a w) (λa K=>⟨nS,K.sb U,e.d [0] U⟩) ?_ ?_
 rintro _ _ aF aB a w ⟨aC,K,e⟩ _ _ _ _
 refine gv K<|S<|gB U<|gS<|lT 11 U U<|S<|gg λaG aL aE=>?_
 obtain ⟨_,_,rfl⟩:=jA h1 aE
 obtain ⟨aH,aM,aI⟩:=mP h1 aE
 refine gI lY aL (jx aE) U<|gY (yn (aM.mono e.lez) isAgg80 sizeOf80 U)<|gAl e zeroValue80 U λaN w e=>gSN e 0 sizeOf80 (Z U<|Z (kF aI) kE) U λw e=>gR<|Y U<|Y U<|gY (yn (e.blk_at 0 U) isAgg80 sizeOf80 U)<|gb λaA aO=>gf U (λa K=>nC K U U U<|O _ aG aH (e.now aI) _ e.below aO) ?_
 rintro _ w ⟨W,rfl,hB⟩
 replace e:=e.give hB
 let M:=J aA.to
 refine gf U (λa K=>kj (vs:=#[(0,.agg #[M,W])]) (cs:=[M,W]) pF K e U U (by kernel_rfl) U U) ?_
 rintro _ w ⟨aP,rfl,e⟩
 replace e:=e.els_nil (α:=kA)
 replace e:Mem L (hp L) _ [els [] ([]:List kA),blk aP [M,W] 80,ow [M,W] (aA:kA),blk aN [J aG.to,aH] 80,ow [aC] aB]:=n8 aA.to e 2 U
 replace e:=(e.els_cons 0 2 (dt U) U U).d [0,1,3,4] U
 replace e:=(e.lit_els 1 0 (dt U) U U U U).d [1,2,3] U
 refine gb λ_ aQ=>?_
 obtain ⟨aR,aS⟩:=kP.1 aQ
 replace e:=(e.both 2 0 (dt U) U U).d [1,2] U
 refine gf U (λa K=>lW (xs:=aB) (ys:=([aA]:List kA)) 1 pF K e U U U U aR) ?_
 rintro aT w e
 rw [aS] at e
 exact gA U<|gR<|gp U<|Y U<|gE<|gZe λa K=>⟨aT,K.sb U,e.d [1] U⟩
 rintro _ _ a w ⟨aV,K,e⟩ _ _
 exact gv K<|S<|gB U<|gS<|lF 11 U U<|gHh<|S<|Y U<|gA U<|gq U U ⟨aV,U,e.d [0] U⟩
theorem ad8 (K:World) (f:kA) (L:Value) (h1:rp K L f.A) :
    k6 Tryz.prog 135 [.agg #[J f.to,L]] K (oX f) λr v w'=>∃ (x1:Value),v=(.agg #[J r.to,x1])/\Mem K (hp K) w' [ow [x1] r.A]:=by
 unfold oX
 refine kQ func135 U λr e=>?_
 refine S<|gBx e U λaD w e=>gAl e zeroValue80 U λaE w e=>gS<|gW (.p 0<|.p 2<|.q 1<|.e 3 (.e 4 (.p 5<|.e 6 .fin .nil) .nil) .nil) [3,4] [0,2,5] e [0,1] [blk aE [J 0,nS] 80,blk aD [J f.to,L] 80] U mxo (by kernel_rfl) (λ_ _ _ h=>h.2) λw e N=>uF oH U U<|uF mT U U<|tQ U N (λw e=>yL e 1 isAgg3 U)<|tO<|tY U (yL e 1 isAgg54 U)<|tAs N<|tO<|gb λaA O=>tf U U (λa M=>ki M U call69 U<|mW _ f.A L (e.now h1) _ O) ?_
 rintro _ w ⟨_,rfl,hB⟩
 replace e:=e.give hB
 refine tAk e [1,2] U λN=>?_
 obtain ⟨aB,W,rfl,_⟩:=ju<|e.ow_rep 0 U
 let H:=sl aB aA W
 refine tP U (λw=>yG U<|mV (vs:=[(0,J f.to),(1,H)]) (cs:=#[J f.to,H]) U U (by kernel_rfl))<|tO<|tf0 U U (λa M=>rf 1 M e U sizeOf80 U U U (Z U<|Z U kE) U U) ?_
 rintro _ w e
 exact tAn U<|tE<|gRt<|grc 1 results135 e U isAgg80 sizeOf80 ⟨H,U,e.d [0] U⟩
theorem rk (L:World) (H:List kD) (v1:Value) (h1:rp L v1 H) (f:kD->Option kD) (a0:Value) (a1:∀ (w:World) (y0:kD) (z1:Value) (_:GT.rep (hp w) [z1] y0.A) (r:kD),Below L.heap.size L w->f y0=some r->w5 Tryz.prog a0 [.agg #[J y0.op,J y0.to,z1,J y0.N]] w (λv w'=>∃ (x1:Value),v=(.agg #[J r.op,J r.to,x1,J r.N])/\Mem w (hp w) w' [ow [x1] r.A])) :
    k6 Tryz.prog 136 [v1,a0] L (mc H f) λr v w'=>∃ (x1:Value),v=x1/\Mem L (hp L) w' [ow [x1] r]:=by
 unfold mc
 refine kQ func136 U λr e=>?_
 refine S<|gA U<|S<|gA U<|gS<|S<|Y U ?_
 obtain ⟨aJ,aK,rfl,_⟩:=ju h1
 refine gY (yV lh U)<|Y U<|gBk ?_
 replace e:=e.nilow (α:=kD)
 refine gNg (λaG aB a w=>∃ (aC:Value),St 22 [(1,a0),(5,aC),(8,sl aJ H aK),(9,J<|(H.length:Int)),(10,J aG)] L (hp L) [ow [aC] aB] a w) (λa K=>⟨nS,K.sb U,e.d [0] U⟩) ?_ ?_
 rintro _ _ aG aB a w ⟨aC,K,e⟩ _ _ _ _
 refine gv K<|S<|gB U<|gS<|lT 11 U U<|S<|gg λaD aL aF=>?_
 obtain ⟨_,_,rfl⟩:=jA h1 aF
 obtain ⟨aH,aM,aI⟩:=nO h1 aF
 refine gI lh aL (jx aF) U<|gY (yn (aM.mono e.lez) isAgg65 sizeOf65 U)<|gAl e zeroValue65 U λaN w e=>gSN e 0 sizeOf65 (Z U<|Z U<|Z (kF aI)<|Z U kE) U λw e=>gR<|Y U<|Y U<|gY (yn (e.blk_at 0 U) isAgg65 sizeOf65 U)<|gb λW aO=>gf U (λa K=>nC K U U U<|a1 _ aD aH (e.now aI) _ e.below aO) ?_
 rintro _ w ⟨aE,rfl,hB⟩
 replace e:=e.give hB
 let O:=J W.op
 let M:=J W.to
 let N:=J W.N
 refine gf U (λa K=>kj (vs:=#[(0,.agg #[O,M,aE,N])]) (cs:=[O,M,aE,N]) pq K e U U (by kernel_rfl) U U) ?_
 rintro _ w ⟨aP,rfl,e⟩
 replace e:=e.els_nil (α:=kD)
 replace e:Mem L (hp L) _ [els [] ([]:List kD),blk aP [O,M,aE,N] 65,ow [O,M,aE,N] (W:kD),blk aN [J aD.op,J aD.to,aH,J aD.N] 65,ow [aC] aB]:=tX W.op W.to W.N e 2 U
 replace e:=(e.els_cons 0 2 (dt U) U U).d [0,1,3,4] U
 replace e:=(e.lit_els 1 0 (dt U) U U U U).d [1,2,3] U
 refine gb λ_ aQ=>?_
 obtain ⟨aR,aS⟩:=kP.1 aQ
 replace e:=(e.both 2 0 (dt U) U U).d [1,2] U
 refine gf U (λa K=>lW (xs:=aB) (ys:=([W]:List kD)) 1 pq K e U U U U aR) ?_
 rintro aT w e
 rw [aS] at e
 exact gA U<|gR<|gp U<|Y U<|gE<|gZe λa K=>⟨aT,K.sb U,e.d [1] U⟩
 rintro _ _ a w ⟨aV,K,e⟩ _ _
 exact gv K<|S<|gB U<|gS<|lF 11 U U<|gHh<|S<|Y U<|gA U<|gq U U ⟨aV,U,e.d [0] U⟩
theorem ad7 (K:World) (H:kD) (L:Value) (M:rp K L H.A) :
    k6 Tryz.prog 137 [.agg #[J H.op,J H.to,L,J H.N]] K (o4 H) λr v w'=>∃ (x1:Value),v=(.agg #[J r.op,J r.to,x1,J r.N])/\Mem K (hp K) w' [ow [x1] r.A]:=by
 unfold o4
 refine kQ func137 U λr e=>?_
 refine S<|gBx e U λ_ w e=>gAl e zeroValue65 U λ_ w e=>S<|gF ml U<|gL e 1 isAgg54 U<|gCg U call69 (mW _ H.A L<|e.now M) ?_
 rintro _ _ O w ⟨_,rfl,N⟩
 replace e:=e.give N
 exact gF ml U<|gS1 e 2 sizeOf54 (kF<|e.ow_rep 0 U) U λw e=>S<|gY (yn (e.blk_at 2 U) isAgg65 sizeOf65 U)<|gSN e 1 sizeOf65 (Z U<|Z U<|Z (kF<|e.ow_rep 0 U)<|Z U kE) U λw e=>gRt<|grc 1 results137 e U isAgg65 sizeOf65 ⟨O,U,e.d [0] U⟩
theorem tw (M:World) (H:jq) (W:Value) (h1:rp M W H.a) (v2:Value) (h2:rp M v2 H.i) (N:Value) (h3:rp M N H.n) :
    k6 Tryz.prog 65 [.agg #[W,v2,J H.j,J H.on,N]] M (mr H) λr v w'=>∃ (x1:Value) (x2:Value) (x3:Value),v=(.agg #[x1,x2,J r.j,J r.on,x3])/\Mem M (hp M) w' [ow [x1] r.a,ow [x2] r.i,ow [x3] r.n]:=by
 unfold mr
 refine kQ func65 U λr e=>?_
 refine S<|gBx e U λ_ w e=>gAl e zeroValue68 U λ_ w e=>S<|gF ko U<|gL e 1 isAgg66 U<|gCg U call134 (rZ _ H.a W (e.now h1) (λK=>oX K) (.func (.func 135) #[] #[]) λw K aA aB r L O=>⟨135,[],U,call135,ad8 w K aA aB  r O⟩) ?_
 rintro _ _ aC w ⟨_,rfl,L⟩
 replace e:=e.give L
 refine gF ko U<|gS1 e 2 sizeOf66 (kF<|e.ow_rep 0 U) U λw e=>S<|gF lC U<|gL e 2 isAgg53 U<|gCg U call136 (rk _ H.i v2 (e.now h2) (λK=>o4 K) (.func (.func 137) #[] #[]) λw K aA aB r L O=>⟨137,[],U,call137,ad7 w K aA aB  r O⟩) ?_
 rintro _ _ aD w ⟨_,rfl,L⟩
 replace e:=e.give L
 refine gF lC U<|gS1 e 3 sizeOf53 (kF<|e.ow_rep 0 U) U λw e=>S<|gF lb U<|gL e 3 isAgg54 U<|gCg U call69 (mW _ H.n N<|e.now h3) ?_
 rintro _ _ aE w ⟨_,rfl,L⟩
 replace e:=e.give L
 exact gF lb U<|gS1 e 4 sizeOf54 (kF<|e.ow_rep 0 U) U λw e=>S<|gY (yn (e.blk_at 4 U) isAgg68 sizeOf68 U)<|gSN e 3 sizeOf68 (Z (kF<|e.ow_rep 2 U)<|Z (kF<|e.ow_rep 1 U)<|Z U<|Z U<|Z (kF<|e.ow_rep 0 U) kE) U λw e=>gRt<|grc 3 results65 e U isAgg68 sizeOf68 ⟨aC,aD,aE,U,e.d [2,1,0] U⟩
theorem vo (H:World) (M:Int) (e:jw Int) (O:Value) (W:rp H O e) (L:Nat) (K:hc H L [O] 110) :
    k6 Tryz.prog 182 [J M,pV L] H (nG M e) λr v w'=>v=(J r)/\Below H.heap.size H w':=by
 unfold nG
 refine kQ func182 U λr N=>?_
 exact S<|gA U<|S<|gY (yl isAgg110 (N.old_cell K U) U)<|Y U<|gY (yG U<|wZ (key:=M) (m:=(e:jw Int)) underlying3 underlying110 zeroValue3 (N.now W) U U U)<|gA U<|gq U U ⟨U,N.below⟩
theorem rh (L:World) (H:List Int) (v1:Value) (O:rp L v1 H) (f:Int->Option Int) (M:Value) (N:∀ (w:World) (y0:Int) (r:Int),Below L.heap.size L w->f y0=some r->w5 Tryz.prog M [J y0] w (λv w'=>v=(J r)/\Below w.heap.size w w')) :
    k6 Tryz.prog 181 [v1,M] L (mJ H f) λr v w'=>∃ (x1:Value),v=x1/\Mem L (hp L) w' [ow [x1] r]:=by
 unfold mJ
 refine kQ func181 U λr e=>?_
 refine S<|gA U<|S<|gA U<|gS<|S<|Y U ?_
 obtain ⟨aG,aH,rfl,_⟩:=ju O
 refine gY (yV kI U)<|Y U<|gBk ?_
 replace e:=e.nilow (α:=Int)
 refine gNg (λaD aE a w=>∃ (aA:Value),St 22 [(1,M),(5,aA),(8,sl aG H aH),(9,J<|(H.length:Int)),(10,J aD)] L (hp L) [ow [aA] aE] a w) (λa K=>⟨nS,K.sb U,e.d [0] U⟩) ?_ ?_
 rintro _ _ aD aE a w ⟨aA,K,e⟩ _ _ _ _
 refine gv K<|S<|gB U<|gS<|lT 11 U U<|S<|gg λaF aI W=>?_
 obtain ⟨_,_,rfl⟩:=jA O W
 refine gI kI aI (jx W) U<|gY (yl isAgg3 ((kC (cs:=[J aF]) (e.now O) W U).cell (j:=0) U) U)<|gA U<|gR<|Y U<|Y U<|Y U<|gb λaC aJ=>gf U (λa K=>nC K U U U<|N _ aF _ e.below aJ) ?_
 rintro _ w ⟨rfl,hB⟩
 replace e:=e.below' hB
 refine gf U (λa K=>kj (vs:=#[(0,J aC)]) (cs:=[J aC]) kg K e U U (by kernel_rfl) U U) ?_
 rintro _ w ⟨_,rfl,e⟩
 replace e:=e.lit (xs:=([aC]:List Int)) 0 U U U U
 refine gb λ_ aK=>?_
 obtain ⟨aL,aM⟩:=kP.1 aK
 refine gf U (λa K=>kz 1 kg K e U (e.ow_rep 0 U) U U U aL) ?_
 rintro aN w e
 rw [aM] at e
 exact gA U<|gR<|gp U<|Y U<|gE<|gZe λa K=>⟨aN,K.sb U,e.d [1] U⟩
 rintro _ _ a w ⟨aO,K,e⟩ _ _
 exact gv K<|S<|gB U<|gS<|lF 11 U U<|gHh<|S<|Y U<|gA U<|gq U U ⟨aO,U,e.d [0] U⟩
theorem an9 (w0:World) (W:kR) (K:jv) (L:Nat) (a7:Value) (N:List (List (jw Int))) (v1:Value) (h1:GT.rep W [v1] N) (a8:Mem w0 W w0 [blk L [J K.P,J K.r,a7] 41,ow [a7] K.b]) :
    k6 Tryz.prog 126 [pV L,v1] w0 (rO K N) λr v w'=>∃ (x1:Value),v=(.tuple #[])/\Mem w0 W w' [blk L [J r.P,J r.r,x1] 41,ow [x1] r.b]:=by
 unfold rO
 refine k7 func126 U λr=>?_
 have e:=a8
 refine S<|Y U<|gY (yG U<|kW U U)<|gF kM U<|gL e 0 isAgg39 U ?_
 obtain ⟨aK,aD,rfl,_⟩:=ju<|e.ow_rep 1 U
 let a0:=sl aK K.b aD
 let a1:=blk L [J K.P,J K.r,a0] 41
 let a2:=J<|(K.b.length:Int)
 refine gY (yV kZ U)<|Y U<|gBk<|gNf e (λO aZ=>[(0,pV L),(1,v1),(12,a2),(13,J O)]) (λO aZ=>[a1,ow [a0] aZ]) [0,1] U ?_ ?_
 intro _ _ O aZ w e _ _ _ _
 refine S<|gB U<|gS<|lT 14 U U<|S<|Y U<|gA U<|S<|Y U<|gY (yG U<|kW U U)<|gY (yn (e.blk_at 0 U) isAgg41 sizeOf41 U)<|Y U<|gCg U call62 (nm _ (⟨K.P,K.r,aZ⟩:jv) a0 (e.ow_rep 1 U) O) ?_
 rintro aC _ _ w ⟨_,rfl,hB⟩
 replace e:=e.give hB
 refine gA U<|S<|Y U<|Y U<|gg λaV bH an=>?_
 obtain ⟨ao,ap,aw,he⟩:=jy h1 an
 subst he
 obtain ⟨_,_,aq,bJ⟩:=kn h1 an
 have aQ:=bJ
 obtain ⟨ax,rfl,-⟩:=id aQ
 replace aQ:GT.rep W [ax] aV:=aQ
 replace aq:kS W ao (ap+O.toNat*1) [ax]:=aq
 refine gI aa1 bH (jx an) U<|gY (yl isAgg159 ((aq.mono e.lez).cell (j:=0) U) U) ?_
 obtain ⟨bK,ay,rfl,_⟩:=ju aQ
 refine gY (yV bc6 U)<|Y U ?_
 obtain ⟨aH,aI,rfl,_⟩:=ju<|e.ow_rep 0 U
 let a3:=sl aH aC aI
 let a6:=J<|(aV.length:Int)
 let a4:=os aH aC aI
 refine gBk<|gNf e (λaF aO=>[(0,pV L),(1,sw ao ap N aw),(4,J O),(5,a3),(12,a2),(13,J O),(24,sl bK aV ay),(25,a6),(26,J aF)]) (λaF aO=>[a1,ow [a0] aO,a4]) [1,2,0] U ?_ ?_
 intro _ _ aF aO w e _ _ _ _
 refine S<|gB U<|gS<|lT 27 U U<|S<|Y U<|gg λaW bL ar=>?_
 obtain ⟨az,bA,rfl⟩:=jA aQ ar
 obtain ⟨_,_,au,bM⟩:=kn aQ ar
 have aR:=bM
 obtain ⟨aL,rfl,-⟩:=id aR
 replace aR:GT.rep W [aL] aW:=aR
 replace au:kS W az (bA+aF.toNat*1) [aL]:=au
 refine gI bc6 bL (jx ar) U<|gY (yl isAgg110 ((au.mono e.lez).cell (j:=0) U) U)<|gAl e zeroValue110 U λaJ w e=>gA U<|gS1 e 0 sizeOf110 (ce8 aR) U λw e=>gJ e (λaa=>[(0,pV L),(1,sw ao ap N aw),(4,J O),(5,a3),(12,a2),(13,J O),(24,sw az bA aV ay),(25,a6),(26,J aF)]) (λaa=>[a1,ow [a0] aa,a4]) (λaa=>?_) ?_
 refine gW (.p 0<|.p 1<|.p 2<|.p 4<|.p 8<|.p 9<|.p 10<|.q 3<|.p 5<|.p 6<|.e 7 (.e 11 (.p 12<|.p 13<|.e 14 .fin .nil) .nil)<|.e 11 (.e 7 (.p 12<|.p 13<|.e 14 .fin .nil) .nil) .nil) [11] [0,1,2,4,5,6,8,9,10,12,13] e [0,1,3] [_,_,_] U mxo (by kernel_rfl) (λ_ _ _ h=>h.2) λw e hS=>uM U U<|tP U (λw=>yG U<|kW U U)<|uF kM U U<|uM U U<|uM U U<|uM U U<|tP U (λw=>yU U)<|tQ U hS (λw e=>yL e 1 isAgg39 U)<|gg λH bN aP=>?_
 obtain ⟨aM,aN,rfl⟩:=jA (e.ow_rep 2 U) aP
 obtain ⟨_,_,_,_,_,_,_⟩:=k4 (e.ow_rep 2 U) aP
 have a5:=kB<|e.ow_rep 2 U
 refine tP U (λw=>yI kZ bN (kL aP a5) U)<|uF ko U U<|gb λaG bB=>gb λM bC=>tMo ?_ ?_
 obtain ⟨_,ab,ac,e⟩:=lH e 2 U aP
 refine tY U (yl isAgg66 ((e.holeE_at 5 U).cell (j:=0) U) U)<|tAn U<|tO<|tf U U (λa hf=>ki hf U call181 U<|rh _ aC a3 (e.ow_rep 6 U) (λy0=>nG y0 aW) (.func (.func 182) #[] #[pV aJ]) (λw y0 r hB hq=>⟨182,[pV aJ],U,call182,vo w y0 aW aL (kp (e.now aR) hB) aJ (e.blk_later 3 U hB) r hq⟩) _ bB) ?_
 rintro aS w ⟨_,rfl,hB⟩
 replace e:=e.give hB
 refine tAk e [4,5,7] U λhS=>?_
 obtain ⟨bO,aX⟩:=jz.1 bC
 obtain ⟨ae,af,ah,he⟩:=jy (e.ow_rep 3 U) aX
 subst he
 obtain ⟨_,_,_⟩:=mP (e.ow_rep 3 U) aX
 refine tP U (λw=>yI lY bO (jx aX) U)<|uF mT U U<|tO ?_
 obtain ⟨bD,e⟩:=oS e 3 U aX
 have bE:∀ u∈([aS]:List Value),u.oneCell'=true:=(Z (kF<|e.ow_rep 1 U) kE)
 refine tf0 U U (λa hf=>mw (j:=1) (vs:=[aS]) 4 hf e U U U sizeOf54 U U (nA<|bE _<|List.mem_singleton.2 U) bE U) ?_
 rintro _ w e
 replace e:Mem w0 W _ [ow [bD] M.A,ow [aS] aG,ow [ac] H.n,ow [ab] H.i,kY ae af H.a.length ah (H.a:List kA) aF.toNat [J M.to,aS],blk aJ [aL] 110,blk L [J K.P,J K.r,sw aM aN K.b aD] 41,kY aM aN K.b.length aD (aO:List jq) O.toNat [sw ae af H.a ah,ab,J H.j,J H.on,ac],a4]:=e
 refine tAn U<|tE ?_
 replace e:Mem w0 W _ [ow [bD] M.A,ow [J M.to,aS] ((⟨M.to,aG⟩:kA):kA),ow [ac] H.n,ow [ab] H.i,kY ae af H.a.length ah (H.a:List kA) aF.toNat [J M.to,aS],blk aJ [aL] 110,blk L [J K.P,J K.r,sw aM aN K.b aD] 41,kY aM aN K.b.length aD (aO:List jq) O.toNat [sw ae af H.a ah,ab,J H.j,J H.on,ac],os aH aC aI]:=n8 M.to e 1 U
 replace e:=(e.shutE (y:=((⟨M.to,aG⟩:kA):kA)) 4 1 (dt U) U U).d [0,2,3,4,5,6,7,8] U
 replace e:=(k9 H.j H.on e 3 2 1 U).d [0,3,4,5,6,7] U
 replace e:=(e.shutE (y:=((⟨H.a.set aF.toNat (⟨M.to,aG⟩:kA),H.i,H.j,H.on,H.n⟩:jq):jq)) 4 1 (dt U) U U).d [0,2,3,4,5] U
 exact gz e [2,3,4] U
 refine tO<|tf U U (λa hf=>ki hf U call181 U<|rh _ aC (sl aH aC aI) (e.ow_rep 3 U) (λy0=>nG y0 aW) (.func (.func 182) #[] #[pV aJ]) (λw y0 r hB hq=>⟨182,[pV aJ],U,call182,vo w y0 aW aL (kp (e.now aR) hB) aJ (e.blk_later 0 U hB) r hq⟩) _ bB) ?_
 rintro aT w ⟨_,rfl,hB⟩
 replace e:=e.give hB
 refine tAk e [1,2,4] U λhS=>tO ?_
 obtain ⟨_,ai,aj,e⟩:=lH e 3 U aP
 refine tY U (yl isAgg66 ((e.holeE_at 6 U).cell (j:=0) U) U)<|tAn U ?_
 obtain ⟨bP,aY⟩:=jz.1 bC
 obtain ⟨ak,al,am,he⟩:=jy (e.ow_rep 2 U) aY
 subst he
 obtain ⟨_,_,_⟩:=mP (e.ow_rep 2 U) aY
 refine tP U (λw=>yI lY bP (jx aY) U)<|uF mT U U<|tO ?_
 obtain ⟨bF,e⟩:=oS e 2 U aY
 have bG:∀ u∈([aT]:List Value),u.oneCell'=true:=(Z (kF<|e.ow_rep 4 U) kE)
 refine tf0 U U (λa hf=>mw (j:=1) (vs:=[aT]) 3 hf e U U U sizeOf54 U U (nA<|bG _<|List.mem_singleton.2 U) bG U) ?_
 rintro _ w e
 replace e:Mem w0 W _ [ow [bF] M.A,ow [aj] H.n,ow [ai] H.i,kY ak al H.a.length am (H.a:List kA) aF.toNat [J M.to,aT],ow [aT] aG,blk aJ [aL] 110,blk L [J K.P,J K.r,sw aM aN K.b aD] 41,kY aM aN K.b.length aD (aO:List jq) O.toNat [sw ak al H.a am,ai,J H.j,J H.on,aj],os aH aC aI]:=e
 refine tAn U<|tE ?_
 replace e:Mem w0 W _ [ow [bF] M.A,ow [aj] H.n,ow [ai] H.i,kY ak al H.a.length am (H.a:List kA) aF.toNat [J M.to,aT],ow [J M.to,aT] ((⟨M.to,aG⟩:kA):kA),blk aJ [aL] 110,blk L [J K.P,J K.r,sw aM aN K.b aD] 41,kY aM aN K.b.length aD (aO:List jq) O.toNat [sw ak al H.a am,ai,J H.j,J H.on,aj],os aH aC aI]:=n8 M.to e 4 U
 replace e:=(e.shutE (y:=((⟨M.to,aG⟩:kA):kA)) 3 4 (dt U) U U).d [0,1,2,3,5,6,7,8] U
 replace e:=(k9 H.j H.on e 3 2 1 U).d [0,3,4,5,6,7] U
 replace e:=(e.shutE (y:=((⟨H.a.set aF.toNat (⟨M.to,aG⟩:kA),H.i,H.j,H.on,H.n⟩:jq):jq)) 4 1 (dt U) U U).d [0,2,3,4,5] U
 exact gz e [2,3,4] U
 intro aa w e
 exact gR<|gp U<|Y U<|gE<|gze e [0,1,2] U
 intro _ _ w e _ _
 exact S<|gB U<|gS<|lF 27 U U<|gHh<|gR<|gp U<|Y U<|gE<|gze e [0,1] U
 intro _ _ w e _ _
 exact S<|gB U<|gS<|lF 14 U U<|gHh<|gre results126 ⟨sl aK K.b aD,U,e.d [0,1] U⟩
theorem ar9 (w0:World) (c_:jv) (v1:Value) (h1:rp w0 v1 c_.b) (H:List Int) (v2:Value) (h2:rp w0 v2 H) :
    k6 Tryz.prog 59 [.agg #[J c_.P,J c_.r,v1],v2] w0 (tD c_ H) λr v w'=>∃ (x1:Value),v=(.agg #[J r.P,J r.r,x1])/\Mem w0 (hp w0) w' [ow [x1] r.b]:=by
 unfold tD
 refine kQ func59 U λr e=>?_
 refine S<|gBx e U λaE w e=>gAl e zeroValue41 U λaF w e=>S<|gf U (λa K=>am3 (β:=Int) e U) ?_
 rintro aG w e
 refine gA U<|gS<|S<|Y U ?_
 obtain ⟨bM,aX,rfl,_⟩:=ju h2
 let a6:=blk aF [J 0,J 0,nS] 41
 let a1:=J c_.P
 let a2:=J c_.r
 let c6:=blk aE [a1,a2,v1] 41
 refine gY (yV kI U)<|Y U<|gBk<|gNf e (λbD bN=>[(1,sl bM H aX),(2,pV aE),(4,pV aF),(5,aG),(24,sl bM H aX),(25,J<|(H.length:Int)),(26,J bD)]) (λbD bN=>[c6,a6,owm aG bN]) [2,1,0] U ?_ ?_
 repeat clear e
 intro _ _ bD bN w e _ _ _ _
 refine S<|gB U<|gS<|lT 27 U U<|S<|Y U<|gg λbe bt bO=>?_
 obtain ⟨_,_,rfl⟩:=jA h2 bO
 refine gI kI bt (jx bO) U<|gY (yl isAgg3 ((kC (cs:=[J be]) (e.now h2) bO U).cell (j:=0) U) U)<|gA U<|gA U<|gR<|Y U<|Y U<|Y U<|gf0 U (λa K=>v7 (β:=Int) (key:=be) (u:=bD) (b:=false) 2 underlying3 underlying110 K e U U U U U) ?_
 rintro _ w e
 exact gR<|gp U<|Y U<|gE<|gze e [0,1,2] U
 repeat clear e
 intro _ aR w e _ _
 refine S<|gB U<|gS<|lF 27 U U<|gHh<|S<|gY (yn (e.blk_at 0 U) isAgg41 sizeOf41 U)<|gCg U call125 (ak8 _ c_ v1<|e.now h1) ?_
 rintro ai _ bP w ⟨_,rfl,hB⟩
 replace e:=e.give hB
 refine gA U<|S<|gF nD U<|gL e 1 isAgg3 U<|gF mF U<|gL e 1 isAgg3 U<|gY (yG U<|mV (vs:=[(0,a1),(1,a2)]) (cs:=#[a1,a2,nS]) U U (by kernel_rfl))<|gAl e zeroValue41 U λaM w e=>gSN e 0 sizeOf41 (Z U<|Z U<|Z U kE) U λw e=>S<|Y U<|gY (yV kI U)<|gb λaH bu=>?_
 obtain ⟨⟨bv,bx⟩,bf⟩:=lU.1 bu
 refine gf U (λa K=>ni (x0:=([]:List (jw Int))) ci6 (λ_=>ke.2<|.inl ⟨U,U⟩) K e U U U bv (Int.le_refl _) bx) ?_
 rintro _ w e
 rw [bf] at e
 have dL:(aH.length:Int)=(H.length:Int):=by rw [<- bf];simp only [List.length_replicate];omega
 refine gA U<|gS<|S<|Y U<|gY (yV kI U)<|Y U ?_
 obtain ⟨aV,aj,M,d5⟩:=e.freeze 2 U
 replace e:=d5.d [0,1,3,4,5] U
 clear d5
 replace M:GT.rep aV [bP] ai:=aq0 M
 obtain ⟨aS,aN,rfl,_⟩:=ju<|e.ow_rep 0 U
 refine gBk ?_
 replace e:=e.nilow (α:=jq)
 let W:=sl aS aH aN
 let b0:=J<|(H.length:Int)
 let N:=owm aG aR
 refine gNg (λaO aB a w=>∃ (bQ:Value),St 122 [(2,pV aE),(4,pV aF),(5,aG),(8,bP),(9,pV aM),(10,W),(45,sl bM H aX),(46,b0),(47,J aO)] w0 aV [c6,a6,N,blk aM [a1,a2,bQ] 41,ow [bQ] aB.1,ow [W] aB.2] a w) (λa K=>⟨nS,K.sb U,e.d [3,4,5,2,0,1] U⟩) ?_ ?_
 repeat clear e
 rintro _ _ aO aB a w ⟨bQ,K,e⟩ _ _ _ _
 refine gv K<|S<|gB U<|gS<|lT 48 U U<|S<|Y U<|gg λbR bz bS=>?_
 obtain ⟨ak,al,rfl⟩:=jA h2 bS
 refine gI kI bz (jx bS) U<|gY (yl isAgg3 ((kC (cs:=[J bR]) (e.now<|GT.mono aj h2) bS U).cell (j:=0) U) U)<|gA U<|gA U<|S<|gF kM U<|gL e 0 isAgg39 U<|Y U<|gg λcA cB bT=>?_
 obtain ⟨aa,ab,ac,he⟩:=jy h1 bT
 subst he
 obtain ⟨cC,cD,cE,cF,cG,cH,cI⟩:=k4 h1 bT
 refine gI kZ cB (jx bT) U<|gY (yn (cF.mono<|kR.le_trans aj e.lez) isAgg68 sizeOf68 U)<|gCg U call65 (tw _ cA cC (e.now<|GT.mono aj cG) cD (e.now<|GT.mono aj cH) cE<|e.now<|GT.mono aj cI) ?_
 rintro L _ _ w ⟨_,_,_,rfl,hB⟩
 replace e:=e.give hB
 refine gAl e zeroValue68 U λaT w e=>gSN e 0 sizeOf68 (Z (kF<|e.ow_rep 1 U)<|Z (kF<|e.ow_rep 2 U)<|Z U<|Z U<|Z (kF<|e.ow_rep 3 U) kE) U λw e=>gS<|S<|gF lb U<|gL e 0 isAgg54 U ?_
 obtain ⟨aC,aD,rfl,_⟩:=ju<|e.ow_rep 3 U
 refine gY (yV kI U)<|Y U ?_
 obtain ⟨aP,aQ,rfl,_⟩:=ju<|e.ow_rep 8 U
 obtain ⟨aI,aJ,rfl,_⟩:=ju<|e.ow_rep 1 U
 obtain ⟨aK,aL,rfl,_⟩:=ju<|e.ow_rep 2 U
 let b7:=sl aC L.n aD
 let c1:=sl aI L.a aJ
 let c3:=sl aK L.i aL
 let b3:=blk aT [c1,c3,J L.j,J L.on,b7] 68
 let b6:=sw aa ab c_.b ac
 let b5:=blk aE [a1,a2,b6] 41
 let c2:=sl aP aB.1 aQ
 let b4:=blk aM [a1,a2,c2] 41
 let a7:=os aI L.a aJ
 let a0:=os aK L.i aL
 let a4:=sw ak al H aX
 let O:=os aP aB.1 aQ
 refine gBk<|gNf e (λbU bV=>[(2,pV aE),(4,pV aF),(5,aG),(8,bP),(9,pV aM),(10,W),(11,J aO),(12,J bR),(13,pV aT),(45,a4),(46,b0),(47,J aO),(59,b7),(60,J<|(L.n.length:Int)),(61,J bU)]) (λbU bV=>[b5,a6,N,b4,O,ow [W] aB.2,b3,a7,a0,ow [b7] bV]) [4,5,6,7,8,9,0,1,2,3] U ?_ ?_
 repeat clear e
 intro _ _ bU bV w e _ _ _ _
 refine S<|gB U<|gS<|lT 62 U U<|S<|Y U<|gg λau bg am=>?_
 obtain ⟨_,_,rfl⟩:=jA (e.ow_rep 9 U) am
 have d1:=kB<|e.ow_rep 9 U
 refine gI kI bg (kL am d1) U<|gY (yl isAgg3 ((kC (cs:=[J au]) (e.ow_rep 9 U) am U).cell (j:=0) U) U)<|gA U<|gA U<|gR<|gF lb U<|gL e 6 isAgg54 U<|Y U<|Y U<|Y U<|gY (yG U<|wZ (key:=au) (m:=(aR:jw Int)) underlying3 underlying110 zeroValue3 (e.owm_rep 2 U) U U U) ?_
 have d0:=kB<|e.ow_rep 9 U
 refine gI kI bg (kL am d0) U<|gf0 U (λa K=>lI (x1:=(jw.get aR au).getD 0) (j:=0) (vs:=[J<|(jw.get aR au).getD 0]) 9 K e U am U sizeOf3 U U U (Z U kE) U U) ?_
 rintro _ w e
 exact gR<|gp U<|Y U<|gE<|gze e [0,1,2,3,4,5,6,7,8,9] U
 repeat clear e
 intro _ ae w e _ _
 refine S<|gB U<|gS<|lF 62 U U<|gHh<|gS<|S<|Y U<|Y U<|gg λaW cJ bW=>?_
 obtain ⟨an,ao,aw,he⟩:=jy M bW
 subst he
 obtain ⟨_,_,bX,cK⟩:=kn M bW
 have ap:=cK
 obtain ⟨bh,rfl,-⟩:=id ap
 replace ap:GT.rep aV [bh] aW:=ap
 replace bX:kS aV an (ao+bR.toNat*1) [bh]:=bX
 refine gI aa1 cJ (jx bW) U<|gY (yl isAgg159 ((bX.mono e.lez).cell (j:=0) U) U) ?_
 obtain ⟨cL,ax,rfl,_⟩:=ju ap
 let aU:=J<|(aW.length:Int)
 let a5:=sw an ao ai aw
 let a3:=ow [b7] ae
 refine gY (yV bc6 U)<|Y U<|gBk<|gNf e (λaf aY=>[(2,pV aE),(4,pV aF),(5,aG),(8,a5),(9,pV aM),(10,W),(11,J aO),(13,pV aT),(45,a4),(46,b0),(47,J aO),(77,sl cL aW ax),(78,aU),(79,J af)]) (λaf aY=>[b5,a6,N,b4,O,ow [W] aY,b3,a7,a0,a3]) [0,1,2,3,4,5,6,7,8,9] U ?_ ?_
 repeat clear e
 intro _ _ af aY w e _ _ _ _
 refine S<|gB U<|gS<|lT 80 U U<|S<|gg λbY cM bZ=>?_
 obtain ⟨ay,az,rfl⟩:=jA ap bZ
 obtain ⟨_,_,b8,cN⟩:=kn ap bZ
 have bA:=cN
 obtain ⟨bB,rfl,-⟩:=id bA
 replace bA:GT.rep aV [bB] bY:=bA
 replace b8:kS aV ay (az+af.toNat*1) [bB]:=b8
 refine gI bc6 cM (jx bZ) U<|gY (yl isAgg110 ((b8.mono e.lez).cell (j:=0) U) U)<|gA U<|S<|gf U (λa K=>am3 (β:=Int) e U) ?_
 rintro aZ w e
 refine gA U<|gS<|S<|Y U<|gf U (λa K=>zY (m:=(bY:jw Int)) K e underlying110 bA U U) ?_
 rintro _ w ⟨aq,rfl,e⟩
 let a9:=sw ay az aW ax
 let a8:=ow [W] aY
 refine gJ e (λah=>[(2,pV aE),(4,pV aF),(5,aG),(8,a5),(9,pV aM),(10,W),(11,J aO),(13,pV aT),(18,aZ),(45,a4),(46,b0),(47,J aO),(77,a9),(78,aU),(79,J af)]) (λah=>[b5,a6,N,b4,O,a8,b3,a7,a0,a3,owm aZ ah]) (λah=>?_) ?_
 refine gBk<|gb λ_ cO=>ci4 (m :=(bY:jw Int)) (bx1 (bj1 cO) (λx=>x) (λp s=>by first | (dsimp only; split <;> rfl) | (split <;> rfl))) bA (λbE bi a w=>St 122 [(2,(pV aE)),(4,(pV aF)),(5,aG),(8,a5),(9,(pV aM)),(10,W),(11,(J aO)),(13,(pV aT)),(18,aZ),(45,a4),(46,(J<|(H.length:Int))),(47,(J aO)),(77,a9),(78,(J<|(aW.length:Int))),(79,(J af)),(85,(pV aq))] w0 aV [blk aE [a1,a2,b6] 41,blk aF [J 0,J 0,nS] 41,N,blk aM [a1,a2,c2] 41,O,a8,blk aT [c1,c3,J L.j,J L.on,b7] 68,a7,a0,a3,owm aZ bi,itc aV bB aq bE] a w) (λa K=>⟨K.sb U,e.d [2,3,4,5,6,7,8,9,10,11,1,0] U⟩) ?_ ?_
 repeat clear e
 rintro bE bi a w ⟨K,e⟩ d7
 refine gv (m:=some ()) (r:=()) K ?_ U
 refine S<|gf U (λa K=>aj0 11 K e U d7 U U) ?_
 rintro _ w ⟨bj,b9,_,rfl,bk,bl,e⟩
 let c4:=itc aV bB aq<|Array.push bE bj
 refine gSw bk<|gX U<|gS<|gct U<|gSk<|gJ e (λbF=>[(2,pV aE),(4,pV aF),(5,aG),(8,a5),(9,pV aM),(10,W),(11,J aO),(13,pV aT),(18,aZ),(45,a4),(46,b0),(47,J aO),(77,a9),(78,aU),(79,J af),(85,pV aq)]) (λbF=>[b5,a6,N,b4,O,a8,b3,a7,a0,a3,owm aZ bF,c4]) (λbF=>?_) ?_
 refine gBk<|S<|gY (yG U<|zl 11 e U bl U U)<|gX U<|gX U<|gA U<|gA U<|S<|Y U<|Y U<|gY (yG U<|cj0 (key:=b9.1) (m:=(aR:jw Int)) underlying3 underlying110 zeroValue3 (e.owm_rep 2 U) U U U)<|Y U<|gX U<|gX U<|gA U<|gA U<|S<|Y U<|gJ e (λbG=>[(2,pV aE),(4,pV aF),(5,aG),(8,a5),(9,pV aM),(10,W),(11,J aO),(13,pV aT),(18,aZ),(45,a4),(46,b0),(47,J aO),(77,a9),(78,aU),(79,J af),(85,pV aq)]) (λbG=>[b5,a6,N,b4,O,a8,b3,a7,a0,a3,owm aZ bG,c4]) (λbG=>?_) ?_
 refine gs 97 U (λcP=>?_) λcP=>?_
 refine gct U<|gR<|Y U<|Y U<|Y U<|gf0 U (λa K=>v7 (β:=Int) (key:=(jw.get aR b9.1).getD 0) (u:=b9.2) (b:=false) 10 underlying3 underlying110 K e U U U U U) ?_
 rintro _ w e
 exact gE<|gz e [0,1,2,3,4,5,6,7,8,9,10,11] U
 exact gcf U<|gSk<|gz e [0,1,2,3,4,5,6,7,8,9,10,11] U
 repeat clear e
 intro bG w e
 exact gz e [0,1,2,3,4,5,6,7,8,9,10,11] U
 repeat clear e
 intro bF w e
 exact gZr bl bk λa K=>⟨K.sb U,e.d [0,1,2,3,4,5,6,7,8,9,10,11] U⟩
 repeat clear e
 rintro _ _ a w ⟨K,e⟩ d6 hk
 refine gv K ?_ hk
 exact S<|gY (yG U<|ai0 11 e U d6 U U)<|gX U<|gS<|gcf U<|gXt<|gHh<|gz e [0,1,2,3,4,5,6,7,8,9,10] U
 repeat clear e
 intro ah w e
 refine gR<|Y U<|Y U<|Y U<|Y U<|gg λbH bm ar=>?_
 obtain ⟨ba,bb,rfl⟩:=jA (e.ow_rep 5 U) ar
 obtain ⟨_,_,_,cQ⟩:=kn (e.ow_rep 5 U) ar
 have bc:=cQ
 obtain ⟨_,rfl,-⟩:=id bc
 have d3:=kB<|e.ow_rep 5 U
 refine gI aa1 bm (kL ar d3) U ?_
 obtain ⟨_,cR,e⟩:=e.openE 5 U ar
 have cS:=e.ow_rep 0 U
 have bJ:=cS
 obtain ⟨bd,rfl,-⟩:=id bJ
 replace bJ:GT.rep (hp _) [bd] bH:=bJ
 clear cR bJ
 replace e:Mem w0 aV _ [ow [bd] (bH:List (jw Int)),b5,a6,N,b4,O,kY ba bb aH.length aN (aY:List (List<|jw Int)) aO.toNat [bd],b3,a7,a0,a3,owm aZ ah]:=e
 replace e:=e.d [0,1,2,3,4,5,6,7,8,9,10,11] U
 refine gY (yl isAgg159 ((e.holeE_at 6 U).cell (j:=0) U) U)<|Y U ?_
 obtain ⟨bK,he⟩:=ve e 11 U
 subst he
 refine gf U (λa K=>kj (vs:=#[(0,.map<|some bK)]) (cs:=[.map<|some bK]) az0 K e U U (by kernel_rfl) U U) ?_
 rintro _ w ⟨_,rfl,e⟩
 replace e:=e.els_nil (α:=jw Int)
 have dZ:=xp e 13 U
 let c5:=ow [.map<|some bK] (ah:jw Int)
 replace e:=e.imp (c':=c5) 13 U λF h0=>xw h0
 replace e:=e.imp (c':=c5) 13 U λF h0=>h0
 replace e:=(e.els_cons 0 13 (dt U) U U).d [0,1,2,3,4,5,6,7,8,9,10,11,12] U
 replace e:=(e.lit_els 1 0 (dt U) U U U U).d [1,2,3,4,5,6,7,8,9,10,11,12] U
 refine gb λbL cT=>?_
 obtain ⟨cU,cV⟩:=kP.1 cT
 replace e:=(e.both 1 0 (dt U) U U).d [1,2,3,4,5,6,7,8,9,10,11] U
 refine gf U (λa K=>lW (xs:=bH) (ys:=([ah]:List (jw Int))) 0 az0 K e U U U U cU) ?_
 rintro bC w e
 rw [cV] at e
 have d2:=e.holeE_len 6 U
 refine gI aa1 bm (kL ar d2) U ?_
 have bq:∀ u∈([bC]:List Value),u.oneCell'=true:=(Z (kF<|e.ow_rep 0 U) kE)
 refine gf0 U (λa K=>mw (j:=0) (vs:=[bC]) 6 K e U U U sizeOf159 U U (nA<|bq _<|List.mem_singleton.2 U) bq U) ?_
 rintro _ w e
 replace e:Mem w0 aV _ [ow [bC] bL,blk aE [a1,a2,b6] 41,blk aF [J 0,J 0,nS] 41,owm aG aR,blk aM [a1,a2,c2] 41,os aP aB.1 aQ,kY ba bb aH.length aN (aY:List (List<|jw Int)) aO.toNat [bC],blk aT [c1,c3,J L.j,J L.on,sl aC L.n aD] 68,os aI L.a aJ,os aK L.i aL,ow [sl aC L.n aD] ae]:=e
 refine gE ?_
 replace e:=e.imp (c':=ow [bC] (bL:List (jw Int))) 0 U λF h0=>h0
 replace e:=(e.shutE (y:=(bL:List (jw Int))) 6 0 (dt U) U U).d [1,2,3,4,5,6,7,8,9,10] U
 exact gR<|gp U<|Y U<|gE<|gze e [0,1,2,3,4,5,6,7,8,9] U
 repeat clear e
 intro _ _ w e _ _
 refine S<|gB U<|gS<|lF 80 U U<|gHh<|gR<|gF kM U<|gL e 3 isAgg39 U<|gY (yn (e.blk_at 6 U) isAgg68 sizeOf68 U)<|gf U (λa K=>kj (vs:=#[(0,.agg #[sl aI L.a aJ,sl aK L.i aL,J L.j,J L.on,sl aC L.n aD])]) (cs:=[sl aI L.a aJ,sl aK L.i aL,J L.j,J L.on,sl aC L.n aD]) zu K e U U (by kernel_rfl) U U) ?_
 rintro _ w ⟨_,rfl,e⟩
 replace e:=e.els_nil (α:=jq)
 replace e:=(k9 L.j L.on e 9 10 11 U).d [0,1,2,3,4,5,6,7,8,9] U
 replace e:=(e.els_cons 0 9 (dt U) U U).d [0,1,2,3,4,5,6,7,8] U
 replace e:=(e.lit_els 1 0 (dt U) U U U U).d [1,2,3,4,5,6,7,8] U
 refine gb λ_ cW=>?_
 obtain ⟨cX,cY⟩:=kP.1 cW
 replace e:=(e.both 5 0 (dt U) U U).d [1,2,3,4,5,6,7] U
 refine gf U (λa K=>lW (xs:=aB.1) (ys:=([(⟨L.a,L.i,L.j,L.on,ae⟩:jq)]:List jq)) 4 zu K e U U U U cX) ?_
 rintro cZ w e
 rw [cY] at e
 exact gF kM U<|gS1 e 3 sizeOf39 (kF<|e.ow_rep 4 U) U λw e=>gR<|gp U<|Y U<|gE<|gZe λa K=>⟨cZ,K.sb U,e.d [0,1,2,3,4,5] U⟩
 repeat clear e
 rintro _ br a w ⟨c7,K,e⟩ _ _
 refine gv K<|S<|gB U<|gS<|lF 48 U U<|gHh<|S<|Y U ?_
 obtain ⟨c8,_,dK,d4,c9⟩:=e.take2 (L1:=[_,_]) (L2:=[_,_,_,_]) [3,4] [0,1,2,5] (dt U) U U
 refine gCg U call126 (an9 _ c8 (⟨c_.P,c_.r,br.1⟩:jv) aM c7 br.2 (sl aS aH aN) (aq0<|d4 3 _ U) dK ) ?_
 rintro _ _ _ w ⟨ca,rfl,hB⟩
 replace e:=c9 _ _ hB;clear hB
 refine S<|gY (yn (e.blk_at 0 U) isAgg41 sizeOf41 U)<|gSN e 3 sizeOf41 (Z U<|Z U<|Z (kF<|e.ow_rep 1 U) kE) U λw e=>gRt ?_
 replace e:=e.thaw aj
 exact grc 3 results59 e U isAgg41 sizeOf41 ⟨ca,U,e.d [1] U⟩
theorem yK (M:World) (H:jv) (L:Value) (W:rp M L H.b) :
    k6 Tryz.prog 26 [.agg #[J H.P,J H.r,L]] M (ly H) λr v w'=>∃ (x1:Value),v=(.agg #[J r.P,J r.r,x1])/\Mem M (hp M) w' [ow [x1] r.b]:=by
 unfold ly
 refine kQ func26 U λr e=>?_
 refine S<|gBx e U λaA w e=>gAl e zeroValue41 U λaB w e=>gS<|gW (.q 0<|.e 1 (.e 2 (.e 3 (.e 4 .fin .nil) .nil) .nil) .nil) [1,2] [] e [0,1] [blk aB [J 0,J 0,nS] 41,blk aA [J H.P,J H.r,L] 41] U mxo (by kernel_rfl) (λ_ _ _ h=>h.2) λw e N=>tQ U N (λw e=>yn (e.blk_at 1 U) isAgg41 sizeOf41 U)<|tO<|tY U (yn (e.blk_at 1 U) isAgg41 sizeOf41 U)<|tAs N<|tO<|gb λaC aD=>tf U U (λa K=>ki K U call60 U<|zS _ H L (e.now W) _ aD) ?_
 rintro aE w ⟨_,rfl,O⟩
 replace e:=e.give O
 refine tAk e [1,2] U λN=>tO<|gb λ_ aF=>tf U U (λa K=>ki K U call59 U<|ar9 _ H L (e.now W) aC aE (e.ow_rep 0 U) _ aF) ?_
 rintro _ w ⟨aG,rfl,O⟩
 replace e:=e.give O
 refine tAn U<|tO<|tf0 U U (λa K=>rf 2 K e U sizeOf41 U U U (Z U<|Z U<|Z (kF<|e.ow_rep 0 U) kE) U U) ?_
 rintro _ w e
 exact tAn U<|tE<|gRt<|grc 2 results26 e U isAgg41 sizeOf41 ⟨aG,U,e.d [0] U⟩
theorem wq (H:World) (u:kU) (L:Value) (W:rp H L u.C) :
    k6 Tryz.prog 14 [.agg #[L]] H (pI u) λr v w'=>∃ (x1:Value),v=(.tuple #[.agg #[x1],(.bool (r.2))])/\Mem H (hp H) w' [ow [x1] r.1.C]:=by
 unfold pI
 refine kQ func14 U λr e=>?_
 refine S<|gBx e U λ_ w e=>gAl e zeroValue28 U λ_ w e=>gA U<|S<|gY (yn (e.blk_at 1 U) isAgg28 sizeOf28 U)<|gCg U call25 (ah3 _ u L (e.now W) (λK=>ly K) (.func (.func 26) #[] #[]) λw K aA aB r M N=>⟨26,[],U,call26,yK w K aA aB  r N⟩) ?_
 rintro _ _ _ w ⟨O,rfl,M⟩
 replace e:=e.give M
 exact gX U<|gX U<|gSN e 1 sizeOf28 (Z (kF<|e.ow_rep 0 U) kE) U λw e=>gA U<|gRt<|au6 1 results14 e U isAgg28 sizeOf28 ⟨O,U,e.d [0] U⟩
theorem yO (L:World) (l_:yy) (M:Nat) (a6:Value) (O:rp L a6 l_.c.b) (a3:Value) (a2:rp L a3 l_.i) (a5:Value) (a4:rp L a5 l_.g) (H:(hp L) M=some (.cells ([J l_.c.P,J l_.c.r,a6,a3,a5]:List Value).toArray 61 (0,0))) (b_:Int) :
    k6 Tryz.prog 132 [pV M,J b_] L (nX l_ b_) λr v w'=>∃ (x1:Value),v=x1/\Mem L (hp L) w' [owm x1 r]:=by
 unfold nX
 refine kQ func132 U λr e=>?_
 refine S<|gA U<|S<|gf U (λa K=>am3 (β:=Bool) e U) ?_
 rintro N w e
 refine gA U<|gS<|S<|Y U<|gY (yG U<|kW U U)<|gF az5 U<|gF kM U<|gY (yl isAgg39 (e.hz_cell H U) U)<|Y U<|gg λan ao aK=>?_
 obtain ⟨_,_,_,he⟩:=jy O aK
 subst he
 obtain ⟨_,_,ap,aq,_,_,ar⟩:=k4 O aK
 refine gI kZ ao (jx aK) U<|gF lb U<|gY (yl isAgg54 ((aq.mono e.lez).cell (j:=4) U) U)<|gCg U call127 (zQ _ an.n ap<|e.now ar) ?_
 rintro aA _ _ w ⟨_,rfl,hB⟩
 replace e:=e.give hB
 obtain ⟨ab,aC,rfl,_⟩:=ju<|e.ow_rep 0 U
 let W:=J<|(aA.length:Int)
 refine gY (yV kI U)<|Y U<|gBk<|gNf e (λaD aL=>[(0,pV M),(1,J b_),(5,N),(22,sl ab aA aC),(23,W),(24,J aD)]) (λaD aL=>[owm N aL,os ab aA aC]) [1,0] U ?_ ?_
 intro _ _ aD aL w e _ _ _ _
 refine S<|gB U<|gS<|lT 25 U U<|S<|gg λaG au aM=>?_
 obtain ⟨aE,aF,rfl⟩:=jA (e.ow_rep 1 U) aM
 refine gI kI au (jx aM) U<|gY (yl isAgg3 ((kC (cs:=[J aG]) (e.ow_rep 1 U) aM U).cell (j:=0) U) U)<|gA U<|gS<|S<|Y U<|gY (yG U<|kW U U)<|gF zJ U<|gY (yl isAgg58 (e.hz_cell H U) U)<|Y U<|gg λaN aw aO=>?_
 obtain ⟨ax,ay,_,he⟩:=jy a2 aO
 subst he
 obtain ⟨_,_,aP,az⟩:=kn a2 aO
 have aH:=az
 obtain ⟨aQ,rfl,-⟩:=id aH
 replace aH:GT.rep (hp L) [aQ] aN:=aH
 replace aP:kS (hp L) ax (ay+aG.toNat*1) [aQ]:=aP
 refine gI bg3 aw (jx aO) U<|gY (yl isAgg57 ((aP.mono e.lez).cell (j:=0) U) U)<|gf U (λa K=>zY (m:=(aN:jw Bool)) K e underlying57 aH U U) ?_
 rintro _ w ⟨ac,rfl,e⟩
 let a1:=sw aE aF aA aC
 let a0:=ot aE aF aA aC
 refine gJ e (λaI=>[(0,pV M),(1,J b_),(5,N),(7,J aG),(22,a1),(23,W),(24,J aD)]) (λaI=>[owm N aI,a0]) (λaI=>?_) ?_
 refine gBk<|cs5 (m :=(aN:jw Bool)) (by exact ca2) aH (λae af a w=>St 74 [(0,(pV M)),(1,(J b_)),(5,N),(7,(J aG)),(22,a1),(23,(J<|(aA.length:Int))),(24,(J aD)),(35,(pV ac))] L (hp L) [owm N af,a0,itc (hp L) aQ ac ae] a w) (λa K=>⟨K.sb U,e.d [1,2,0] U⟩) ?_ ?_
 rintro ae af a w ⟨K,e⟩ a8
 refine gv (m:=some ()) (r:=()) K ?_ U
 refine S<|gf U (λa K=>aj0 2 K e U a8 U U) ?_
 rintro _ w ⟨_,bA,_,rfl,ah,ai,e⟩
 refine gSw ah<|gX U<|gS<|gct U<|gSk<|gBk<|S<|gY (yG U<|zl 2 e U ai U U)<|gX U<|gA U<|gR<|Y U<|Y U<|gf0 U (λa K=>v7 (β:=Bool) (key:=bA.1) (u:=true) (b:=false) 0 underlying3 underlying57 K e U U U U U) ?_
 rintro _ w e
 exact gE<|gZr ai ah λa K=>⟨K.sb U,e.d [0,1,2] U⟩
 rintro _ _ a w ⟨K,e⟩ a7 hk
 refine gv K ?_ hk
 exact S<|gY (yG U<|ai0 2 e U a7 U U)<|gX U<|gS<|gcf U<|gXt<|gHh<|gz e [0,1] U
 intro aI w e
 refine S<|Y U<|gY (yG U<|kW U U)<|gF ah9 U<|gY (yl isAgg59 (e.hz_cell H U) U)<|Y U<|gg λaj bB aR=>?_
 obtain ⟨bC,bD,_,he⟩:=jy a4 aR
 subst he
 obtain ⟨_,_,aS,bE⟩:=kn a4 aR
 have aJ:=bE
 obtain ⟨aT,rfl,-⟩:=id aJ
 replace aJ:GT.rep (hp L) [aT] aj:=aJ
 replace aS:kS (hp L) bC (bD+aG.toNat*1) [aT]:=aS
 refine gI bs3 bB (jx aR) U<|gY (yl isAgg54 ((aS.mono e.lez).cell (j:=0) U) U)<|Y U<|gC e U call196 (qe _ aj aT (e.now aJ) b_) λbF _ w e=>gA U<|S<|Y U<|gY (yG U<|kW U U)<|gF az5 U<|gF kM U<|gY (yl isAgg39 (e.hz_cell H U) U)<|Y U<|gg λak bG al=>?_
 obtain ⟨_,_,_,bH,aV,_,_⟩:=k4 O al
 refine gI kZ bG (jx al) U<|gF ko U<|gY (yl isAgg66 ((bH.mono e.lez).cell (j:=0) U) U) ?_
 obtain ⟨bJ,bK,rfl,_⟩:=ju aV
 refine gY (yV lY U)<|Y U<|gBk<|gNf e (λaW aX=>[(0,pV M),(1,J b_),(5,N),(9,J bF),(22,a1),(23,W),(24,J aD),(59,sl bJ ak.a bK),(60,J<|(ak.a.length:Int)),(61,J aW)]) (λaW aX=>[owm N aX,a0]) [0,1] U ?_ ?_
 intro _ _ aW aX w e _ _ _ _
 refine S<|gB U<|gS<|lT 62 U U<|S<|gg λ_ bL aY=>?_
 obtain ⟨_,_,rfl⟩:=jA aV aY
 obtain ⟨_,bM,aZ⟩:=mP aV aY
 refine gI lY bL (jx aY) U<|gY (yn (bM.mono e.lez) isAgg80 sizeOf80 U)<|gAl e zeroValue80 U λ_ w e=>gSN e 0 sizeOf80 (Z U<|Z (kF aZ) kE) U λw e=>gR<|Y U<|gF mT U<|gL e 0 isAgg54 U<|Y U<|gg λam bN aa=>?_
 obtain ⟨_,_,_,he⟩:=kG aZ aa
 subst he
 refine gI kI bN (jx aa) U<|gY (yl isAgg3 ((kC (cs:=[J am]) (e.now aZ) aa U).cell (j:=0) U) U)<|gf0 U (λa K=>v7 (β:=Bool) (key:=am) (u:=true) (b:=false) 1 underlying3 underlying57 K e U U U U U) ?_
 rintro _ w e
 exact gR<|gp U<|Y U<|gE<|gze e [1,2] U
 intro _ _ w e _ _
 exact S<|gB U<|gS<|lF 62 U U<|gHh<|gR<|gp U<|Y U<|gE<|gze e [0,1] U
 intro _ _ w e _ _
 exact S<|gB U<|gS<|lF 25 U U<|gHh<|S<|Y U<|gA U<|gq U U ⟨N,U,e.d [0] U⟩
theorem xj (K:World) (H:kD) (L:Value) (N:rp K L H.A) :
    k6 Tryz.prog 68 [.agg #[J H.op,J H.to,L,J H.N]] K (nh H) λr v w'=>v=(J r)/\Below K.heap.size K w':=by
 unfold nh
 refine kQ func68 U λr e=>?_
 refine S<|gBx e U λ_ w e=>gA U<|gS<|S<|gF nN U<|gL e 0 isAgg3 U<|gC e U call76 (rV _ H.op) λ_ _ w e=>gN U<|gsn 6 U (λM=>?_) λM=>?_
 exact gct U<|S<|gA U<|gw U U U ⟨U,e.below⟩
 exact gcf U<|gSk<|S<|gF oa U<|gL e 0 isAgg3 U<|gA U<|gw U U U ⟨U,e.below⟩
theorem x8 (L:World) (W:kR) (s_:jw Bool) (K:Value) (e:List Int) (v2:Value) (M:GT.rep W [v2] e) (N:Mem L W L [owm K s_]) :
    k6 Tryz.prog 133 [K,v2] L (mZ s_ e) λr v w'=>v=K/\Mem L W w' [owm K r]:=by
 unfold mZ
 refine k7 func133 U λr=>?_
 have H:=N
 refine S<|gA U<|gS<|S<|Y U ?_
 obtain ⟨aE,aF,rfl,_⟩:=ju M
 refine gY (yV kI U)<|Y U<|gBk<|gNf H (λaA O=>[(0,K),(7,sl aE e aF),(8,J<|(e.length:Int)),(9,J aA)]) (λaA O=>[owm K O]) [0] U ?_ ?_
 intro _ _ aA O w H _ _ _ _
 refine S<|gB U<|gS<|lT 10 U U<|S<|gg λaD aG aC=>?_
 obtain ⟨_,_,rfl⟩:=jA M aC
 refine gI kI aG (jx aC) U<|gY (yl isAgg3 ((kC (cs:=[J aD]) (H.now M) aC U).cell (j:=0) U) U)<|gA U<|gR<|Y U<|Y U<|gf0 U (λa hf=>v7 (β:=Bool) (key:=aD) (u:=true) (b:=false) 0 underlying3 underlying57 hf H U U U U U) ?_
 rintro _ w H
 exact gR<|gp U<|Y U<|gE<|gze H [0] U
 intro _ _ w H _ _
 exact S<|gB U<|gS<|lF 10 U U<|gHh<|S<|Y U<|gA U<|gq U U ⟨U,H.d [0] U⟩
theorem wt (w0:World) (l_:yy) (a0:Nat) (W:Value) (N:rp w0 W l_.c.b) (M:Value) (a1:rp w0 M l_.i) (O:Value) (a2:rp w0 O l_.g) (H:(hp w0) a0=some (.cells ([J l_.c.P,J l_.c.r,W,M,O]:List Value).toArray 61 (0,0))) (b_:Int) (i_:Int) :
    k6 Tryz.prog 63 [pV a0,J b_,J i_] w0 (ll l_ b_ i_) λr v w'=>∃ (x1:Value),v=x1/\Mem w0 (hp w0) w' [owm x1 r]:=by
 unfold ll
 refine kQ func63 U λr e=>?_
 refine S<|gA U<|S<|Y U<|Y U<|gCg U call132 (yO _ l_ a0 W (e.now N) M (e.now a1) O (e.now a2) (e.lez _ _<|(kR.le_refl _) _ _ H) b_) ?_
 rintro _ _ L w ⟨_,rfl,hB⟩
 replace e:=e.give hB
 refine gA U<|S<|Y U<|gY (yG U<|kW U U)<|gF az5 U<|gF kM U<|gY (yl isAgg39 (e.hz_cell H U) U)<|Y U<|gg λK aS aJ=>?_
 obtain ⟨_,_,_,he⟩:=jy N aJ
 subst he
 obtain ⟨aK,aT,aL,aV,aW,aF,aX⟩:=k4 N aJ
 refine gI kZ aS (jx aJ) U<|gY (yn (aV.mono e.lez) isAgg68 sizeOf68 U)<|gAl e zeroValue68 U λaC w e=>gSN e 0 sizeOf68 (Z (kF aW)<|Z (kF aF)<|Z U<|Z U<|Z (kF aX) kE) U λw e=>gS<|S<|gF oR U<|gL e 0 isAgg3 U<|gC e U call77 (oy _ K.j) λ_ _ w e=>gJ e (λaG=>[(2,J i_),(7,L),(8,pV aC)]) (λaG=>[owm L aG,blk aC [aK,aT,J K.j,J K.on,aL] 68]) (λaG=>?_) ?_
 refine gs 24 U (λaY=>?_) λaY=>?_
 refine gct U<|gR<|Y U<|gF oI U<|gL e 0 isAgg3 U<|gf0 U (λa hf=>v7 (β:=Bool) (key:=K.on) (u:=true) (b:=false) 1 underlying3 underlying57 hf e U U U U U) ?_
 rintro _ w e
 exact gE<|gz e [1,0] U
 exact gcf U<|gSk<|gz e [1,0] U
 intro aG w e
 refine gS<|S<|gF lC U<|gL e 1 isAgg53 U ?_
 obtain ⟨aZ,aM,rfl,_⟩:=ju aF
 refine gY (yV lh U)<|gY (yS (by omega) (by omega) U)<|gA U<|gJ e (λaH=>[(7,L)]) (λaH=>[owm L aH]) (λaH=>?_) ?_
 refine gBk<|gMf e (λaD=>[(2,J i_),(7,L),(8,pV aC),(9,J aD.2)]) (λaD=>[owm L aD.1,blk aC [aK,sl aZ K.i aM,J K.j,J K.on,aL] 68]) [0,1] U ?_
 intro _ aa aD w e _ ab
 refine gS<|S<|Y U<|Y U<|gB U<|gsd 34 U (λac=>?_) λac=>?_
 refine gct U<|gSk<|gS<|gBk<|gS<|S<|gF lC U<|gL e 1 isAgg53 U<|Y U<|gg λaN aO aI=>?_
 obtain ⟨ae,af,rfl⟩:=jA aF aI
 obtain ⟨aP,aQ,aR⟩:=nO aF aI
 refine gI lh aO (jx aI) U<|gY (yn (aQ.mono e.lez) isAgg65 sizeOf65 U)<|gC e U call68 (xj _ aN aP<|e.now aR) λah _ w e=>gA U<|S<|Y U<|gB U<|gJ e (λaE=>[(2,J i_),(7,L),(8,pV aC),(9,J aD.2)]) (λaE=>[owm L aE,blk aC [aK,sw ae af K.i aM,J K.j,J K.on,aL] 68]) (λaE=>?_) ?_
 refine gsd 44 U (λai=>?_) λai=>?_
 refine gct U<|gR<|Y U<|Y U<|gf0 U (λa hf=>cc3 (β:=Bool) (key:=ah) 0 underlying3 underlying57 hf e U U U U U) ?_
 rintro _ w e
 exact gE<|gz e [0,1] U
 exact gcf U<|gSk<|gz e [0,1] U
 intro aE w e
 refine gR<|Y U<|gF lC U<|gL e 1 isAgg53 U<|Y U<|gI lh aO (jx aI) U<|gF ml U<|gY (yl isAgg54 ((aQ.mono e.lez).cell (j:=2) U) U) ?_
 obtain ⟨aj,a4,a3,_,ak⟩:=e.take2 (L1:=[_]) (L2:=[_]) [0] [1] (dt U) U U
 refine gCg U call133 (x8 _ aj aE L aN.A aP (GT.mono a4 aR) a3 ) ?_
 rintro _ _ _ w ⟨rfl,hB⟩
 replace e:=ak _ _ hB;clear hB
 exact gR<|Y U<|gB U<|gA U<|gE<|gze e [0,1] U
 exact gcf U<|gXt<|gHh<|gLp ab aa<|gz e [0] U
 intro aH w e
 exact S<|Y U<|gA U<|gq U U ⟨L,U,e.d [0] U⟩
theorem xX (w0:World) (c_:jv) (v1:Value) (h1:rp w0 v1 c_.b) :
    k6 Tryz.prog 28 [.agg #[J c_.P,J c_.r,v1]] w0 (oV c_) λr v w'=>∃ (b1:Nat) (x3:Value) (x4:Value),v=(pV b1)/\Mem w0 (hp w0) w' [blk b1 [J r.c.P,J r.c.r,v1,x3,x4] 61,ow [x3] r.i,ow [x4] r.g]:=by
 unfold oV
 refine kQ func28 U λr e=>?_
 refine S<|gBx e U λaI w e=>gA U<|gS<|gW (.p 1<|.q 0<|.e 2 (.p 3<|.e 4 (.p 5<|.e 6 (.p 7 .fin) .nil) .nil) .nil) [2,4] [1,3,5,7] e [0] [blk aI [J c_.P,J c_.r,v1] 41] U mxo (by kernel_rfl) (λ_ _ _ h=>h.2) λw e hS=>uF kM U U<|tQ U hS (λw e=>yn (e.blk_at 0 U) isAgg41 sizeOf41 U)<|tO<|tY U (yL e 0 isAgg39 U)<|tAs hS ?_
 obtain ⟨aJ,aD,rfl,_⟩:=ju h1
 refine tP U (λw=>yV kZ U)<|tO<|gb λaA ay=>?_
 obtain ⟨⟨az,bA⟩,ap⟩:=lU.1 ay
 refine tf U U (λa K=>ni (x0:=((jw.mk0:jw Bool):jw Bool)) dc0 (λ_=>wX.2<|.inl ⟨U,U⟩) K e U U U az (Int.le_refl _) bA) ?_
 rintro _ w e
 rw [ap] at e
 have aU:(aA.length:Int)=(c_.b.length:Int):=by rw [<- ap];simp only [List.length_replicate];omega
 refine tAk e [1] U λhS=>?_
 obtain ⟨aE,aC,rfl,_⟩:=ju<|e.ow_rep 0 U
 let N:=sl aJ c_.b aD
 let M:=J c_.P
 let H:=sl aE aA aC
 let L:=J c_.r
 refine tP U (λw=>yG U<|mV (vs:=[(0,.agg #[M,L,N]),(1,H)]) (cs:=#[M,L,N,H,nS]) U U (by kernel_rfl))<|tO<|tf U U (λa K=>br4 K e U U U) ?_
 rintro _ w ⟨W,rfl,e⟩
 refine tAn U<|uA U U<|tE<|gS<|S<|gF kM U<|gL e 2 isAgg39 U<|gY (yV kZ U)<|Y U<|gBk ?_
 replace e:=e.nilow (α:=List Int)
 let a2:=blk aI [M,L,N] 41
 refine gNg (λac aW a w=>∃ (aQ:Value),St 82 [(1,pV aI),(3,pV W),(19,J<|(c_.b.length:Int)),(20,J ac)] w0 (hp w0) [a2,blk W [M,L,N,H,aQ] 61,os aE aA aC,ow [aQ] aW] a w) (λa K=>⟨nS,K.sb U,e.d [3,1,2,0] U⟩) ?_ ?_
 rintro _ _ ac aW a w ⟨aQ,K,e⟩ _ _ _ _
 refine gv K<|S<|gB U<|gS<|lT 21 U U<|S<|Y U<|gA U<|gW (.p 0<|.p 1<|.p 2<|.p 3<|.p 6<|.q 4<|.e 5 (.e 7 (.e 8 (.e 9 (.p 10<|.p 11<|.e 12 .fin .nil) .nil) .nil) .nil) .nil) [5,7,8] [0,1,2,3,6,10,11] e [0,1,2,3] [a2,blk W [M,L,N,H,aQ] 61,os aE aA aC,ow [aQ] aW] U mxo (by kernel_rfl) (λ_ _ _ h=>h.2) λw e hS=>uM U U<|uM U U<|tP U (λw=>yG U<|kW U U)<|uF ah9 U U<|uM U U<|tQ U hS (λw e=>yL e 1 isAgg59 U)<|tO<|tY U (yn (e.blk_at 0 U) isAgg41 sizeOf41 U)<|tAs hS<|tO<|gb λaR bB=>tf U U (λa K=>ki K U call62 U<|nm _ c_ N (e.now h1) ac _ bB) ?_
 rintro _ w ⟨_,rfl,hB⟩
 replace e:=e.give hB
 refine tAk e [1,2,3,4] U λhS=>tO ?_
 obtain ⟨ae,af,rfl,_⟩:=ju<|e.ow_rep 0 U
 let a1:=sl ae aR af
 refine tf U U (λa K=>kj (vs:=#[(0,a1)]) (cs:=[a1]) aw0 K e U U (by kernel_rfl) U U) ?_
 rintro _ w ⟨_,rfl,e⟩
 replace e:=e.els_nil (α:=List Int)
 replace e:=e.imp (c':=ow [a1] (aR:List Int)) 2 U λF h0=>h0
 replace e:=(e.els_cons 0 2 (dt U) U U).d [0,1,3,4,5,6] U
 replace e:=(e.lit_els 1 0 (dt U) U U U U).d [1,2,3,4,5] U
 refine tAk e [1,2,3,4] U λhS=>tO<|gb λ_ bC=>?_
 obtain ⟨bD,bE⟩:=kP.1 bC
 replace e:=(e.both 4 0 (dt U) U U).d [1,2,3,4] U
 refine tf U U (λa K=>lW (xs:=aW) (ys:=([aR]:List (List Int))) 3 aw0 K e U U U U bD) ?_
 rintro bF w e
 rw [bE] at e
 refine tAn U<|tP U (λw=>yG U<|kW U U)<|uF ah9 U U<|tO<|tf0 U U (λa K=>qm 1 K e U sizeOf59 U U U (kF<|e.ow_rep 3 U) U) ?_
 rintro _ w e
 exact tAn U<|tE<|gR<|gp U<|Y U<|gE<|gZe λa K=>⟨bF,K.sb U,e.d [0,1,2,3] U⟩
 rintro _ aB a w ⟨_,K,e⟩ _ _
 refine gv K<|S<|gB U<|gS<|lF 21 U U<|gHh<|gS<|S<|gA U ?_
 obtain ⟨aG,aH,rfl,_⟩:=ju<|e.ow_rep 3 U
 let a0:=sl aG aB aH
 let a3:=blk W [M,L,N,H,a0] 61
 let O:=os aG aB aH
 refine gJ e (λaX=>[(3,pV W)]) (λaX=>[a3,ow [H] aX,O]) (λaX=>?_) ?_
 refine gBk<|gMf e (λaY=>[(1,pV aI),(3,pV W),(5,.bool aY.2)]) (λaY=>[a2,a3,ow [H] aY.1,O]) [0,1,2,3] U ?_
 intro _ bG aY w e _ bH
 refine gS<|S<|Y U<|gs 36 U (λbJ=>?_) λbJ=>?_
 refine gct U<|gSk<|gBk<|S<|gA U<|S<|gF kM U<|gL e 0 isAgg39 U<|gY (yV kZ U)<|gY (yS (by omega) (by omega) U)<|gA U<|gJ e (λaS=>[(1,(pV aI)),(3,(pV W)),(5,(.bool aS.2))]) (λaS=>[blk aI [M,L,N] 41,blk W [M,L,N,H,a0] 61,ow [H] aS.1,O]) (λaS=>?_) ?_
 refine gBk<|gMf e (λaK=>[(1,pV aI),(3,pV W),(5,.bool aK.2.1),(6,J aK.2.2)]) (λaK=>[a2,a3,ow [H] aK.1,O]) [0,1,2,3] U ?_
 intro _ bK aK w e _ bL
 refine gS<|S<|Y U<|gB U<|gsd 42 U (λbM=>?_) λbM=>?_
 refine gct U<|gSk<|gS<|gJ e (λaT=>[(1,pV aI),(3,pV W),(5,.bool aT.2),(6,J aK.2.2)]) (λaT=>[a2,a3,ow [H] aT.1,O]) (λaT=>?_) ?_
 refine gBk<|S<|Y U<|Y U<|gCg U call63 (wt _ (⟨c_,aK.1,aB⟩:yy) W N (e.now h1) H (e.ow_rep 2 U) a0 (e.ow_rep 3 U) (e.blk_cells 1 U).1 aK.2.2<|-1) ?_
 rintro _ _ aM w ⟨_,rfl,hB⟩
 replace e:=e.give hB
 refine gA U<|gS<|S<|gF kM U<|gL e 1 isAgg39 U<|Y U<|gg λaq bN ah=>?_
 obtain ⟨aN,aO,rfl⟩:=jA h1 ah
 obtain ⟨_,_,_,bO,ai,_,_⟩:=k4 h1 ah
 refine gI kZ bN (jx ah) U<|gF ko U<|gY (yl isAgg66 ((bO.mono e.lez).cell (j:=0) U) U) ?_
 obtain ⟨bP,bQ,rfl,_⟩:=ju ai
 let a9:=sw aN aO c_.b aD
 let a8:=blk aI [M,L,a9] 41
 let a5:=blk W [M,L,a9,H,a0] 61
 refine gY (yV lY U)<|Y U<|gBk<|gNf e (λaj ak=>[(1,pV aI),(3,pV W),(5,.bool aK.2.1),(6,J aK.2.2),(7,aM),(53,sl bP aq.a bQ),(54,J<|(aq.a.length:Int)),(55,J aj)]) (λaj ak=>[a8,a5,ow [H] aK.1,O,owm aM ak]) [1,2,3,4,0] U ?_ ?_
 intro _ _ aj ak w e _ _ _ _
 refine S<|gB U<|gS<|lT 56 U U<|S<|gg λbR bS al=>?_
 obtain ⟨_,_,rfl⟩:=jA ai al
 obtain ⟨_,bT,bU⟩:=mP ai al
 refine gI lY bS (jx al) U<|gY (yn (bT.mono e.lez) isAgg80 sizeOf80 U)<|gAl e zeroValue80 U λ_ w e=>gSN e 0 sizeOf80 (Z U<|Z (kF bU) kE) U λw e=>gR<|Y U<|gF oH U<|gL e 0 isAgg3 U<|gf0 U (λa K=>cc3 (β:=Bool) (key:=bR.to) 5 underlying3 underlying57 K e U U U U U) ?_
 rintro _ w e
 exact gR<|gp U<|Y U<|gE<|gze e [1,2,3,4,5] U
 intro _ aP w e _ _
 refine S<|gB U<|gS<|lF 56 U U<|gHh<|gS<|gW (.p 0<|.p 2<|.p 3<|.p 4<|.p 6<|.q 1<|.e 5 (.p 7<|.e 8 (.e 9 (.p 10 .fin) .nil) .nil) .nil) [5,8] [0,2,3,4,6,7,10] e [0,1,2,3,4] [a8,a5,ow [H] aK.1,O,owm aM aP] U mxo (by kernel_rfl) (λ_ _ _ h=>h.2) λw e hS=>uM U U<|uM U U<|tP U (λw=>yG U<|kW U U)<|uF zJ U U<|uM U U<|tQ U hS (λw e=>yG U<|cb8 (m:=(aP:jw Bool)) underlying57 (e.owm_rep 4 U) U U)<|tO<|tY U (yL e 1 isAgg58 U)<|tAs hS<|gg λam ar aL=>?_
 obtain ⟨aZ,aa,rfl⟩:=jA (e.ow_rep 2 U) aL
 obtain ⟨_,_,an,bV⟩:=kn (e.ow_rep 2 U) aL
 have ab:=bV
 obtain ⟨au,rfl,-⟩:=id ab
 replace ab:GT.rep (hp _) [au] am:=ab
 replace an:kS (hp _) aZ (aa+aK.2.2.toNat*1) [au]:=an
 have a6:=kB<|e.ow_rep 2 U
 refine tP U (λw=>yI bg3 ar (kL aL a6) U)<|tO<|tY U (yl isAgg57 (an.cell (j:=0) U) U)<|tAs hS<|tO<|tY U (yG U<|cb8 (m:=(am:jw Bool)) underlying57 ab U U)<|tAn U<|uB U U<|tE<|gJ e (λaV=>[(1,pV aI),(3,pV W),(5,.bool aV.2),(6,J aK.2.2)]) (λaV=>[a8,blk W [M,L,a9,sw aZ aa aA aC,a0] 61,ow [sw aZ aa aA aC] aV.1,O]) (λaV=>?_) ?_
 refine gsd 73 U (λbW=>?_) λbW=>?_
 refine gct U<|gR<|Y U<|gY (yG U<|kW U U)<|gF zJ U<|gL e 1 isAgg58 U<|Y U<|Y U ?_
 obtain ⟨_,_,_,bX⟩:=kn (e.ow_rep 2 U) aL
 have ao:=bX
 obtain ⟨_,rfl,-⟩:=id ao
 have a7:=kB<|e.ow_rep 2 U
 refine gI bg3 ar (kL aL a7) U ?_
 have bY:=xp e 4 U
 let a4:=ow [aM] (aP:jw Bool)
 replace e:=e.imp (c':=a4) 4 U λF h0=>xw h0
 replace e:=e.imp (c':=a4) 4 U λF h0=>h0
 replace e:=(e.both 2 4 (dt U) U U).d [0,1,2,3] U
 refine gf0 U (λa K=>sO (x1:=(aP:jw Bool)) (vs:=[aM]) 2 K e U aL U sizeOf57 U U bY U) ?_
 rintro _ w e
 exact gA U<|gE<|gz e [0,1,2,3] U
 exact gcf U<|gSk<|gz e [0,1,2,3] U
 intro aV w e
 exact gz e [0,1,2,3] U
 intro aT w e
 exact gR<|Y U<|gB U<|gA U<|gE<|gze e [0,1,2,3] U
 exact gcf U<|gXt<|gHh<|gLp bL bK<|gz e [0,1,2,3] U
 intro aS w e
 exact gze e [0,1,2,3] U
 exact gcf U<|gXt<|gHh<|gLp bH bG<|gz e [1,2,3] U
 intro aX w e
 exact S<|Y U<|gA U<|gq U U ⟨W,H,a0,U,e.d [0,1,2] U⟩
theorem rF (K:World) (m:jw Bool) (M:Value) (h1:rp K M m) :
    k6 Tryz.prog 27 [M] K (mA m) λr v w'=>∃ (x1:Value),v=x1/\Mem K (hp K) w' [ow [x1] r]:=by
 unfold mA
 rw [<- bl4]
 refine kQ func27 U λr e=>?_
 refine S<|gA U<|S<|gA U<|gS<|S<|Y U<|gf U (λa H=>zY (m:=(m:jw Bool)) H e underlying56 h1 U U) ?_
 rintro _ w ⟨aC,rfl,e⟩
 refine gBk ?_
 replace e:=e.nilow (α:=Int)
 refine cy6 (m:=(m:jw Bool)) (λxs ys h=>by simp only [bp3 h]) h1 (λaD aE a w=>∃ (W:Value),St 18 [(3,W),(6,pV aC)] K (hp K) [ow [W] aE,itc (hp K) M aC aD] a w) (λa H=>⟨nS,H.sb U,e.d [0,1] U⟩) ?_ ?_
 rintro aD aE a w ⟨W,H,e⟩ O
 refine gv (m:=some ()) (r:=()) H ?_ U
 refine S<|gf U (λa H=>aj0 1 H e U O U U) ?_
 rintro _ w ⟨_,N,_,rfl,aF,aG,e⟩
 refine gSw aF<|gX U<|gS<|gct U<|gSk<|gBk<|S<|gY (yG U<|zl 1 e U aG U U)<|gX U<|gA U<|gR<|Y U<|Y U<|gf U (λa H=>kj (vs:=#[(0,J N.1)]) (cs:=[J N.1]) kg H e U U (by kernel_rfl) U U) ?_
 rintro _ w ⟨_,rfl,e⟩
 replace e:=e.lit (xs:=([N.1]:List Int)) 0 U U U U
 refine gb λ_ aH=>?_
 obtain ⟨aI,aJ⟩:=kP.1 aH
 refine gf U (λa H=>kz 1 kg H e U (e.ow_rep 0 U) U U U aI) ?_
 rintro aK w e
 rw [aJ] at e
 exact gA U<|gE<|gZr aG aF λa H=>⟨aK,H.sb U,e.d [1,2] U⟩
 rintro _ _ a w ⟨aL,H,e⟩ L hk
 refine gv H ?_ hk
 refine S<|gY (yG U<|ai0 1 e U L U U)<|gX U<|gS<|gcf U<|gXt<|gHh<|S<|Y U<|gf U (λa H=>ki H U call61 U<|bg1 lays189 e 0 U) ?_
 rintro _ w ⟨rfl,e⟩
 exact S<|Y U<|gA U<|gq U U ⟨aL,U,e.d [0] U⟩
theorem qg (L:World) (H:List jq) (v1:Value) (h1:rp L v1 H) (f:jq->Option jq) (M:Value) (W:∀ (w:World) (O:jq) (z1:Value) (_:GT.rep (hp w) [z1] O.a) (z2:Value) (_:GT.rep (hp w) [z2] O.i) (z3:Value) (_:GT.rep (hp w) [z3] O.n) (r:jq),Below L.heap.size L w->f O=some r->w5 Tryz.prog M [.agg #[z1,z2,J O.j,J O.on,z3]] w (λv w'=>∃ (x1:Value) (x2:Value) (x3:Value),v=(.agg #[x1,x2,J r.j,J r.on,x3])/\Mem w (hp w) w' [ow [x1] r.a,ow [x2] r.i,ow [x3] r.n])) :
    k6 Tryz.prog 64 [v1,M] L (mH H f) λr v w'=>∃ (x1:Value),v=x1/\Mem L (hp L) w' [ow [x1] r]:=by
 unfold mH
 refine kQ func64 U λr e=>?_
 refine S<|gA U<|S<|gA U<|gS<|S<|Y U ?_
 obtain ⟨aL,aM,rfl,_⟩:=ju h1
 refine gY (yV kZ U)<|Y U<|gBk ?_
 replace e:=e.nilow (α:=jq)
 refine gNg (λaE aB a w=>∃ (aC:Value),St 22 [(1,M),(5,aC),(8,sl aL H aM),(9,J<|(H.length:Int)),(10,J aE)] L (hp L) [ow [aC] aB] a w) (λa K=>⟨nS,K.sb U,e.d [0] U⟩) ?_ ?_
 rintro _ _ aE aB a w ⟨aC,K,e⟩ _ _ _ _
 refine gv K<|S<|gB U<|gS<|lT 11 U U<|S<|gg λaN aO aD=>?_
 obtain ⟨_,_,rfl⟩:=jA h1 aD
 obtain ⟨aP,aQ,aR,aS,aF,aG,aH⟩:=k4 h1 aD
 refine gI kZ aO (jx aD) U<|gY (yn (aS.mono e.lez) isAgg68 sizeOf68 U)<|gAl e zeroValue68 U λ_ w e=>gSN e 0 sizeOf68 (Z (kF aF)<|Z (kF aG)<|Z U<|Z U<|Z (kF aH) kE) U λw e=>gR<|Y U<|Y U<|gY (yn (e.blk_at 0 U) isAgg68 sizeOf68 U)<|gb λN aT=>gf U (λa K=>nC K U U U<|W _ aN aP (e.now aF) aQ (e.now aG) aR (e.now aH) _ e.below aT) ?_
 rintro _ w ⟨aI,aJ,aK,rfl,hB⟩
 replace e:=e.give hB
 refine gf U (λa K=>kj (vs:=#[(0,.agg #[aI,aJ,J N.j,J N.on,aK])]) (cs:=[aI,aJ,J N.j,J N.on,aK]) zu K e U U (by kernel_rfl) U U) ?_
 rintro _ w ⟨_,rfl,e⟩
 replace e:=e.els_nil (α:=jq)
 replace e:=(k9 N.j N.on e 2 3 4 U).d [0,1,2,5,6] U
 replace e:=(e.els_cons 0 2 (dt U) U U).d [0,1,3,4] U
 replace e:=(e.lit_els 1 0 (dt U) U U U U).d [1,2,3] U
 refine gb λ_ aV=>?_
 obtain ⟨aW,aX⟩:=kP.1 aV
 replace e:=(e.both 2 0 (dt U) U U).d [1,2] U
 refine gf U (λa K=>lW (xs:=aB) (ys:=([N]:List jq)) 1 zu K e U U U U aW) ?_
 rintro aY w e
 rw [aX] at e
 exact gA U<|gR<|gp U<|Y U<|gE<|gZe λa K=>⟨aY,K.sb U,e.d [1] U⟩
 rintro _ _ a w ⟨aZ,K,e⟩ _ _
 exact gv K<|S<|gB U<|gS<|lF 11 U U<|gHh<|S<|Y U<|gA U<|gq U U ⟨aZ,U,e.d [0] U⟩
theorem uk (K:World) (H:jv) (L:Value) (h1:rp K L H.b) :
    k6 Tryz.prog 29 [.agg #[J H.P,J H.r,L]] K (om H) λr v w'=>∃ (x1:Value),v=(.agg #[J r.P,J r.r,x1])/\Mem K (hp K) w' [ow [x1] r.b]:=by
 unfold om
 refine kQ func29 U λr e=>?_
 refine S<|gBx e U λ_ w e=>gAl e zeroValue41 U λ_ w e=>S<|gF kM U<|gL e 1 isAgg39 U<|gCg U call64 (qg _ H.b L (e.now h1) (λM=>mr M) (.func (.func 65) #[] #[]) λw M aA aB aC W O aF r N hq=>⟨65,[],U,call65,tw w M aA aB aC W O aF  r hq⟩) ?_
 rintro _ _ aG w ⟨_,rfl,N⟩
 replace e:=e.give N
 exact gF kM U<|gS1 e 2 sizeOf39 (kF<|e.ow_rep 0 U) U λw e=>S<|gY (yn (e.blk_at 2 U) isAgg41 sizeOf41 U)<|gSN e 1 sizeOf41 (Z U<|Z U<|Z (kF<|e.ow_rep 0 U) kE) U λw e=>gRt<|grc 1 results29 e U isAgg41 sizeOf41 ⟨aG,U,e.d [0] U⟩
theorem rU (L:World) (M:jv) (v1:Value) (h1:rp L v1 M.b) (not:Int) :
    k6 Tryz.prog 67 [.agg #[J M.P,J M.r,v1],J not] L (mL M not) λr v w'=>∃ (x1:Value),v=x1/\Mem L (hp L) w' [ow [x1] r]:=by
 unfold mL
 refine kQ func67 U λr e=>?_
 refine S<|gBx e U λaD w e=>gA U<|gE<|S<|gF kM U<|gL e 0 isAgg39 U ?_
 obtain ⟨aL,aM,rfl,_⟩:=ju h1
 refine gY (yV kZ U)<|gb λaA aY=>?_
 obtain ⟨⟨aZ,aa⟩,aV⟩:=lU.1 aY
 refine gf U (λa H=>ni (x0:=(false:Bool)) uh (λ_=>(Flat.own_iff.2 U)) H e U U U aZ (Int.le_refl _) aa) ?_
 rintro _ w e
 rw [aV] at e
 have a0:(aA.length:Int)=(M.b.length:Int):=by rw [<- aV];simp only [List.length_replicate];omega
 refine gA U<|gE<|S<|gf U (λa H=>kj (vs:=#[(0,J 0)]) (cs:=[J 0]) kg H e U U (by kernel_rfl) U U) ?_
 rintro _ w ⟨ab,rfl,e⟩
 replace e:=e.lit (xs:=([0]:List Int)) 0 U U U U
 refine gA U<|gE<|gS ?_
 obtain ⟨aB,aC,rfl,_⟩:=ju<|e.ow_rep 1 U
 let K:=sl aB aA aC
 refine gJ e (λaF=>[(5,K)]) (λaF=>[ow [K] aF]) (λaF=>?_) ?_
 let O:=blk aD [J M.P,J M.r,sl aL M.b aM] 41
 refine gBk<|gMg (λaE a w=>∃ (aN:Value),St 48 [(1,(J not)),(2,pV aD),(5,K),(6,aN)] L (hp L) [O,ow [K] aE.1,ow [aN] aE.2] a w) (λa H=>⟨sV ab 0 1 1,H.sb U,e.d [2,1,0] U⟩) ?_
 rintro _ ac aE a w ⟨aN,H,e⟩ _ ae
 refine gv H<|gS<|S<|Y U ?_
 obtain ⟨_,af,rfl,_⟩:=ju<|e.ow_rep 2 U
 refine gY (yV kI U)<|gB U<|gE<|gsd 15 U (λah=>?_) λah=>?_
 refine gct U<|gSk<|gJg (λaG a w=>∃ (aH:Value),St 48 [(1,(J not)),(2,pV aD),(5,K),(6,aH)] L (hp L) [O,ow [K] aG.1,ow [aH] aG.2] a w) (λaG=>?_) ?_
 refine gBk<|S<|Y U<|Y U<|gY (yV kI U)<|gY (yS (by omega) (by omega) U)<|gg λaW ai aO=>?_
 obtain ⟨aj,ak,rfl⟩:=jA (e.ow_rep 2 U) aO
 refine gI kI ai (jx aO) U<|gY (yl isAgg3 ((kC (cs:=[J aW]) (e.ow_rep 2 U) aO U).cell (j:=0) U) U)<|gA U<|gE<|S<|Y U<|Y U<|gY (yV kI U)<|gY (yS (by omega) (by omega) U)<|gb λaP al=>?_
 obtain ⟨am,aX⟩:=oN.1 al
 have an:=(e.ow_rep 2 U)
 obtain ⟨aI,aQ⟩:∃ nv,nv=sj (GT.sz Int) (sw aj ak aE.2 af) (0:Int).toNat (((aE.2.length:Int)) - 1:Int).toNat:=⟨_,U⟩
 refine gY (yG U<|ae5 aQ<|bl2 (α:=Int) kI an U U U am _)<|gA U<|gE<|gS<|gS<|gJg (λaR a w=>∃ (aJ:Value),St 48 [(1,(J not)),(2,pV aD),(5,K),(6,aJ),(7,J aW),(35,.bool aR)] L (hp L) [O,ow [K] aE.1,ow [aJ] aP] a w) (λaR=>?_) ?_
 refine gR<|Y U<|Y U<|gB U<|Y U<|gsd 30 U (λao=>?_) λao=>?_
 refine gO U<|gO U<|gO U<|gO U<|gKt U<|gE ?_
 replace e:=e.imp (c':=ow [aI] aP) 2 U (λF h0=>by rw [aQ,<- aX];exact vw h0 (by omega) (by omega))
 exact gZ λa H=>⟨aI,H.sb U,e.d [0,1,2] U⟩
 refine Y U<|Y U<|gg λap aq aS=>?_
 obtain ⟨_,_,rfl⟩:=jA (e.ow_rep 1 U) aS
 have N:=kB<|e.ow_rep 1 U
 refine gI mK aq (kL aS N) U<|gY (yl isAgg4 ((kC (cs:=[.bool ap]) (e.ow_rep 1 U) aS U).cell (j:=0) U) U)<|gKf U<|gE ?_
 replace e:=e.imp (c':=ow [aI] aP) 2 U (λF h0=>by rw [aQ,<- aX];exact vw h0 (by omega) (by omega))
 exact gZ λa H=>⟨aI,H.sb U,e.d [0,1,2] U⟩
 rintro aR a w ⟨aJ,H,e⟩
 refine gv H<|gs 35 U (λar=>?_) λar=>?_
 exact gct U<|gXt<|gHh<|gZ λa H=>⟨aJ,H.sb U,e.d [0,1,2] U⟩
 refine gcf U<|gSk<|S<|Y U<|Y U<|gg λ_ au aK=>?_
 obtain ⟨_,_,rfl⟩:=jA (e.ow_rep 1 U) aK
 have W:=kB<|e.ow_rep 1 U
 refine gI mK au (kL aK W) U<|gf0 U (λa H=>lI (x1:=true) (j:=0) (vs:=[.bool true]) 1 H e U aK U sizeOf4 U U U (Z U kE) U U) ?_
 rintro _ w e
 refine gE<|gR<|Y U<|gF kM U<|gL e 0 isAgg39 U<|Y U<|gg λ_ aw aT=>?_
 obtain ⟨_,_,rfl⟩:=jA h1 aT
 obtain ⟨_,_,_,ax,_,_,ay⟩:=k4 h1 aT
 refine gI kZ aw (jx aT) U<|gF lb U<|gY (yl isAgg54 ((ax.mono e.lez).cell (j:=4) U) U)<|gb λ_ az=>?_
 obtain ⟨bA,bB⟩:=kP.1 az
 refine gf U (λa H=>kz 2 kg H e U (e.now ay) U U U bA) ?_
 rintro bC w e
 rw [bB] at e
 exact gA U<|gE<|gZ λa H=>⟨bC,H.sb U,e.d [0,1,2] U⟩
 rintro aG a w ⟨aH,H,e⟩
 exact gv H<|gZe λa H=>⟨aH,H.sb U,e.d [0,1,2] U⟩
 exact gcf U<|gXt<|gHh<|gLp ae ac<|gz e [1] U
 intro aF w e
 exact S<|Y U<|gA U<|gE<|gy U U ⟨K,U,e.d [0] U⟩
theorem qL (w0:World) (K:jv) (v1:Value) (h1:rp w0 v1 K.b) :
    k6 Tryz.prog 30 [.agg #[J K.P,J K.r,v1]] w0 (rM K) λr v w'=>(r=none/\v=.pointer none/\Below w0.heap.size w0 w')\/∃ q,r=some q/\(∃ (b1:Nat) (x3:Value) (x4:Value),v=(pV b1)/\Mem w0 (hp w0) w' [blk b1 [J q.c.P,J q.c.r,v1,x3,x4] 101,ow [x3] q.o,ow [x4] q.I]):=by
 unfold rM
 refine kQ func30 U λr e=>?_
 refine S<|gBx e U λaF w e=>gA U<|gS<|S<|gY (yn (e.blk_at 0 U) isAgg41 sizeOf41 U)<|gC e U call66 (wb _ K v1<|e.now h1) λ_ _ w e=>gN U<|gsn 10 U (λal=>?_) λal=>?_
 exact gct U<|S<|gA U<|gRt<|gr1 results30 U<|.inl ⟨U,U,e.below⟩
 let N:=J K.P
 let L:=J K.r
 refine gcf U<|gSk<|gS<|gW (.q 0<|.e 1 (.e 2 (.p 3<|.e 4 (.p 5 .fin) .nil) .nil) .nil) [1,2] [3,5] e [0] [blk aF [N,L,v1] 41] U mxo (by kernel_rfl) (λ_ _ _ h=>h.2) λw e hS=>tQ U hS (λw e=>yn (e.blk_at 0 U) isAgg41 sizeOf41 U)<|tO<|tY U (yn (e.blk_at 0 U) isAgg41 sizeOf41 U)<|tAs hS<|tO<|gb λaA am=>tf U U (λa H=>ki H U call67 U<|rU _ K v1 (e.now h1) (-1) _ am) ?_
 rintro _ w ⟨_,rfl,hB⟩
 replace e:=e.give hB
 refine tAk e [1] U λhS=>?_
 obtain ⟨aB,aC,rfl,_⟩:=ju h1
 obtain ⟨aN,aD,rfl,_⟩:=ju<|e.ow_rep 0 U
 let a1:=sl aB K.b aC
 let W:=sl aN aA aD
 refine tP U (λw=>yG U<|mV (vs:=[(0,.agg #[N,L,a1]),(2,W)]) (cs:=#[N,L,a1,nS,W]) U U (by kernel_rfl))<|tO<|tf U U (λa H=>br4 H e U U U) ?_
 rintro _ w ⟨aG,rfl,e⟩
 refine tAn U<|uA U U<|tE<|gS<|S<|gF kM U<|gL e 2 isAgg39 U<|gY (yV kZ U)<|Y U<|gBk ?_
 replace e:=e.nilow (α:=List Bool)
 refine gNg (λaJ aE a w=>∃ (aO:Value),St 71 [(1,pV aF),(3,pV aG),(18,J<|(K.b.length:Int)),(19,J aJ)] w0 (hp w0) [blk aF [N,L,a1] 41,blk aG [N,L,a1,aO,W] 101,ow [aO] aE,os aN aA aD] a w) (λa H=>⟨nS,H.sb U,e.d [3,1,0,2] U⟩) ?_ ?_
 rintro _ _ aJ aE a w ⟨aO,H,e⟩ _ _ _ _
 refine gv H<|S<|gB U<|gS<|lT 20 U U<|S<|Y U<|gA U<|S<|gF kM U<|gL e 0 isAgg39 U<|gY (yV kZ U)<|gb λaI an=>?_
 obtain ⟨⟨ao,ap⟩,ai⟩:=lU.1 an
 refine gf U (λa H=>ni (x0:=(false:Bool)) uh (λ_=>(Flat.own_iff.2 U)) H e U U U ao (Int.le_refl _) ap) ?_
 rintro aj w e
 rw [ai] at e
 have aU:(aI.length:Int)=(K.b.length:Int):=by rw [<- ai];simp only [List.length_replicate];omega
 refine gA U<|gS<|S<|Y U<|gY (yG U<|kW U U)<|gF r9 U<|gL e 2 isAgg97 U<|Y U<|gg λaq ar ab=>?_
 obtain ⟨aK,aL,rfl⟩:=jA (e.ow_rep 4 U) ab
 let a0:=sl aB K.b aC
 let O:=J K.P
 let a5:=blk aF [O,J K.r,a0] 41
 let a6:=J<|(K.b.length:Int)
 let a7:=ot aK aL aA aD
 refine gI mK ar (jx ab) U<|gY (yl isAgg4 ((kC (cs:=[.bool aq]) (e.ow_rep 4 U) ab U).cell (j:=0) U) U)<|gJ e (λaH=>[(1,pV aF),(3,pV aG),(5,aj),(18,a6),(19,J aJ)]) (λaH=>[a5,blk aG [O,J K.r,a0,aO,sw aK aL aA aD] 101,ow [aO] aE,a7,ow [aj] aH]) (λaH=>?_) ?_
 refine gs 32 U (λau=>?_) λau=>?_
 refine gct U<|S<|gY (yn (e.blk_at 1 U) isAgg41 sizeOf41 U)<|Y U<|gCg U call67 (rU _ K a0 (e.now h1) aJ) ?_
 rintro aM _ _ w ⟨_,rfl,hB⟩
 replace e:=e.give hB
 refine gA U<|S<|Y U ?_
 obtain ⟨aP,aQ,rfl,_⟩:=ju<|e.ow_rep 1 U
 refine gY (yV mK U)<|Y U ?_
 obtain ⟨aR,aS,rfl,_⟩:=ju<|e.ow_rep 4 U
 obtain ⟨aT,aV,rfl,_⟩:=ju<|e.ow_rep 0 U
 let a9:=blk aG [O,J K.r,a0,sl aR aE aS,sw aK aL aA aD] 101
 let a2:=sl aP aI aQ
 let a3:=J<|(aI.length:Int)
 refine gBk<|gNf e (λaW ac=>[(1,pV aF),(3,pV aG),(5,a2),(6,sl aT aM aV),(18,a6),(19,J aJ),(37,a3),(38,J aW)]) (λaW ac=>[a5,a9,os aR aE aS,a7,ow [a2] ac,os aT aM aV]) [2,3,4,5,1,0] U ?_ ?_
 intro _ _ aW ac w e _ _ _ _
 refine S<|gB U<|gS<|lT 39 U U<|S<|Y U<|gA U<|gJ e (λaX=>[(1,pV aF),(3,pV aG),(5,a2),(6,sl aT aM aV),(18,a6),(19,J aJ),(37,a3),(38,J aW)]) (λaX=>[a5,a9,os aR aE aS,a7,ow [a2] aX,os aT aM aV]) (λaX=>?_) ?_
 refine gR<|Y U<|Y U<|Y U<|gY (yG U<|kW U U)<|gF r9 U<|gL e 1 isAgg97 U<|Y U<|gg λaw ax ak=>gI mK ax (jx ak) U<|gY (yl isAgg4 ((kC (cs:=[.bool aw]) (e.ow_rep 3 U) ak U).cell (j:=0) U) U)<|Y U<|gs 50 U (λay=>?_) λay=>?_
 refine Y U<|Y U<|gg λaY az ae=>?_
 obtain ⟨_,_,rfl⟩:=jA (e.ow_rep 5 U) ae
 refine gI mK az (jx ae) U<|gY (yl isAgg4 ((kC (cs:=[.bool aY]) (e.ow_rep 5 U) ae U).cell (j:=0) U) U)<|gN U<|gKt U<|gg λ_ bA aZ=>?_
 obtain ⟨_,_,rfl⟩:=jA (e.ow_rep 4 U) aZ
 have a4:=kB<|e.ow_rep 4 U
 refine gI mK bA (kL aZ a4) U<|gf0 U (λa H=>lI (x1:=!aY) (j:=0) (vs:=[.bool<|!aY]) 4 H e U aZ U sizeOf4 U U U (Z U kE) U U) ?_
 rintro _ w e
 exact gE<|gz e [0,1,2,3,4,5] U
 refine gO U<|gO U<|gO U<|gO U<|gO U<|gKf U<|gg λ_ bB aa=>?_
 obtain ⟨_,_,rfl⟩:=jA (e.ow_rep 4 U) aa
 have a8:=kB<|e.ow_rep 4 U
 refine gI mK bB (kL aa a8) U<|gf0 U (λa H=>lI (x1:=false) (j:=0) (vs:=[.bool false]) 4 H e U aa U sizeOf4 U U U (Z U kE) U U) ?_
 rintro _ w e
 exact gE<|gz e [0,1,2,3,4,5] U
 intro aX w e
 exact gR<|gp U<|Y U<|gE<|gze e [0,1,2,3,4,5] U
 intro _ _ w e _ _
 exact S<|gB U<|gS<|lF 39 U U<|gHh<|gz e [0,1,2,3,4] U
 exact gcf U<|gSk<|gz e [1,2,3,4,0] U
 intro aH w e
 refine gR<|Y U<|Y U<|gY (yG U<|kW U U)<|gF sr U<|gL e 1 isAgg99 U<|Y U ?_
 obtain ⟨af,ah,rfl,_⟩:=ju<|e.ow_rep 4 U
 let M:=sl af aH ah
 refine gf U (λa H=>kj (vs:=#[(0,M)]) (cs:=[M]) zX H e U U (by kernel_rfl) U U) ?_
 rintro _ w ⟨_,rfl,e⟩
 replace e:=e.els_nil (α:=List Bool)
 replace e:=e.imp (c':=ow [M] (aH:List Bool)) 6 U λF h0=>h0
 replace e:=(e.els_cons 0 6 (dt U) U U).d [0,1,2,3,4,5] U
 replace e:=(e.lit_els 1 0 (dt U) U U U U).d [1,2,3,4,5] U
 refine gb λ_ bC=>?_
 obtain ⟨bD,bE⟩:=kP.1 bC
 replace e:=(e.both 3 0 (dt U) U U).d [1,2,3,4] U
 refine gf U (λa H=>lW (xs:=aE) (ys:=([aH]:List (List Bool))) 2 zX H e U U U U bD) ?_
 rintro bF w e
 rw [bE] at e
 exact gY (yG U<|kW U U)<|gF sr U<|gS1 e 1 sizeOf99 (kF<|e.ow_rep 2 U) U λw e=>gR<|gp U<|Y U<|gE<|gZe λa H=>⟨bF,H.sb U,e.d [0,1,2,3] U⟩
 rintro _ _ a w ⟨bG,H,e⟩ _ _
 exact gv H<|S<|gB U<|gS<|lF 20 U U<|gHh<|S<|Y U<|gA U<|gRt<|gr1 results30 U<|.inr ⟨_,U,⟨aG,bG,W,U,e.d [1,2,3] U⟩⟩
theorem ox (M:World) (c_:jv) (v1:Value) (h1:rp M v1 c_.b) :
    k6 Tryz.prog 31 [.agg #[J c_.P,J c_.r,v1]] M (p7 c_) λr v w'=>∃ (x1:Value),v=x1/\Mem M (hp M) w' [ow [x1] r]:=by
 unfold p7
 refine kQ func31 U λr e=>?_
 refine S<|gBx e U λ_ w e=>gA U<|S<|gF mF U<|gL e 0 isAgg3 U<|gb λaC b8=>?_
 obtain ⟨⟨b9,ba⟩,bL⟩:=lU.1 b8
 refine gf U (λa L=>ni (x0:=([]:List kf)) db0 (λ_=>ke.2<|.inl ⟨U,U⟩) L e U U U b9 (Int.le_refl _) ba) ?_
 rintro _ w e
 rw [bL] at e
 have b4:(aC.length:Int)=c_.r:=by rw [<- bL];simp only [List.length_replicate];omega
 refine gA U<|gS<|S<|gF kM U<|gL e 1 isAgg39 U ?_
 obtain ⟨bb,aN,rfl,_⟩:=ju h1
 refine gY (yV kZ U)<|Y U ?_
 obtain ⟨aE,aD,rfl,_⟩:=ju<|e.ow_rep 0 U
 let a5:=J<|(c_.b.length:Int)
 let O:=sl aE aC aD
 refine gBk<|gNf e (λH ar=>[(3,O),(15,sl bb c_.b aN),(16,a5),(17,J H)]) (λH ar=>[ow [O] ar]) [0] U ?_ ?_
 repeat clear e
 intro _ _ H ar w e _ _ _ _
 refine S<|gB U<|gS<|lT 18 U U<|S<|Y U<|gg λK bc au=>?_
 obtain ⟨aT,aV,rfl⟩:=jA h1 au
 obtain ⟨_,aO,aP,bd,ae,af,be⟩:=k4 h1 au
 refine gI kZ bc (jx au) U<|gY (yn (bd.mono e.lez) isAgg68 sizeOf68 U)<|gAl e zeroValue68 U λaI w e=>gA U<|gSN e 0 sizeOf68 (Z (kF ae)<|Z (kF af)<|Z U<|Z U<|Z (kF be) kE) U λw e=>gS<|S<|gF ko U<|gL e 0 isAgg66 U ?_
 obtain ⟨bM,aJ,rfl,_⟩:=ju ae
 let b3:=J<|(K.a.length:Int)
 let b0:=sw aT aV c_.b aN
 refine gY (yV lY U)<|Y U<|gBk<|gNf e (λah aL=>[(3,O),(4,J H),(5,pV aI),(15,b0),(16,a5),(17,J H),(23,sl bM K.a aJ),(24,b3),(25,J ah)]) (λah aL=>[ow [O] aL,blk aI [sl bM K.a aJ,aO,J K.j,J K.on,aP] 68]) [1,0] U ?_ ?_
 repeat clear e
 intro _ _ ah aL w e _ _ _ _
 refine S<|gB U<|gS<|lT 26 U U<|S<|gg λaG bf aw=>?_
 obtain ⟨aQ,aR,rfl⟩:=jA ae aw
 obtain ⟨ai,bg,bh⟩:=mP ae aw
 let a1:=sw aQ aR K.a aJ
 let aU:=blk aI [a1,aO,J K.j,J K.on,aP] 68
 refine gI lY bf (jx aw) U<|gY (yn (bg.mono e.lez) isAgg80 sizeOf80 U)<|gAl e zeroValue80 U λaj w e=>gSN e 0 sizeOf80 (Z U<|Z (kF bh) kE) U λw e=>gJ e (λak=>[(3,O),(4,J H),(5,pV aI),(15,b0),(16,a5),(17,J H),(23,a1),(24,b3),(25,J ah)]) (λak=>[ow [O] ak,aU]) (λak=>?_) ?_
 refine gW (.p 0<|.p 1<|.p 3<|.p 4<|.p 8<|.p 9<|.q 2<|.q 5<|.p 6<|.e 7 (.e 10 (.e 11 (.p 12<|.e 13 .fin .nil) .nil) .nil)<|.e 10 (.e 7 (.e 11 (.p 12<|.e 13 .fin .nil) .nil) .nil) .nil) [2,5,7,10,11] [0,1,3,4,6,8,9,12] e [0,2] [_,_] U mxo (by kernel_rfl) (λ_ _ _ h=>h.2) λw e hS=>uM U U<|uF oH U U<|uM U U<|uF oH U U<|uM U U<|tP U (λw=>yG U<|mV (vs :=[(0,(J H)),(1,(J<|-1))]) (cs :=#[J H,J<|-1]) U U (by kernel_rfl))<|tQ U hS (λw e=>yL e 0 isAgg3 U)<|tQ U hS (λw e=>yL e 0 isAgg3 U)<|gg λaW ax aH=>?_
 obtain ⟨aX,aY,rfl⟩:=jA (e.ow_rep 1 U) aH
 obtain ⟨_,_,_,bi⟩:=kn (e.ow_rep 1 U) aH
 have ay:=bi
 obtain ⟨_,rfl,-⟩:=id ay
 have a7:=kB<|e.ow_rep 1 U
 refine tP U (λw=>yI ti ax (kL aH a7) U)<|gb λaK bP=>tMo ?_ ?_
 obtain ⟨_,bj,e⟩:=e.openE 1 U aH
 have bk:=e.ow_rep 0 U
 have al:=bk
 obtain ⟨az,rfl,-⟩:=id al
 replace al:GT.rep (hp _) [az] aW:=al
 clear bj al
 replace e:Mem M (hp M) _ [ow [az] (aW:List kf),blk aj [J aG.to,ai] 80,kY aX aY aC.length aD (aL:List (List kf)) aG.to.toNat [az],aU]:=e
 replace e:=e.d [0,1,2,3] U
 refine tY U (yl isAgg74 ((e.holeE_at 2 U).cell (j:=0) U) U)<|tAk e [1,3] U λhS=>tO<|tf U U (λa L=>kj (vs:=#[(0,.agg #[J H,J<|-1])]) (cs:=[J H,J<|-1]) aw3 L e U U (by kernel_rfl) U U) ?_
 rintro _ w ⟨bl,rfl,e⟩
 replace e:=e.lit (xs:=([(⟨H,-1⟩:kf)]:List kf)) 0 U U U U
 refine tAk e [2,4] U λhS=>tO ?_
 obtain ⟨bm,bo⟩:=kP.1 bP
 refine tf U U (λa L=>kz 1 aw3 L e U (e.ow_rep 0 U) U U U bm) ?_
 rintro aZ w e
 rw [bo] at e
 refine tAk e [2,4] U λhS=>?_
 have a4:=e.holeE_len 3 U
 refine tP U (λw=>yI ti ax (kL aH a4) U)<|tO ?_
 have bQ:∀ u∈([aZ]:List Value),u.oneCell'=true:=(Z (kF<|e.ow_rep 1 U) kE)
 refine tf0 U U (λa L=>mw (j:=0) (vs:=[aZ]) 3 L e U U U sizeOf74 U U (nA<|bQ _<|List.mem_singleton.2 U) bQ U) ?_
 rintro _ w e
 replace e:Mem M (hp M) _ [ow [sV bl 0 1 1] ([(⟨H,-1⟩:kf)]:List kf),ow [aZ] aK,blk aj [J aG.to,ai] 80,kY aX aY aC.length aD (aL:List (List kf)) aG.to.toNat [aZ],blk aI [a1,aO,J K.j,J K.on,aP] 68]:=e
 refine tAn U<|tE ?_
 replace e:=e.imp (c':=ow [aZ] (aK:List kf)) 1 U λF h0=>h0
 replace e:=(e.shutE (y:=(aK:List kf)) 3 1 (dt U) U U).d [0,2,3,4] U
 exact gz e [2,3] U
 refine tO<|tf U U (λa L=>kj (vs:=#[(0,.agg #[J H,J<|-1])]) (cs:=[J H,J<|-1]) aw3 L e U U (by kernel_rfl) U U) ?_
 rintro _ w ⟨bR,rfl,e⟩
 replace e:=e.lit (xs:=([(⟨H,-1⟩:kf)]:List kf)) 0 U U U U
 refine tAk e [1,3] U λhS=>tO ?_
 obtain ⟨_,bp,e⟩:=e.openE 2 U aH
 have bq:=e.ow_rep 0 U
 have am:=bq
 obtain ⟨bA,rfl,-⟩:=id am
 replace am:GT.rep (hp _) [bA] aW:=am
 clear bp am
 replace e:Mem M (hp M) _ [ow [bA] (aW:List kf),ow [sV bR 0 1 1] ([(⟨H,-1⟩:kf)]:List kf),blk aj [J aG.to,ai] 80,kY aX aY aC.length aD (aL:List (List kf)) aG.to.toNat [bA],blk aI [sw aQ aR K.a aJ,aO,J K.j,J K.on,aP] 68]:=e
 replace e:=e.d [0,1,2,3,4] U
 refine tY U (yl isAgg74 ((e.holeE_at 3 U).cell (j:=0) U) U)<|tAk e [2,4] U λhS=>tO ?_
 obtain ⟨br,bt⟩:=kP.1 bP
 refine tf U U (λa L=>kz 0 aw3 L e U (e.ow_rep 1 U) U U U br) ?_
 rintro aa w e
 rw [bt] at e
 refine tAk e [2,4] U λhS=>?_
 have a8:=e.holeE_len 3 U
 refine tP U (λw=>yI ti ax (kL aH a8) U)<|tO ?_
 have bS:∀ u∈([aa]:List Value),u.oneCell'=true:=(Z (kF<|e.ow_rep 0 U) kE)
 refine tf0 U U (λa L=>mw (j:=0) (vs:=[aa]) 3 L e U U U sizeOf74 U U (nA<|bS _<|List.mem_singleton.2 U) bS U) ?_
 rintro _ w e
 replace e:Mem M (hp M) _ [ow [aa] aK,ow [sV bR 0 1 1] ([(⟨H,-1⟩:kf)]:List kf),blk aj [J aG.to,ai] 80,kY aX aY aC.length aD (aL:List (List kf)) aG.to.toNat [aa],blk aI [sw aQ aR K.a aJ,aO,J K.j,J K.on,aP] 68]:=e
 refine tAn U<|tE ?_
 replace e:=e.imp (c':=ow [aa] (aK:List kf)) 0 U λF h0=>h0
 replace e:=(e.shutE (y:=(aK:List kf)) 3 0 (dt U) U U).d [1,2,3,4] U
 exact gz e [2,3] U
 repeat clear e
 intro ak w e
 exact gR<|gp U<|Y U<|gE<|gze e [0,1] U
 repeat clear e
 intro _ _ w e _ _
 refine S<|gB U<|gS<|lF 26 U U<|gHh<|S<|gF lC U<|gL e 1 isAgg53 U ?_
 obtain ⟨bT,bB,rfl,_⟩:=ju af
 let a3:=J<|(c_.b.length:Int)
 let N:=sl aE aC aD
 let a6:=J<|(K.i.length:Int)
 let a2:=sw aT aV c_.b aN
 refine gY (yV lh U)<|Y U<|gBk<|gNf e (λW ab=>[(3,N),(4,J H),(15,a2),(16,a3),(17,J H),(44,sl bT K.i bB),(45,a6),(46,J W)]) (λW ab=>[ow [N] ab]) [0] U ?_ ?_
 repeat clear e
 intro _ _ W ab w e _ _ _ _
 refine S<|gB U<|gS<|go _ 47 U (decide_eq_true (by omega))<|gct U<|gSk<|gS<|gJ e (λan=>[(3,N),(4,J H),(15,a2),(16,a3),(17,J H),(44,sl bT K.i bB),(45,a6),(46,J W)]) (λan=>[ow [N] an]) (λan=>?_) ?_
 refine gBk<|S<|Y U<|gg λaM bu bC=>?_
 obtain ⟨bv,bx,rfl⟩:=jA af bC
 obtain ⟨bD,bz,bU⟩:=nO af bC
 refine gI lh bu (jx bC) U<|gY (yn (bz.mono e.lez) isAgg65 sizeOf65 U)<|gAl e zeroValue65 U λbV w e=>gA U<|gSN e 0 sizeOf65 (Z U<|Z U<|Z (kF bU)<|Z U kE) U λw e=>S<|gY (yn (e.blk_at 0 U) isAgg65 sizeOf65 U)<|gC e U call68 (xj _ aM bD<|e.now bU) λbE _ w e=>gA U<|S<|Y U<|gB U<|gJ e (λao=>[(3,N),(4,J H),(15,a2),(16,a3),(17,J H),(44,sw bv bx K.i bB),(45,a6),(46,J W)]) (λao=>[ow [N] ao]) (λao=>?_) ?_
 refine gsd 54 U (λcA=>?_) λcA=>?_
 refine gct U<|gR<|Y U<|Y U<|Y U<|Y U<|gg λbF bW aS=>?_
 obtain ⟨bG,bH,rfl⟩:=jA (e.ow_rep 1 U) aS
 obtain ⟨_,_,_,cB⟩:=kn (e.ow_rep 1 U) aS
 have bJ:=cB
 obtain ⟨_,rfl,-⟩:=id bJ
 have a0:=kB<|e.ow_rep 1 U
 refine gI ti bW (kL aS a0) U ?_
 obtain ⟨_,cC,e⟩:=e.openE 1 U aS
 have cD:=e.ow_rep 0 U
 have ap:=cD
 obtain ⟨bK,rfl,-⟩:=id ap
 replace ap:GT.rep (hp _) [bK] bF:=ap
 clear cC ap
 replace e:Mem M (hp M) _ [ow [bK] (bF:List kf),blk bV [J aM.op,J aM.to,bD,J aM.N] 65,kY bG bH aC.length aD (ab:List (List kf)) bE.toNat [bK]]:=e
 replace e:=e.d [0,1,2] U
 refine gY (yl isAgg74 ((e.holeE_at 2 U).cell (j:=0) U) U)<|Y U<|Y U<|gY (yG U<|mV (vs:=[(0,J H),(1,J W)]) (cs:=#[J H,J W]) U U (by kernel_rfl))<|gf U (λa L=>kj (vs:=#[(0,.agg #[J H,J W])]) (cs:=[J H,J W]) aw3 L e U U (by kernel_rfl) U U) ?_
 rintro _ w ⟨cE,rfl,e⟩
 replace e:=e.lit (xs:=([(⟨H,W⟩:kf)]:List kf)) 0 U U U U
 refine gb λaq cF=>?_
 obtain ⟨cG,cH⟩:=kP.1 cF
 refine gf U (λa L=>kz 1 aw3 L e U (e.ow_rep 0 U) U U U cG) ?_
 rintro ac w e
 rw [cH] at e
 have a9:=e.holeE_len 3 U
 refine gI ti bW (kL aS a9) U ?_
 have bZ:∀ u∈([ac]:List Value),u.oneCell'=true:=(Z (kF<|e.ow_rep 1 U) kE)
 refine gf0 U (λa L=>mw (j:=0) (vs:=[ac]) 3 L e U U U sizeOf74 U U (nA<|bZ _<|List.mem_singleton.2 U) bZ U) ?_
 rintro _ w e
 replace e:Mem M (hp M) _ [ow [sV cE 0 1 1] ([(⟨H,W⟩:kf)]:List kf),ow [ac] aq,blk bV [J aM.op,J aM.to,bD,J aM.N] 65,kY bG bH aC.length aD (ab:List (List kf)) bE.toNat [ac]]:=e
 refine gE ?_
 replace e:=e.imp (c':=ow [ac] (aq:List kf)) 1 U λF h0=>h0
 replace e:=(e.shutE (y:=(aq:List kf)) 3 1 (dt U) U U).d [0,2,3] U
 exact gz e [2] U
 exact gcf U<|gSk<|gz e [1] U
 repeat clear e
 intro ao w e
 exact gz e [0] U
 repeat clear e
 intro an w e
 exact gR<|gp U<|Y U<|gE<|gze e [0] U
 repeat clear e
 intro _ _ w e _ _
 exact S<|gB U<|gS<|lF 47 U U<|gHh<|gR<|gp U<|Y U<|gE<|gze e [0] U
 repeat clear e
 intro _ _ w e _ _
 exact S<|gB U<|gS<|lF 18 U U<|gHh<|S<|Y U<|gA U<|gq U U ⟨sl aE aC aD,U,e.d [0] U⟩
theorem rB (L:World) (d:ld) (W:Nat) (O:Value) (a1:rp L O d.c.b) (M:Value) (a0:rp L M d.o) (N:Value) (K:rp L N d.I) (e:(hp L) W=some (.cells ([J d.c.P,J d.c.r,O,M,N]:List Value).toArray 101 (0,0))) (b_:Int) :
    k6 Tryz.prog 70 [pV W,J b_] L (mS d b_) λr v w'=>v=(.bool (r))/\Below L.heap.size L w':=by
 unfold mS
 refine kQ func70 U λr H=>?_
 refine S<|gA U<|gS<|gJ H (λaA=>[(4,.bool aA)]) (λaA=>[]) (λaA=>?_) ?_
 refine gR<|Y U<|gY (yG U<|cv6 underlying69 U U U)<|Y U<|Y U<|Y U<|gY (yG U<|kW U U)<|gF r9 U<|gY (yl isAgg97 (H.hz_cell e U) U) ?_
 obtain ⟨_,_,rfl,_⟩:=ju K
 refine gY (yV mK U)<|gY (yS (by omega) (by omega) U)<|gC H U call78 (lu _ b_ 0<|((d.I.length:Int)) - 1) λ_ _ w H=>gKt U<|Y U<|gs 17 U (λaC=>?_) λaC=>?_
 refine Y U<|gY (yG U<|kW U U)<|gF r9 U<|gY (yl isAgg97 (H.hz_cell e U) U)<|Y U<|gg λaD aE aB=>?_
 obtain ⟨_,_,rfl⟩:=jA K aB
 exact gI mK aE (jx aB) U<|gY (yl isAgg4 ((kC (cs:=[.bool aD]) (H.now K) aB U).cell (j:=0) U) U)<|gKt U<|gA U<|gE<|gz H [] U
 exact gO U<|gO U<|gO U<|gO U<|gO U<|gO U<|gO U<|gKf U<|gA U<|gE<|gz H [] U
 intro aA w H
 exact gy U U ⟨U,H.below⟩
theorem ub (H:World) (p_:Int) (e:ld) (W:Nat) (O:Nat) (a4:Value) (a7:rp H a4 e.c.b) (a3:Value) (a2:rp H a3 e.o) (a5:Value) (a6:rp H a5 e.I) (L:(hp H) O=some (.cells ([J e.c.P,J e.c.r,a4,a3,a5]:List Value).toArray 101 (0,0))) (M:(hp H) W=some (.cells ([pV O]:List Value).toArray 69 (0,0))) (a1:Int) (a0:Nat) (N:(hp H) a0=some (.cells ([J a1]:List Value).toArray 3 (0,0))) :
    k6 Tryz.prog 141 [J p_,pV W,pV a0] H (mD p_ e a1) λr v w'=>v=(.bool (r))/\Below H.heap.size H w':=by
 unfold mD
 refine kQ func141 U λr K=>?_
 refine S<|gA U<|gS<|gW (.p 7<|.q 0<|.p 1<|.p 2<|.q 3<|.e 4 (.p 5<|.e 6 (.p 8<|.e 9 (.p 10 .fin) .nil) .nil) .nil) [4] [1,2,5,7,8,10] K [] [] U mxo (by kernel_rfl) (λ_ _ _ h=>h.2) λw K hS=>uM U U<|tQ U hS (λw K=>yl isAgg69 (K.hz_cell M U) U)<|tP U (λw=>yG U<|kW U U)<|uF sr U U<|tQ U hS (λw K=>yl isAgg99 (K.hz_cell L U) U)<|tO<|tY U (yl isAgg3 (K.hz_cell N U) U)<|tAs hS<|gg λaF aG aB=>?_
 obtain ⟨aH,aI,_,he⟩:=jy a2 aB
 subst he
 obtain ⟨_,_,aC,aJ⟩:=kn a2 aB
 have aA:=aJ
 obtain ⟨aE,rfl,-⟩:=id aA
 replace aA:GT.rep (hp H) [aE] aF:=aA
 replace aC:kS (hp H) aH (aI+a1.toNat*1) [aE]:=aC
 refine tP U (λw=>yI pR aG (jx aB) U)<|tO<|tY U (yl isAgg97 ((aC.mono K.lez).cell (j:=0) U) U)<|tAn U<|gg λaK aL aD=>?_
 obtain ⟨_,_,_,he⟩:=kG aA aD
 subst he
 exact tP U (λw=>yI mK aL (jx aD) U)<|tO<|tY U (yl isAgg4 ((kC (cs:=[.bool aK]) (K.now aA) aD U).cell (j:=0) U) U)<|tAn U<|uA U U<|tE<|gy U U ⟨U,K.below⟩
theorem vq (L:World) (d:ld) (a1:Nat) (M:Value) (a6:rp L M d.c.b) (a4:Value) (a3:rp L a4 d.o) (a7:Value) (a5:rp L a7 d.I) (K:(hp L) a1=some (.cells ([J d.c.P,J d.c.r,M,a4,a7]:List Value).toArray 101 (0,0))) (b_:Int) :
    k6 Tryz.prog 71 [pV a1,J b_] L (my d b_) λr v w'=>∃ (x1:Value),v=x1/\Mem L (hp L) w' [ow [x1] r]:=by
 unfold my
 refine kQ func71 U λr e=>?_
 refine S<|gBx e U λaA w e=>gBx e U λW w e=>gA U<|S<|gA U<|gS<|S<|gL e 1 isAgg69 U<|gY (yG U<|kW U U)<|gF r9 U<|gY (yl isAgg97 (e.hz_cell K U) U) ?_
 obtain ⟨aP,aQ,rfl,_⟩:=ju a5
 refine gY (yV mK U)<|Y U<|gBk ?_
 replace e:=e.nilow (α:=Int)
 let a0:=J<|(d.I.length:Int)
 let O:=blk aA [pV a1] 69
 let a2:=blk W [J b_] 3
 refine gNg (λN aI a w=>∃ (aD:Value),St 44 [(2,pV aA),(3,pV W),(5,aD),(11,a0),(12,J N)] L (hp L) [O,a2,ow [aD] aI] a w) (λa H=>⟨nS,H.sb U,e.d [2,1,0] U⟩) ?_ ?_
 rintro _ _ N aI a w ⟨aD,H,e⟩ _ _ _ _
 refine gv H<|S<|gB U<|gS<|go _ 13 U (decide_eq_true (by omega))<|gct U<|gSk<|gS<|gJg (λaJ a w=>∃ (aF:Value),St 44 [(2,pV aA),(3,pV W),(5,aF),(11,a0),(12,J N)] L (hp L) [O,a2,ow [aF] aJ] a w) (λaJ=>?_) ?_
 refine gBk<|S<|Y U<|gA U<|gS<|gS<|gJ e (λaG=>[(2,pV aA),(3,pV W),(5,aD),(6,J N),(11,a0),(12,J N),(29,.bool aG)]) (λaG=>[O,a2,ow [aD] aI]) (λaG=>?_) ?_
 refine gW (.p 7<|.q 0<|.p 1<|.p 2<|.q 3<|.e 4 (.p 5<|.e 6 (.p 8<|.e 9 (.p 10<|.p 11<|.e 12 (.p 13<|.p 14 .fin) .nil) .nil) .nil) .nil) [4] [1,2,5,7,8,10,11,13,14] e [0,1,2] [_,_,_] U mxo (by kernel_rfl) (λ_ _ _ h=>h.2) λw e hS=>uM U U<|tQ U hS (λw e=>yL e 0 isAgg69 U)<|tP U (λw=>yG U<|kW U U)<|uF sr U U<|tQ U hS (λw e=>yl isAgg99 (e.hz_cell K U) U)<|tO<|tY U (yL e 1 isAgg3 U)<|tAs hS<|gg λaR aS aK=>?_
 obtain ⟨aT,aV,_,he⟩:=jy a3 aK
 subst he
 obtain ⟨_,_,aL,aW⟩:=kn a3 aK
 have aE:=aW
 obtain ⟨aO,rfl,-⟩:=id aE
 replace aE:GT.rep (hp L) [aO] aR:=aE
 replace aL:kS (hp L) aT (aV+b_.toNat*1) [aO]:=aL
 refine tP U (λw=>yI pR aS (jx aK) U)<|tO<|tY U (yl isAgg97 ((aL.mono e.lez).cell (j:=0) U) U)<|tAn U<|gg λaX aY aM=>?_
 obtain ⟨_,_,_,he⟩:=kG aE aM
 subst he
 refine tP U (λw=>yI mK aY (jx aM) U)<|tO<|tY U (yl isAgg4 ((kC (cs:=[.bool aX]) (e.now aE) aM U).cell (j:=0) U) U)<|tAn U<|uM U U<|gs 25 U (λaZ=>?_) λaZ=>?_
 exact uM U U<|tO<|tY U (yL e 1 isAgg3 U)<|tAn U<|uB U U<|uT U U<|tE<|gz e [0,1,2] U
 exact tPo U U<|tO<|tEo U U<|tAn U<|tPo U U<|uK U U<|tE<|gz e [0,1,2] U
 intro aG w e
 refine gs 29 U (λaa=>?_) λaa=>?_
 exact gct U<|gXt<|gHh<|gZ λa H=>⟨aD,H.sb U,e.d [0,1,2] U⟩
 refine gcf U<|gSk<|S<|gL e 0 isAgg69 U<|gY (yG U<|kW U U)<|gF cb4 U<|gY (yn (cs:=[J d.c.P,J d.c.r,M]) (kS.part (i:=0) (e.hz_at K) U) isAgg41 sizeOf41 U)<|Y U<|gCg U call62 (nm _ d.c M (e.now a6) N) ?_
 rintro ab _ ac w ⟨_,rfl,hB⟩
 replace e:=e.give hB
 refine gY (yU U)<|gC e U call85 (lR _ ab ac (e.ow_rep 0 U) (λy0=>mD y0 d b_) (.func (.func 141) #[] #[pV aA,pV W]) λw y0 r hB hq=>⟨141,[pV aA,pV W],U,call141,ub w y0 d aA a1 M (kp (e.now a6) hB) a4 (kp (e.now a3) hB) (sl aP d.I aQ) (kp (e.now a5) hB) (e.old_later K hB) (e.blk_later 1 U hB) b_ W (e.blk_later 2 U hB) r hq⟩) λ_ _ w e=>gJg (λaN a w=>∃ (aH:Value),St 44 [(2,pV aA),(3,pV W),(5,aH),(11,a0),(12,J N)] L (hp L) [O,blk W [J b_] 3,ow [aH] aN] a w) (λaN=>?_) ?_
 refine gs 37 U (λae=>?_) λae=>?_
 refine gct U<|gR<|Y U<|Y U<|gf U (λa H=>kj (vs :=#[(0,(J N))]) (cs :=[J N]) kg H e U U (by kernel_rfl) U U) ?_
 rintro _ w ⟨_,rfl,e⟩
 replace e:=e.lit (xs:=([N]:List Int)) 0 U U U U
 refine gb λ_ af=>?_
 obtain ⟨ah,ai⟩:=kP.1 af
 refine gf U (λa H=>kz 4 kg H e U (e.ow_rep 0 U) U U U ah) ?_
 rintro aj w e
 rw [ai] at e
 exact gA U<|gE<|gZ λa H=>⟨aj,H.sb U,e.d [2,3,4] U⟩
 exact gcf U<|gSk<|gZ λa H=>⟨aD,H.sb U,e.d [1,2,3] U⟩
 rintro aN a w ⟨aH,H,e⟩
 exact gv H<|gZ λa H=>⟨aH,H.sb U,e.d [0,1,2] U⟩
 rintro aJ a w ⟨aF,H,e⟩
 exact gv H<|gR<|gp U<|Y U<|gE<|gZe λa H=>⟨aF,H.sb U,e.d [0,1,2] U⟩
 rintro _ _ a w ⟨ak,H,e⟩ _ _
 exact gv H<|S<|gB U<|gS<|lF 13 U U<|gHh<|S<|Y U<|gA U<|gq U U ⟨ak,U,e.d [2] U⟩
theorem tk (L:World) (d:ld) (K:Nat) (a1:Value) (a3:rp L a1 d.c.b) (W:Value) (a4:rp L W d.o) (a0:Value) (a5:rp L a0 d.I) (N:(hp L) K=some (.cells ([J d.c.P,J d.c.r,a1,W,a0]:List Value).toArray 101 (0,0))) (O:List Int) (v1:Value) (h1:rp L v1 O) :
    k6 Tryz.prog 32 [pV K,v1] L (l7 d O) λr v w'=>∃ (x1:Value),v=x1/\Mem L (hp L) w' [ow [x1] r]:=by
 unfold l7
 refine kQ func32 U λr e=>?_
 refine S<|gA U<|S<|gf U (λa H=>am3 (β:=Bool) e U) ?_
 rintro M w e
 refine gA U<|S<|Y U<|gCg U call69 (mW _ O v1<|e.now h1) ?_
 rintro ab _ _ w ⟨_,rfl,hB⟩
 replace e:=e.give hB
 refine gA U<|gS ?_
 obtain ⟨ac,ae,rfl,_⟩:=ju<|e.ow_rep 0 U
 refine gJ e (λaE=>[(5,M)]) (λaE=>[owm M aE]) (λaE=>?_) ?_
 refine gBk<|gMg (λaF a w=>∃ (aR:Value),St 46 [(0,pV K),(5,M),(6,aR)] L (hp L) [owm M aF.1,ow [aR] aF.2] a w) (λa H=>⟨sl ac ab ae,H.sb U,e.d [1,0] U⟩) ?_
 rintro _ af aF a w ⟨aR,H,e⟩ _ ah
 refine gv H<|gS<|S<|Y U ?_
 obtain ⟨_,ai,rfl,_⟩:=ju<|e.ow_rep 1 U
 refine gY (yV kI U)<|gB U<|gsd 15 U (λaj=>?_) λaj=>?_
 refine gct U<|gSk<|gJg (λaG a w=>∃ (aH:Value),St 46 [(0,pV K),(5,M),(6,aH)] L (hp L) [owm M aG.1,ow [aH] aG.2] a w) (λaG=>?_) ?_
 refine gBk<|S<|Y U<|gg λaS ak aT=>?_
 obtain ⟨al,am,rfl⟩:=jA (e.ow_rep 1 U) aT
 refine gI kI ak (jx aT) U<|gY (yl isAgg3 ((kC (cs:=[J aS]) (e.ow_rep 1 U) aT U).cell (j:=0) U) U)<|gA U<|S<|Y U<|gb λaX an=>?_
 obtain ⟨ao,aY⟩:=oN.1 an
 have ap:=(e.ow_rep 1 U)
 obtain ⟨aI,aV⟩:∃ nv,nv=sj (GT.sz Int) (sw al am aF.2 ai) (1:Int).toNat ((aF.2.length:Int):Int).toNat:=⟨_,U⟩
 refine gY (yG U<|ae5 aV<|az8 (α:=Int) kI ap U U U ao _)<|gA U<|gS<|S<|Y U<|Y U<|gC e U call70 (rB _ d K a1 (e.now a3) W (e.now a4) a0 (e.now a5) (e.lez _ _<|(kR.le_refl _) _ _ N) aS) λ_ _ w e=>gN U<|gsn 24 U (λaq=>?_) λaq=>?_
 refine gct U<|gXt<|gHh ?_
 replace e:=e.imp (c':=ow [aI] aX) 1 U (λF h0=>by rw [aV,<- aY];exact vw h0 (by omega) (by omega))
 exact gZ λa H=>⟨aI,H.sb U,e.d [0,1] U⟩
 refine gcf U<|gSk<|S<|Y U<|Y U<|gCg U call71 (vq _ d K a1 (e.now a3) W (e.now a4) a0 (e.now a5) (e.lez _ _<|(kR.le_refl _) _ _ N) aS) ?_
 rintro aB _ _ w ⟨_,rfl,hB⟩
 replace e:=e.give hB
 obtain ⟨aJ,aC,rfl,_⟩:=ju<|e.ow_rep 0 U
 refine gY (yV kI U)<|Y U<|gBk ?_
 replace e:=e.imp (c':=ow [aI] aX) 2 U (λF h0=>by rw [aV,<- aY];exact vw h0 (by omega) (by omega))
 let a2:=J<|(aB.length:Int)
 refine gNg (λaK aL a w=>∃ (aM:Value),St 46 [(0,pV K),(5,M),(6,aM),(27,sl aJ aB aC),(28,a2),(29,J aK)] L (hp L) [owm M aL.1,ow [aM] aL.2,os aJ aB aC] a w) (λa H=>⟨aI,H.sb U,e.d [1,2,0] U⟩) ?_ ?_
 rintro _ _ aK aL a w ⟨aM,H,e⟩ _ _ _ _
 refine gv H<|S<|gB U<|gS<|go _ 30 U (decide_eq_true (by omega))<|gct U<|gSk<|gS<|gJg (λaN a w=>∃ (aO:Value),St 46 [(0,pV K),(5,M),(6,aO),(27,sl aJ aB aC),(28,a2),(29,J aK)] L (hp L) [owm M aN.1,ow [aO] aN.2,os aJ aB aC] a w) (λaN=>?_) ?_
 refine gBk<|S<|gg λaD ar aW=>?_
 obtain ⟨aZ,aa,rfl⟩:=jA (e.ow_rep 2 U) aW
 refine gI kI ar (jx aW) U<|gY (yl isAgg3 ((kC (cs:=[J aD]) (e.ow_rep 2 U) aW U).cell (j:=0) U) U)<|gA U<|S<|Y U<|Y U<|gY (yG U<|br6 (key:=aD) (m:=(aL.1:jw Bool)) underlying3 underlying56 zeroValue4 (e.owm_rep 0 U) U U U)<|gN U<|gJg (λaP a w=>∃ (aQ:Value),St 46 [(0,pV K),(5,M),(6,aQ),(27,sw aZ aa aB aC),(28,a2),(29,J aK)] L (hp L) [owm M aP.1,ow [aQ] aP.2,ot aZ aa aB aC] a w) (λaP=>?_) ?_
 refine gsn 36 U (λau=>?_) λau=>?_
 refine gct U<|S<|Y U<|Y U<|gf0 U (λa H=>v7 (β:=Bool) (key:=aD) (u:=true) (b:=false) 0 underlying3 underlying56 H e U U U U U) ?_
 rintro _ w e
 refine gR<|Y U<|Y U<|gf U (λa H=>kj (vs:=#[(0,J aD)]) (cs:=[J aD]) kg H e U U (by kernel_rfl) U U) ?_
 rintro _ w ⟨_,rfl,e⟩
 replace e:=e.lit (xs:=([aD]:List Int)) 0 U U U U
 refine gb λ_ aw=>?_
 obtain ⟨ax,ay⟩:=kP.1 aw
 refine gf U (λa H=>kz 2 kg H e U (e.ow_rep 0 U) U U U ax) ?_
 rintro az w e
 rw [ay] at e
 exact gA U<|gE<|gZ λa H=>⟨az,H.sb U,e.d [1,2,3] U⟩
 exact gcf U<|gSk<|gZ λa H=>⟨aM,H.sb U,e.d [0,1,2] U⟩
 rintro aP a w ⟨aQ,H,e⟩
 exact gv H<|gZ λa H=>⟨aQ,H.sb U,e.d [0,1,2] U⟩
 rintro aN a w ⟨aO,H,e⟩
 exact gv H<|gR<|gp U<|Y U<|gE<|gZe λa H=>⟨aO,H.sb U,e.d [0,1,2] U⟩
 rintro _ _ a w ⟨bA,H,e⟩ _ _
 exact gv H<|S<|gB U<|gS<|lF 30 U U<|gHh<|gZ λa H=>⟨bA,H.sb U,e.d [0,1] U⟩
 rintro aG a w ⟨aH,H,e⟩
 exact gv H<|gZe λa H=>⟨aH,H.sb U,e.d [0,1] U⟩
 exact gcf U<|gXt<|gHh<|gLp ah af<|gz e [0] U
 intro aE w e
 refine S<|Y U<|gCg U call27 (rF _ aE M<|e.owm_rep 0 U) ?_
 rintro _ _ bB w ⟨_,rfl,hB⟩
 replace e:=e.give hB
 exact gA U<|gq U U ⟨bB,U,e.d [0] U⟩
theorem yz (e:World) (K:Int) (H:Int) :
    k6 Tryz.prog 143 [(.int .u64 (K)),(.int .u64 (H))] e (tF K H) λr v w'=>v=(.tuple #[(.int .u64 (r.1)),(.int .u64 (r.2))])/\Below e.heap.size e w':=by
 unfold tF
 refine kQ func143 U λr L=>?_
 refine S<|gA U<|gA U<|S<|Y U<|gB U<|gA U<|S<|Y U<|gY (yG U<|ar3 U U U (by omega))<|gA U<|S<|Y U<|gB U<|gA U<|S<|Y U<|gY (yG U<|ar3 U U U (by omega))<|gA U<|gS<|gR ?_
 refine Y U<|Y U<|gB U<|gA U<|S<|Y U<|Y U<|gB U<|Y U<|gY (yG U<|ar3 U U U (by omega))<|gB U<|gA U<|S<|Y U<|gB U<|gA U<|S<|Y U<|gY (yG U<|ar3 U U U (by omega))<|gA U<|S<|Y U<|Y U ?_
 exact Y U<|gB U<|gB U<|gA U<|S<|Y U<|Y U<|gB U<|Y U<|gB U<|Y U<|gY (yG U<|ar3 U U U (by omega))<|gB U<|gA U<|S<|Y U<|Y U<|gB U<|gA U<|gRt<|gr2 results143 U ⟨U,L.below⟩
theorem aa0 (H:World) (L:Int) (K:Int) :
    k6 Tryz.prog 72 [(.int .u64 (L)),(.int .u64 (K))] H (sa L K) λr v w'=>v=(.tuple #[(.int .u64 (r.1)),(.int .u64 (r.2))])/\Below H.heap.size H w':=by
 unfold sa
 refine kQ func72 U λr e=>?_
 exact S<|gA U<|gA U<|gS<|gcf U<|gSk<|S<|Y U<|Y U<|gC e U call143 (yz _ L K) λ_ _ w e=>Y U<|gX U<|gX U<|gA U<|gA U<|S<|Y U<|Y U<|gA U<|gA U<|gRt<|gr2 results72 U ⟨U,e.below⟩
theorem pz (w0:World) (N:List Int) (v1:Value) (h1:rp w0 v1 N) (H:Int) :
    k6 Tryz.prog 33 [v1,J H] w0 (lP N H) λr v w'=>∃ (x1:Value),v=x1/\Mem w0 (hp w0) w' [ow [x1] r]:=by
 unfold lP
 refine kQ func33 U λr e=>?_
 refine S<|gA U<|gS<|S<|Y U<|gB U<|gsd 10 U (λaM=>?_) λaM=>?_
 exact gno
 refine gcf U<|gSk<|S<|Y U ?_
 obtain ⟨aN,aO,rfl,_⟩:=ju h1
 refine gY (yV kI U)<|gY (yG U<|bn4 underlying3 underlying105 U U)<|Y U<|gY (yG U<|bn4 underlying3 underlying105 U U)<|gC e U call72 (aa0 _ (IntKind.u64.wrap (N.length:Int))<|IntKind.u64.wrap H) λaG _ w e=>Y U<|gX U<|gX U<|gA U<|gA U<|gS<|gS<|gJ e (λW=>[(0,sl aN N aO),(6,.int .u64 aG.2),(26,.bool W)]) (λW=>[]) (λW=>?_) ?_
 refine gR<|Y U<|gB U<|Y U<|gsd 23 U (λaP=>?_) λaP=>?_
 exact gO U<|gO U<|gKt U<|gE<|gz e [] U
 exact Y U<|gB U<|gKf U<|gE<|gz e [] U
 intro W w e
 refine gs 26 U (λaQ=>?_) λaQ=>?_
 exact gno
 refine gcf U<|gSk<|S<|Y U<|gY (yG U<|bn4 underlying105 underlying3 U U)<|gb λM aR=>?_
 obtain ⟨⟨aS,aT⟩,aH⟩:=lU.1 aR
 refine gf U (λa O=>ni (x0:=(0:Int)) kg (λ_=>(Flat.own_iff.2 U)) O e U U U aS (Int.le_refl _) aT) ?_
 rintro _ w e
 rw [aH] at e
 have a0:(M.length:Int)=IntKind.i64.wrap aG.2:=by rw [<- aH];simp only [List.length_replicate];omega
 refine gA U<|S<|Y U<|Y U<|gf U (λa O=>cb0 (α:=Int) (xs:=M) (ys:=N) (lo:=0) (hi:=M.length) 0 kI (show 0<1 from by decide) O e U (e.now h1) U (by rw [e.subV_whole (α:=Int) 0 U];rfl) U (Nat.zero_le _)<|Nat.le_refl _) ?_
 rintro _ w ⟨rfl,e⟩
 refine gA U<|gS ?_
 obtain ⟨aC,aD,rfl,_⟩:=ju<|e.ow_rep 0 U
 let K:Value:=.slice aC (o6 M N 0 M.length).length aD
 refine gJ e (λaF=>[(7,K)]) (λaF=>[ow [K] aF]) (λaF=>?_) ?_
 refine gBk<|gMf e (λL=>[(7,K),(8,J L.2)]) (λL=>[ow [K] L.1]) [0] U ?_
 intro _ aV L w e _ aW
 refine gS<|S<|Y U<|Y U ?_
 have am:=o9<|e.ow_rep 0 U
 refine gY (yV kI U)<|gB U<|gsd 37 U (λaX=>?_) λaX=>?_
 refine gct U<|gSk<|gBk<|gW (.p 0<|.p 1<|.p 2<|.p 3<|.p 4<|.p 5<|.p 6<|.e 7 (.p 8<|.p 9 .fin) .nil) [] [0,1,2,3,4,5,6,8,9] e [0] [ow [K] L.1] U mxo (by kernel_rfl) (λ_ _ _ h=>h.2) λw e _=>uM U U<|uM U U<|uM U U<|gb λ_ aY=>?_
 obtain ⟨aI,_⟩:=oN.1 aY
 have aZ:=(e.ow_rep 0 U)
 obtain ⟨_,aJ⟩:∃ nv,nv=sj (GT.sz Int) K (L.2:Int).toNat ((L.1.length:Int):Int).toNat:=⟨_,U⟩
 refine tP U (λw=>yG U<|ae5 aJ<|az8 (α:=Int) kI aZ U U U aI _)<|uM U U<|uM U U<|gb λaa ab=>?_
 obtain ⟨aK,ac⟩:=oN.1 ab
 have ae:=(e.ow_rep 0 U)
 obtain ⟨_,aL⟩:∃ nv,nv=sj (GT.sz Int) (.slice aC (o6 M N 0 M.length).length aD) (0:Int).toNat (L.2:Int).toNat:=⟨_,U⟩
 refine tP U (λw=>yG U<|ae5 aL<|bl2 (α:=Int) kI ae U U U aK _)<|tO ?_
 have a1:=aI
 refine tf U U (λa O=>cb0 (α:=Int) (xs:=L.1) (ys:=aa) (lo:=L.2.toNat) (hi:=((L.1.length:Int)).toNat) 0 kI (show 0<1 from by decide) O e U (al9 aL ac aK<|e.ow_rep 0 U) U (by rw [aJ];rfl) U (by omega) (by omega)) ?_
 rintro _ w ⟨rfl,e⟩
 exact tAn U<|uB U U<|uA U U<|tE<|gze e [0] U
 exact gcf U<|gXt<|gHh<|gLp aW aV<|gz e [0] U
 intro aF w e
 exact S<|Y U<|gA U<|gq U U ⟨.slice aC (o6 M N 0 M.length).length aD,U,e.d [0] U⟩
theorem wo (L:World) (a_:Int) (a5:Int) (W:Nat) (H:(hp L) W=some (.cells ([J a5]:List Value).toArray 3 (0,0))) (K:ld) (a0:Nat) (O:Nat) (a3:Value) (a7:rp L a3 K.c.b) (a2:Value) (a1:rp L a2 K.o) (a4:Value) (a6:rp L a4 K.I) (N:(hp L) O=some (.cells ([J K.c.P,J K.c.r,a3,a2,a4]:List Value).toArray 101 (0,0))) (M:(hp L) a0=some (.cells ([pV O]:List Value).toArray 69 (0,0))) :
    k6 Tryz.prog 146 [J a_,pV W,pV a0] L (mC a_ a5 K) λr v w'=>v=(.bool (r))/\Below L.heap.size L w':=by
 unfold mC
 refine kQ func146 U λr e=>?_
 refine S<|gA U<|gS<|gJ e (λaB=>[(4,.bool aB)]) (λaB=>[]) (λaB=>?_) ?_
 refine gW (.p 0<|.e 1 (.p 2<|.p 3<|.p 8<|.q 4<|.p 5<|.p 6<|.q 7<|.p 9<|.q 10<|.e 11 (.p 12<|.e 13 (.p 14<|.p 15 .fin) .nil) .nil) .nil) [11] [0,2,3,5,6,8,9,12,14,15] e [] [] U mxo (by kernel_rfl) (λ_ _ _ h=>h.2) λw e hS=>uM U U<|tO<|tY U (yl isAgg3 (e.hz_cell H U) U)<|tAn U<|uB U U<|uM U U<|gsd 8 U (λaG=>?_) λaG=>?_
 refine uM U U<|tQ U hS (λw e=>yl isAgg69 (e.hz_cell M U) U)<|tP U (λw=>yG U<|kW U U)<|uF sr U U<|tQ U hS (λw e=>yl isAgg99 (e.hz_cell N U) U)<|gg λaH aI aC=>?_
 obtain ⟨aJ,aK,_,he⟩:=jy a1 aC
 subst he
 obtain ⟨_,_,aD,aL⟩:=kn a1 aC
 have aA:=aL
 obtain ⟨aF,rfl,-⟩:=id aA
 replace aA:GT.rep (hp L) [aF] aH:=aA
 replace aD:kS (hp L) aJ (aK+a_.toNat*1) [aF]:=aD
 refine tP U (λw=>yI pR aI (jx aC) U)<|tQ U hS (λw e=>yl isAgg97 ((aD.mono e.lez).cell (j:=0) U) U)<|tO<|tY U (yl isAgg3 (e.hz_cell H U) U)<|tAs hS<|gg λaM aN aE=>?_
 obtain ⟨_,_,_,he⟩:=kG aA aE
 subst he
 exact tP U (λw=>yI mK aN (jx aE) U)<|tO<|tY U (yl isAgg4 ((kC (cs:=[.bool aM]) (e.now aA) aE U).cell (j:=0) U) U)<|tAn U<|uT U U<|uA U U<|tE<|gz e [] U
 exact tPo U U<|tQo U hS U<|tPo U U<|tPo U U<|tQo U hS U<|tPo U U<|tQo U hS U<|tO<|tEo U U<|tAs hS<|tPo U U<|tO<|tEo U U<|tAn U<|uK U U<|uA U U<|tE<|gz e [] U
 intro aB w e
 exact gy U U ⟨U,e.below⟩
theorem w9 (N:World) (d:ld) (L:Nat) (a5:Value) (a6:rp N a5 d.c.b) (a2:Value) (a0:rp N a2 d.o) (a4:Value) (a3:rp N a4 d.I) (H:(hp N) L=some (.cells ([J d.c.P,J d.c.r,a5,a2,a4]:List Value).toArray 101 (0,0))) (M:Int->Option Bool) (K:Value) (a1:∀ (w:World) (y0:Int) (r:Bool),Below N.heap.size N w->M y0=some r->w5 Tryz.prog K [J y0] w (λv w'=>v=(.bool (r))/\Below w.heap.size w w')) :
    k6 Tryz.prog 145 [pV L,K] N (ob d M) λr v w'=>v=(J r)/\Below N.heap.size N w':=by
 unfold ob
 refine kQ func145 U λr e=>?_
 refine S<|gA U<|S<|gA U<|gS<|S<|Y U<|gY (yG U<|kW U U)<|gF sr U<|gY (yl isAgg99 (e.hz_cell H U) U) ?_
 obtain ⟨_,_,rfl,_⟩:=ju a0
 let O:=J<|(d.o.length:Int)
 refine gY (yV pR U)<|Y U<|gBk<|gNf e (λW aB=>[(0,pV L),(1,K),(5,J aB),(11,O),(12,J W)]) (λW aB=>[]) [] U ?_ ?_
 intro _ _ W aB w e _ _ _ _
 refine S<|gB U<|gS<|go _ 13 U (decide_eq_true (by omega))<|gct U<|gSk<|gS<|gJ e (λaD=>[(0,pV L),(1,K),(5,J aD),(11,O),(12,J W)]) (λaD=>[]) (λaD=>?_) ?_
 refine gBk<|S<|Y U<|gA U<|gS<|gJ e (λaE=>[(0,pV L),(1,K),(5,J aB),(6,J W),(11,O),(12,J W),(42,.bool aE)]) (λaE=>[]) (λaE=>?_) ?_
 refine gR<|Y U<|gY (yG U<|kW U U)<|gF r9 U<|gY (yl isAgg97 (e.hz_cell H U) U)<|Y U<|gg λaL aM aG=>?_
 obtain ⟨_,_,_,he⟩:=kG a3 aG
 subst he
 refine gI mK aM (jx aG) U<|gY (yl isAgg4 ((kC (cs:=[.bool aL]) (e.now a3) aG U).cell (j:=0) U) U)<|Y U<|gs 22 U (λaN=>?_) λaN=>?_
 refine Y U<|Y U<|gb λ_ aO=>gf U (λa hf=>nC hf U U U<|a1 _ W _ e.below aO) ?_
 rintro _ w ⟨rfl,hB⟩
 replace e:=e.below' hB
 refine gKt U<|Y U<|gs 27 U (λaP=>?_) λaP=>?_
 refine Y U<|gB U<|Y U<|gsd 30 U (λaQ=>?_) λaQ=>?_
 exact gO U<|gO U<|gO U<|gO U<|gO U<|gO U<|gO U<|gO U<|gO U<|gO U<|gKt U<|gKt U<|gE<|gz e [] U
 refine Y U<|gY (yG U<|kW U U)<|gF sr U<|gY (yl isAgg99 (e.hz_cell H U) U)<|Y U<|gg λaR aS aH=>?_
 obtain ⟨aT,aV,rfl⟩:=jA a0 aH
 obtain ⟨_,_,aI,aW⟩:=kn a0 aH
 have aC:=aW
 obtain ⟨aK,rfl,-⟩:=id aC
 replace aC:GT.rep (hp N) [aK] aR:=aC
 replace aI:kS (hp N) aT (aV+aB.toNat*1) [aK]:=aI
 refine gI pR aS (jx aH) U<|gY (yl isAgg97 ((aI.mono e.lez).cell (j:=0) U) U)<|Y U<|gg λaX aY aJ=>?_
 obtain ⟨_,_,_,he⟩:=kG aC aJ
 subst he
 exact gI mK aY (jx aJ) U<|gY (yl isAgg4 ((kC (cs:=[.bool aX]) (e.now aC) aJ U).cell (j:=0) U) U)<|gKf U<|gKt U<|gE<|gz e [] U
 exact gO U<|gO U<|gO U<|gO U<|gO U<|gO U<|gO U<|gO U<|gO U<|gO U<|gO U<|gO U<|gO U<|gO U<|gKf U<|gE<|gz e [] U
 exact gO U<|gO U<|gO U<|gKf U<|Y U<|gO U<|gO U<|gO U<|gO U<|gO U<|gO U<|gO U<|gO U<|gO U<|gO U<|gO U<|gO U<|gO U<|gO U<|gKf U<|gE<|gz e [] U
 intro aE w e
 refine gJ e (λaF=>[(0,pV L),(1,K),(5,J aF),(11,O),(12,J W)]) (λaF=>[]) (λaF=>?_) ?_
 refine gs 42 U (λaZ=>?_) λaZ=>?_
 exact gct U<|gR<|Y U<|gA U<|gE<|gz e [] U
 exact gcf U<|gSk<|gz e [] U
 intro aF w e
 exact gz e [] U
 intro aD w e
 exact gR<|gp U<|Y U<|gE<|gze e [] U
 intro _ _ w e _ _
 exact S<|gB U<|gS<|lF 13 U U<|gHh<|S<|Y U<|gA U<|gq U U ⟨U,e.below⟩
theorem tJ (O:World) (d:ld) (K:Nat) (M:Value) (a2:rp O M d.c.b) (N:Value) (a1:rp O N d.o) (L:Value) (a0:rp O L d.I) (H:(hp O) K=some (.cells ([J d.c.P,J d.c.r,M,N,L]:List Value).toArray 101 (0,0))) (b_:Int) :
    k6 Tryz.prog 74 [pV K,J b_] O (mU d b_) λr v w'=>v=(J r)/\Below O.heap.size O w':=by
 unfold mU
 refine kQ func74 U λr e=>?_
 exact S<|gBx e U λaA w e=>gBx e U λaB w e=>gA U<|S<|gL e 1 isAgg69 U<|gY (yU U)<|gC e U call145 (w9 _ d K M (e.now a2) N (e.now a1) L (e.now a0) (e.lez _ _<|(kR.le_refl _) _ _ H) (λy0=>mC y0 b_ d) (.func (.func 146) #[] #[pV aB,pV aA]) λw y0 r W hq=>⟨146,[pV aB,pV aA],U,call146,wo w y0 b_ aB (e.blk_later 0 U W) d aA K M (kp (e.now a2) W) N (kp (e.now a1) W) L (kp (e.now a0) W) (e.old_later H W) (e.blk_later 1 U W) r hq⟩) λ_ _ w e=>gA U<|gq U U ⟨U,e.below⟩
theorem wO (a1:jw (List Int)):∀ (b_:Int) (a0:List Int) (r:(List Int)),lq b_ a0 a1=some r->∀ (w0:World) (hz:kR) (e:Nat) (W:Value) (K:Nat) (O:Value) (a2:GT.rep hz [O] a1) (N:hz K=some (.cells ([O]:List Value).toArray 179 (0,0))) (H:Nat) (M:hz H=some (.cells ([(.func (.func 144) #[] #[pV e,pV K,pV H])]:List Value).toArray 180 (0,0))) (a3:Mem w0 hz w0 [blk e [W] 54,ow [W] a0]),Con Tryz.prog 144 [J b_,pV e,pV K,pV H] w0 (λv w'=>∃ (x1:Value),v=(.tuple #[])/\Mem w0 hz w' [blk e [x1] 54,ow [x1] r]):=by
 refine lq.partial_correctness a1 (motive:=λb_ a0 r=>∀ (w0:World) (hz:kR) (e:Nat) (W:Value) (K:Nat) (O:Value) (a2:GT.rep hz [O] a1) (N:hz K=some (.cells ([O]:List Value).toArray 179 (0,0))) (H:Nat) (M:hz H=some (.cells ([.func (.func 144) #[] #[pV e,pV K,pV H]]:List Value).toArray 180 (0,0))) (a3:Mem w0 hz w0 [blk e [W] 54,ow [W] a0]),Con Tryz.prog 144 [J b_,pV e,pV K,pV H] w0 (λv w'=>∃ (x1:Value),v=(.tuple #[])/\Mem w0 hz w' [blk e [x1] 54,ow [x1] r])) ?_
 intro a5 a7 b_ a0 r hq w0 hz e W K O a2 N H M a3
 have L:∀ (w0:World) (hz:kR) (b_:Int) (a0:List Int) (e:Nat) (W:Value) (_:jw (List Int)) (K:Nat) (O:Value) (a2:GT.rep hz [O] a1) (N:hz K=some (.cells ([O]:List Value).toArray 179 (0,0))) (H:Nat) (M:hz H=some (.cells ([.func (.func 144) #[] #[pV e,pV K,pV H]]:List Value).toArray 180 (0,0))) (a3:Mem w0 hz w0 [blk e [W] 54,ow [W] a0]) (r:(List Int)) (hq:a5 b_ a0=some r),Con Tryz.prog 144 [J b_,pV e,pV K,pV H] w0 (λv w'=>∃ (x1:Value),v=(.tuple #[])/\Mem w0 hz w' [blk e [x1] 54,ow [x1] r]):=λw0 hz b_ a0 e W _ K O a2 N H M a3 r hq=>a7 b_ a0 r hq w0 hz e W K O a2 N H M a3
 refine bg7 (ρ:=List Int) (R:=λr v w'=>∃ (x1:Value),v=(.tuple #[])/\Mem w0 hz w' [blk e [x1] 54,ow [x1] r]) func144 U hq ?_
 have hm:=a3
 refine S<|gL hm 0 isAgg54 U<|Y U<|gf U (λa hf=>kj (vs:=#[(0,J b_)]) (cs:=[J b_]) kg hf hm U U (by kernel_rfl) U U) ?_
 rintro _ w ⟨_,rfl,hm⟩
 replace hm:=hm.lit (xs:=([b_]:List Int)) 0 U U U U
 refine gb λ_ aI=>?_
 obtain ⟨aJ,aK⟩:=kP.1 aI
 refine gf U (λa hf=>kz 2 kg hf hm U (hm.ow_rep 0 U) U U U aJ) ?_
 rintro aL w hm
 rw [aK] at hm
 refine gS1 hm 1 sizeOf54 (kF<|hm.ow_rep 2 U) U λw hm=>S<|gY (yl isAgg179 (hm.hz_cell N U) U)<|Y U ?_
 obtain ⟨aE,aM,aA⟩:=bv5 a2 b_
 obtain ⟨_,aF⟩:∃ nv,nv=(aE.get b_).elim nS MV.venc:=⟨_,U⟩
 rw [<- aF] at aA
 refine gY (yG U<|ae5 aF<|aj7 (key:=b_) (m:=aE) underlying3 underlying179 zeroValue54 (GT.mono (kR.le_trans (kR.le_refl _) hm.lez) aM) U U U) ?_
 obtain ⟨aN,aO,rfl,_⟩:=ju aA
 refine gY (yV kI U)<|Y U<|gBk<|gNg (λaG aC a w=>∃ (aB:Value),St 23 [(3,pV H),(13,.slice aN ((jw.get a1 b_).getD []).length aO),(14,J<|(((jw.get a1 b_).getD []).length:Int)),(15,J aG)] w0 hz [blk e [aB] 54,ow [aB] aC] a w) (λa hf=>⟨aL,hf.sb U,hm.d [1,2] U⟩) ?_ ?_
 rintro _ _ aG aC a w ⟨aB,hf,hm⟩ _ _ _ _
 refine gv hf<|S<|gB U<|gS<|lT 16 U U<|S<|gg λaH aP aD=>?_
 obtain ⟨_,_,rfl⟩:=jA aA aD
 refine gI kI aP (jx aD) U<|gY (yl isAgg3 ((kC (cs:=[J aH]) (hm.now aA) aD U).cell (j:=0) U) U)<|gA U<|gR<|gY (yl isAgg180 (hm.hz_cell M U) U)<|Y U ?_
 obtain ⟨aQ,a4,a6,_,aR⟩:=hm.take2 (L1:=[_,_]) (L2:=[]) [0,1] [] (dt U) U U
 refine gb λ_ aS=>gf U (λa hf=>nC hf U U U ⟨144,[pV e,pV K,pV H],U,call144,L _ aQ aH aC e aB a1 K O (GT.mono a4 a2) (a4 _ _<|(kR.le_refl _) _ _ N) H (a4 _ _<|(kR.le_refl _) _ _ M) a6  _ aS⟩) ?_
 rintro _ w ⟨aT,rfl,hB⟩
 replace hm:=aR _ _ hB;clear hB
 exact gR<|gp U<|Y U<|gE<|gZe λa hf=>⟨aT,hf.sb U,hm.d [0,1] U⟩
 rintro _ _ a w ⟨aV,hf,hm⟩ _ _
 exact gv hf<|S<|gB U<|gS<|lF 16 U U<|gHh<|gre results144 ⟨aV,U,hm.d [0,1] U⟩
theorem w6 (w0:World) (hz:kR) (b_:Int) (a0:List Int) (e:Nat) (N:Value) (W:jw (List Int)) (H:Nat) (O:Value) (a2:GT.rep hz [O] W) (L:hz H=some (.cells ([O]:List Value).toArray 179 (0,0))) (K:Nat) (M:hz K=some (.cells ([(.func (.func 144) #[] #[pV e,pV H,pV K])]:List Value).toArray 180 (0,0))) (a1:Mem w0 hz w0 [blk e [N] 54,ow [N] a0]) (r:(List Int)) (hq:lq b_ a0 W=some r):Con Tryz.prog 144 [J b_,pV e,pV H,pV K] w0 (λv w'=>∃ (x1:Value),v=(.tuple #[])/\Mem w0 hz w' [blk e [x1] 54,ow [x1] r]):=wO W b_ a0 r hq w0 hz e N H O a2 L K M a1
theorem xY (O:World) (d:ld) (L:Nat) (a3:Value) (a7:rp O a3 d.c.b) (a1:Value) (a6:rp O a1 d.o) (a5:Value) (N:rp O a5 d.I) (K:(hp O) L=some (.cells ([J d.c.P,J d.c.r,a3,a1,a5]:List Value).toArray 101 (0,0))) :
    k6 Tryz.prog 73 [pV L] O (oU d) λr v w'=>∃ (x1:Value),v=x1/\Mem O (hp O) w' [ow [x1] r]:=by
 unfold oU
 refine kQ func73 U λr e=>?_
 refine S<|gA U<|S<|gf U (λa hf=>am3 (β:=Hdr) e U) ?_
 rintro aA w e
 replace e:=e.imp (c':=owl aA (jw.mk0:jw (List Int))) 0 U λF h0=>cv8 h0
 refine gAl e zeroValue179 U λaB w e=>gS1 e 0 sizeOf179 (co6 e 1 U) U λw e=>gS<|S<|Y U<|gY (yG U<|kW U U)<|gF r9 U<|gY (yl isAgg97 (e.hz_cell K U) U) ?_
 obtain ⟨_,aM,rfl,_⟩:=ju N
 let a2:=J<|(d.I.length:Int)
 let M:=blk aB [aA] 179
 refine gY (yV mK U)<|Y U<|gBk<|gNf e (λW aD=>[(0,pV L),(3,pV aB),(13,a2),(14,J W)]) (λW aD=>[M,owl aA aD]) [0,1] U ?_ ?_
 intro _ _ W aD w e _ _ _ _
 refine S<|gB U<|gS<|go _ 15 U (decide_eq_true (by omega))<|gct U<|gSk<|gS<|gJ e (λaE=>[(0,pV L),(3,pV aB),(13,a2),(14,J W)]) (λaE=>[M,owl aA aE]) (λaE=>?_) ?_
 refine gBk<|S<|Y U<|gA U<|S<|Y U<|gY (yG U<|kW U U)<|gF r9 U<|gY (yl isAgg97 (e.hz_cell K U) U)<|Y U<|gg λaN aO aH=>?_
 obtain ⟨aP,aQ,rfl⟩:=jA N aH
 refine gI mK aO (jx aH) U<|gY (yl isAgg4 ((kC (cs:=[.bool aN]) (e.now N) aH U).cell (j:=0) U) U)<|gJ e (λaF=>[(0,pV L),(3,pV aB),(13,a2),(14,J W)]) (λaF=>[M,owl aA aF]) (λaF=>?_) ?_
 refine gs 23 U (λaR=>?_) λaR=>?_
 refine gct U<|S<|Y U<|Y U<|gC e U call74 (tJ _ d L a3 (e.now a7) a1 (e.now a6) (sw aP aQ d.I aM) (e.now N) (e.lez _ _<|(kR.le_refl _) _ _ K) W) λaG _ w e=>gA U ?_
 obtain ⟨aI,e⟩:=e.owl_out 1 U aG
 replace e:Mem O (hp O) _ [ow [aI]<|(jw.get aD aG).getD [],M,cp2 aA aD aG aI]:=e
 refine gW (.p 1<|.p 3<|.p 5<|.q 0<|.q 2<|.q 4<|.e 6 (.e 7 (.e 8 .fin .nil) .nil) .nil) [0,2,4,6,7] [1,3,5] e [1,2] [_,_] U mxo (by kernel_rfl) (λ_ _ _ h=>h.2) λw e hS=>uM U U<|uM U U<|uM U U<|tQ U hS (λw e=>yL e 0 isAgg179 U)<|tQ U hS (λw e=>yL e 0 isAgg179 U)<|tQ U hS (λw e=>yG U<|cm3 underlying3 underlying179 zeroValue54 e 1 U U U U)<|tO<|tf U U (λa hf=>kj (vs:=#[(0,J W)]) (cs:=[J W]) kg hf e U U (by kernel_rfl) U U) ?_
 rintro _ w ⟨_,rfl,e⟩
 replace e:=e.lit (xs:=([W]:List Int)) 0 U U U U
 refine tAk e [2,3] U λhS=>tO<|gb λaS aT=>?_
 obtain ⟨aV,aW⟩:=kP.1 aT
 refine tf U U (λa hf=>kz 1 kg hf e U (e.ow_rep 0 U) U U U aV) ?_
 rintro _ w e
 rw [aW] at e
 refine tAk e [2,3] U λhS=>tO ?_
 replace e:=(e.both 3 1 (dt U) U U).d [0,2,3] U
 refine tf0 U U (λa hf=>cs8 (key:=aG) (l1:=aS) (b:=false) 2 underlying3 underlying179 hf e U U U U U) ?_
 rintro _ w e
 exact tAn U<|tE<|gz e [1,2] U
 exact gcf U<|gSk<|gz e [0,1] U
 intro aF w e
 exact gz e [0,1] U
 intro aE w e
 exact gR<|gp U<|Y U<|gE<|gze e [0,1] U
 intro _ aJ w e _ _
 refine S<|gB U<|gS<|lF 15 U U<|gHh<|S<|gAl e zeroValue54 U λaK w e=>S<|gAl e zeroValue180 U λaL w e=>gS<|gR ?_
 replace e:=e.owl_ow 3 U
 obtain ⟨aX,aY,H,a4⟩:=e.freeze 3 U
 replace e:=a4.d [0,1,2] U
 clear a4
 replace H:GT.rep aX [aA] aJ:=aq0 H
 refine gY (yU U)<|gS1 e 0 sizeOf180 U U λw e=>S<|gL e 0 isAgg180 U ?_
 replace e:=e.nilow (α:=Int)
 obtain ⟨aZ,a9,a8,a0,aa⟩:=e.take2 (L1:=[_,_]) (L2:=[_,_]) [2,0] [1,3] (dt U) U U
 refine gb λ_ ab=>gf U (λa hf=>nC hf U U U ⟨144,[pV aK,pV aB,pV aL],U,call144,w6 _ aZ 0 ([]:List Int) aK nS aJ aB aA (GT.mono a9 H) (bd0<|a0 1 _ U) aL (bd0<|a0 0 _ U) a8  _ ab⟩) ?_
 rintro _ w ⟨ac,rfl,hB⟩
 replace e:=aa _ _ hB;clear hB
 refine S<|gL e 0 isAgg54 U<|gA U<|gRt ?_
 replace e:=e.thaw aY
 exact gr1 results73 U ⟨ac,U,e.d [1] U⟩
theorem tC (w0:World) (hz:kR) (r_:Int) (W:kR) (N L:Nat) (O:Int) (H:Nat) (a0:jw Int) (K:Nat) (M:Value) (a1:Mem w0 hz w0 [ap7 W N L (J r_),blk H [J O] 3,blk K [M] 110,owm M a0]) :
    k6 Tryz.prog 75 [(.pointer (some ⟨N,L,none⟩)),pV H,pV K] w0 (lJ r_ O a0) λr v w'=>∃ (x1:Value),v=(.tuple #[])/\Mem w0 hz w' [ap7 W N L (J r.1),blk H [J r.2.1] 3,blk K [x1] 110,owm x1 r.2.2]:=by
 unfold lJ
 refine k7 func75 U λr=>?_
 have e:=a1
 refine gS<|gW (.p 1<|.p 2<|.p 4<|.q 0<|.q 3<|.q 5<|.q 6<|.e 7 (.p 8<|.e 9 (.p 10<|.e 11 .fin .nil) .nil) .nil) [0,3,5,6,7,9] [1,2,4,8,10] e [0,1,2] [ap7 W N L<|J r_,blk H [J O] 3,blk K [M] 110] U mxo (by kernel_rfl) (λ_ _ _ h=>h.2) λw e hS=>uM U U<|tP U (λw=>yG U<|kW U U)<|uM U U<|tQ U hS (λw e=>yL e 2 isAgg110 U)<|tQ U hS (λw e=>yl isAgg3 (e.cel_cell 0 U) U)<|tQ U hS (λw e=>yL e 1 isAgg3 U)<|tQ U hS (λw e=>yL e 1 isAgg3 U)<|tO<|tf U U (λa hf=>cy1 (β:=Int) (key:=r_) (zv:=0) 3 underlying3 underlying110 zeroValue3 hf e U U U U) ?_
 rintro _ w ⟨_,_,rfl,aA,e⟩
 refine tAk e [0,1,2] U λhS=>tP U (λw=>yX U)<|tO<|tf0 U U (λa hf=>cv4 (β:=Int) (key:=r_) (u:=O) 3 hf e U aA U U U U) ?_
 rintro _ w e
 refine tAk e [0,1,2] U λhS=>tP U (λw=>yG U<|kW U U)<|tO<|tf0 U U (λa hf=>bz8 0 hf e U sizeOf3 U U U U) ?_
 rintro _ w e
 exact tAn U<|tE<|gR<|gL e 1 isAgg3 U<|gB U<|gS1 e 1 sizeOf3 U U λw e=>gE<|gre results75 ⟨M,U,e.d [0,1,2,3] U⟩
end Go.Proofs.YtkihhabnfheieaaGreat
