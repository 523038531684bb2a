/- A part of the proof of FnExactSingleUnitSaid. -/
import Derived.Test.YtkihhabnfheieaaGreatSuWalksD
namespace Go.Proofs.YtkihhabnfheieaaGreat
open Go Go.Wk Go.RowKit
set_option maxRecDepth 4000
set_option maxHeartbeats 4000000
open Tryz
theorem yp (w0:World) (hz:kR) (a_:List jq) (v1:Value) (k_:Int) (b0:Mem w0 hz w0 [ow [v1] a_]) :
    k6 Tryz.prog 40 [v1,J k_] w0 (pO a_ k_) λr v w'=>v=(J r.1)/\Mem w0 hz w' [ow [v1] r.2]:=by
 unfold pO
 refine k7 func40 U λr=>?_
 have K:=b0
 refine S<|gA U<|gS<|S<|gA U ?_
 obtain ⟨al,aK,rfl,_⟩:=ju<|K.ow_rep 0 U
 refine gBk<|gNf K (λW aI=>[(0,sl al a_ aK),(1,J aI.2),(5,J W)]) (λW aI=>[ow [sl al a_ aK] aI.1]) [0] U ?_ ?_
 intro _ _ W aI w K _ _ _ _
 refine gS<|S<|Y U<|Y U ?_
 have bM:=o9<|K.ow_rep 0 U
 refine gY (yV kZ U)<|gB U<|lT 9 U U<|S<|Y U<|Y U<|gg λM ap aP=>?_
 obtain ⟨aL,aM,rfl⟩:=jA (K.ow_rep 0 U) aP
 obtain ⟨aJ,aq,ar,am,_,_,_⟩:=k4 (K.ow_rep 0 U) aP
 have a5:=kB<|K.ow_rep 0 U
 refine gI kZ ap (kL aP a5) U<|gF ko U<|gY (yl isAgg66 (am.cell (j:=0) U) U)<|Y U ?_
 replace K:Mem w0 hz _ [ow [aJ] M.a,bk0 [sw aL aM a_ aK] [aJ] λ(y:List kA)=>(aI.1:List jq).set W.toNat (⟨y,M.i,M.j,M.on,M.n⟩:jq)]:=K.open 0 U<|wN aP am U<|show zx (α:=jq) _ _ M [aJ] M.a (λy=>(⟨y,M.i,M.j,M.on,M.n⟩:jq)) from (bc7 (α:=List kA) (β:=(List kD) × Int × Int × (List Int)) (cs:=[aJ]) (ds:=[aq,J M.j,J M.on,ar]) (v:=[aJ]) (inner:=M.a) (x:=M.a) (z:=(M.i,M.j,M.on,M.n)) (put:=λ(y:List kA)=>y) U<|ab7 [aJ] M.a)
 obtain ⟨au,aU,a1,a4,aw⟩:=K.take2 (L1:=[_]) (L2:=[_]) [0] [1] (dt U) U U
 refine gCg U call88 (aa9 _ au M.a aJ aI.2 a1 ) ?_
 rintro aV _ _ w ⟨rfl,hB⟩
 replace K:=aw _ _ hB;clear hB
 replace K:=(K.shut 1 0 (dt U) U U).d [1] U
 refine gA U<|S<|Y U<|Y U<|gg λL ax aW=>?_
 obtain ⟨ay,aG,an,ao,_,_,_⟩:=k4 (K.ow_rep 0 U) aW
 have a9:=kB<|K.ow_rep 0 U
 refine gI kZ ax (kL aW a9) U<|gF lC U<|gY (yl isAgg53 (ao.cell (j:=1) U) U)<|Y U ?_
 replace K:Mem w0 hz _ [ow [aG] L.i,bk0 [sw aL aM a_ aK] [aG] λ(y:List kD)=>((aI.1.set W.toNat (⟨aV.2,M.i,M.j,M.on,M.n⟩:jq)):List jq).set W.toNat (⟨L.a,y,L.j,L.on,L.n⟩:jq)]:=K.open 0 U<|wN aW ao U<|show zx (α:=jq) _ _ L [aG] L.i (λy=>(⟨L.a,y,L.j,L.on,L.n⟩:jq)) from (sZ (α:=List kA) (β:=(List kD) × Int × Int × (List Int)) (cs:=[ay]) (ds:=[aG,J L.j,J L.on,an]) (v:=[aG]) (inner:=L.i) (x:=(L.i,L.j,L.on,L.n)) (z:=L.a) (put:=λ(y:List kD)=>(y,L.j,L.on,L.n)) U<|bc7 (α:=List kD) (β:=Int × Int × (List Int)) (cs:=[aG]) (ds:=[J L.j,J L.on,an]) (v:=[aG]) (inner:=L.i) (x:=L.i) (z:=(L.j,L.on,L.n)) (put:=λ(y:List kD)=>y) U<|ab7 [aG] L.i)
 obtain ⟨az,aU,a1,a4,bA⟩:=K.take2 (L1:=[_]) (L2:=[_]) [0] [1] (dt U) U U
 refine gCg U call89 (ab8 _ az L.i aG aV.1 a1 ) ?_
 rintro H _ _ w ⟨rfl,hB⟩
 replace K:=bA _ _ hB;clear hB
 replace K:=(K.shut 1 0 (dt U) U U).d [1] U
 refine gA U<|S<|Y U<|Y U<|Y U<|gg λe aX aQ=>?_
 obtain ⟨bB,aY,aN,bC,_,_,_⟩:=k4 (K.ow_rep 0 U) aQ
 have a8:=kB<|K.ow_rep 0 U
 let a0:=J e.on
 refine gI kZ aX (kL aQ a8) U<|gF oR U<|gf0 U (λa hf=>pK (x1:=((⟨e.a,e.i,H.1,e.on,e.n⟩:jq):jq)) (j:=2) (vs:=[J H.1]) 0 hf K U aQ bC U (λF h ho=>(λ_=>ng (α:=List kA) (β:=(List kD) × Int × Int × (List Int)) (cs:=[bB]) (ds:=[aY,J e.j,a0,aN]) (ds':=[aY,J H.1,a0,aN]) U λ_=>ng (α:=List kD) (β:=Int × Int × (List Int)) (cs:=[aY]) (ds:=[J e.j,a0,aN]) (ds':=[J H.1,a0,aN]) U λ_=>pA (α:=Int) (β:=Int × (List Int)) (cs:=[J e.j]) (cs':=[J H.1]) (ds:=[a0,aN]) U λ_ _=>Flat.own_iff.2 U) F ho) U sizeOf3 U U U (Z U kE) U) ?_
 rintro _ w K
 have aR:=List.getElem?_set_self (a:=((⟨e.a,e.i,H.1,e.on,e.n⟩:jq):jq))<|jx aQ
 refine S<|Y U<|gB U<|gA U<|S<|Y U<|Y U<|Y U ?_
 obtain ⟨_,_,aZ,bD⟩:=kn (K.ow_rep 0 U) aR
 obtain ⟨_,_,rfl,aa,_,_,rfl,ab,_,_,rfl,rfl,_,_,rfl,rfl,ac⟩:=bD
 obtain ⟨ae,rfl,-⟩:=id aa
 obtain ⟨aO,rfl,-⟩:=id ab
 obtain ⟨aH,rfl,-⟩:=id ac
 replace aZ:kS (hp _) aL (aM+W.toNat*5) [ae,aO,J H.1,J e.on,aH]:=aZ
 have a7:=kB<|K.ow_rep 0 U
 let O:=J<|w64<|H.1+1
 let a2:=J e.on
 refine gI kZ aX (kL aR a7) U<|gF oI U<|gf0 U (λa hf=>pK (x1:=((⟨e.a,e.i,H.1,w64<|H.1+1,e.n⟩:jq):jq)) (j:=3) (vs:=[O]) 0 hf K U aR aZ U (λF h ho=>(λ_=>ng (α:=List kA) (β:=(List kD) × Int × Int × (List Int)) (cs:=[ae]) (ds:=[aO,J H.1,a2,aH]) (ds':=[aO,J H.1,O,aH]) U λ_=>ng (α:=List kD) (β:=Int × Int × (List Int)) (cs:=[aO]) (ds:=[J H.1,a2,aH]) (ds':=[J H.1,O,aH]) U λ_=>ng (α:=Int) (β:=Int × (List Int)) (cs:=[J H.1]) (ds:=[a2,aH]) (ds':=[O,aH]) U λ_=>pA (α:=Int) (β:=List Int) (cs:=[a2]) (cs':=[O]) (ds:=[aH]) U λ_ _=>Flat.own_iff.2 U) F ho) U sizeOf3 U U U (Z U kE) U) ?_
 rintro _ w K
 have af:=List.getElem?_set_self (a:=((⟨e.a,e.i,H.1,w64<|H.1+1,e.n⟩:jq):jq))<|jx aR
 refine S<|Y U<|gB U<|gA U<|gR<|Y U<|Y U ?_
 obtain ⟨_,_,aS,bE⟩:=kn (K.ow_rep 0 U) af
 obtain ⟨_,_,rfl,ah,_,_,rfl,ai,_,_,rfl,rfl,_,_,rfl,rfl,aj⟩:=bE
 obtain ⟨ak,rfl,-⟩:=id ah
 obtain ⟨aT,rfl,-⟩:=id ai
 obtain ⟨N,rfl,-⟩:=id aj
 replace aS:kS (hp _) aL (aM+W.toNat*5) [ak,aT,J H.1,O,N]:=aS
 have a6:=kB<|K.ow_rep 0 U
 refine gI kZ aX (kL af a6) U<|gF lb U<|gY (yl isAgg54 (aS.cell (j:=4) U) U)<|Y U ?_
 let a3:=J<|w64<|H.1+1
 replace K:Mem w0 hz _ [ow [N] e.n,bk0 [sw aL aM a_ aK] [N] λ(y:List Int)=>(((((aI.1.set W.toNat (⟨aV.2,M.i,M.j,M.on,M.n⟩:jq)).set W.toNat (⟨L.a,H.2,L.j,L.on,L.n⟩:jq)).set W.toNat (⟨e.a,e.i,H.1,e.on,e.n⟩:jq)).set W.toNat (⟨e.a,e.i,H.1,w64<|H.1+1,e.n⟩:jq)):List jq).set W.toNat (⟨e.a,e.i,H.1,w64<|H.1+1,y⟩:jq)]:=K.open 0 U<|wN af aS U<|show zx (α:=jq) _ _ (⟨e.a,e.i,H.1,w64<|H.1+1,e.n⟩:jq) [N] e.n (λy=>(⟨e.a,e.i,H.1,w64<|H.1+1,y⟩:jq)) from (sZ (α:=List kA) (β:=(List kD) × Int × Int × (List Int)) (cs:=[ak]) (ds:=[aT,J H.1,a3,N]) (v:=[N]) (inner:=e.n) (x:=(e.i,H.1,w64<|H.1+1,e.n)) (z:=e.a) (put:=λ(y:List Int)=>(e.i,H.1,w64<|H.1+1,y)) U<|sZ (α:=List kD) (β:=Int × Int × (List Int)) (cs:=[aT]) (ds:=[J H.1,a3,N]) (v:=[N]) (inner:=e.n) (x:=(H.1,w64<|H.1+1,e.n)) (z:=e.i) (put:=λ(y:List Int)=>(H.1,w64<|H.1+1,y)) U<|sZ (α:=Int) (β:=Int × (List Int)) (cs:=[J H.1]) (ds:=[a3,N]) (v:=[N]) (inner:=e.n) (x:=(w64<|H.1+1,e.n)) (z:=H.1) (put:=λ(y:List Int)=>(w64<|H.1+1,y)) U<|sZ (α:=Int) (β:=List Int) (cs:=[a3]) (ds:=[N]) (v:=[N]) (inner:=e.n) (x:=e.n) (z:=w64<|H.1+1) (put:=λ(y:List Int)=>y) U<|ab7 [N] e.n)
 obtain ⟨bF,aU,a1,a4,bG⟩:=K.take2 (L1:=[_]) (L2:=[_]) [0] [1] (dt U) U U
 refine gCg U call90 (ry _ bF e.n N (w64<|(w64<|H.1+1)+1) a1 ) ?_
 rintro _ _ _ w ⟨rfl,hB⟩
 replace K:=bG _ _ hB;clear hB
 replace K:=(K.shut 1 0 (dt U) U U).d [1] U
 exact gA U<|gR<|Y U<|gp U<|gA U<|gE<|gze K [0] U
 intro _ _ w K _ _
 refine gS<|S<|Y U<|Y U ?_
 have bg:=o9<|K.ow_rep 0 U
 exact gY (yV kZ U)<|gB U<|lF 9 U U<|gHh<|S<|Y U<|gA U<|gq U U ⟨U,K.d [0] U⟩
theorem zo (w0:World) (hz:kR) (a_:List jv) (v1:Value) (k_:Int) (a1:Mem w0 hz w0 [ow [v1] a_]) :
    k6 Tryz.prog 19 [v1,J k_] w0 (rm a_ k_) λr v w'=>v=(J r.1)/\Mem w0 hz w' [ow [v1] r.2]:=by
 unfold rm
 refine k7 func19 U λr=>?_
 have H:=a1
 refine S<|gA U<|gS<|S<|gA U ?_
 obtain ⟨aQ,aI,rfl,_⟩:=ju<|H.ow_rep 0 U
 refine gBk<|gNf H (λN e=>[(0,sl aQ a_ aI),(1,J e.2),(5,J N)]) (λN e=>[ow [sl aQ a_ aI] e.1]) [0] U ?_ ?_
 intro _ _ N e w H _ _ _ _
 refine gS<|S<|Y U<|Y U ?_
 have ac:=o9<|H.ow_rep 0 U
 refine gY (yV nU U)<|gB U<|lT 9 U U<|S<|Y U<|Y U<|Y U<|gg λK aJ aE=>?_
 obtain ⟨aK,aL,rfl⟩:=jA (H.ow_rep 0 U) aE
 obtain ⟨aR,aS,_⟩:=nQ (H.ow_rep 0 U) aE
 have W:=kB<|H.ow_rep 0 U
 refine gI nU aJ (kL aE W) U<|gF nD U<|gf0 U (λa hf=>pK (x1:=((⟨e.2,K.r,K.b⟩:jv):jv)) (j:=0) (vs:=[J e.2]) 0 hf H U aE aS U (λF h ho=>(λ_=>pA (α:=Int) (β:=Int × (List jq)) (cs:=[J K.P]) (cs':=[J e.2]) (ds:=[J K.r,aR]) U λ_ _=>Flat.own_iff.2 U) F ho) U sizeOf3 U U U (Z U kE) U) ?_
 rintro _ w H
 have aG:=List.getElem?_set_self (a:=((⟨e.2,K.r,K.b⟩:jv):jv))<|jx aE
 refine S<|Y U<|gB U<|gA U<|S<|Y U<|Y U<|Y U ?_
 obtain ⟨_,_,aM,aT⟩:=kn (H.ow_rep 0 U) aG
 obtain ⟨_,_,rfl,rfl,_,_,rfl,rfl,aN⟩:=aT
 obtain ⟨aF,rfl,-⟩:=id aN
 replace aM:kS (hp _) aK (aL+N.toNat*3) [J e.2,J K.r,aF]:=aM
 have a0:=kB<|H.ow_rep 0 U
 let M:=J<|w64<|e.2+1
 refine gI nU aJ (kL aG a0) U<|gF mF U<|gf0 U (λa hf=>pK (x1:=((⟨e.2,w64<|e.2+1,K.b⟩:jv):jv)) (j:=1) (vs:=[M]) 0 hf H U aG aM U (λF h ho=>(λ_=>ng (α:=Int) (β:=Int × (List jq)) (cs:=[J e.2]) (ds:=[J K.r,aF]) (ds':=[M,aF]) U λ_=>pA (α:=Int) (β:=List jq) (cs:=[J K.r]) (cs':=[M]) (ds:=[aF]) U λ_ _=>Flat.own_iff.2 U) F ho) U sizeOf3 U U U (Z U kE) U) ?_
 rintro _ w H
 have aO:=List.getElem?_set_self (a:=((⟨e.2,w64<|e.2+1,K.b⟩:jv):jv))<|jx aG
 refine S<|Y U<|gB U<|gA U<|gR<|Y U<|Y U ?_
 obtain ⟨_,_,aH,aV⟩:=kn (H.ow_rep 0 U) aO
 obtain ⟨_,_,rfl,rfl,_,_,rfl,rfl,aP⟩:=aV
 obtain ⟨L,rfl,-⟩:=id aP
 replace aH:kS (hp _) aK (aL+N.toNat*3) [J e.2,M,L]:=aH
 have O:=kB<|H.ow_rep 0 U
 refine gI nU aJ (kL aO O) U<|gF kM U<|gY (yl isAgg39 (aH.cell (j:=2) U) U)<|Y U ?_
 replace H:Mem w0 hz _ [ow [L] K.b,bk0 [sw aK aL a_ aI] [L] λ(y:List jq)=>(((e.1.set N.toNat (⟨e.2,K.r,K.b⟩:jv)).set N.toNat (⟨e.2,w64<|e.2+1,K.b⟩:jv)):List jv).set N.toNat (⟨e.2,w64<|e.2+1,y⟩:jv)]:=H.open 0 U<|wN aO aH U<|show zx (α:=jv) _ _ (⟨e.2,w64<|e.2+1,K.b⟩:jv) [L] K.b (λy=>(⟨e.2,w64<|e.2+1,y⟩:jv)) from (sZ (α:=Int) (β:=Int × (List jq)) (cs:=[J e.2]) (ds:=[J<|w64<|e.2+1,L]) (v:=[L]) (inner:=K.b) (x:=(w64<|e.2+1,K.b)) (z:=e.2) (put:=λ(y:List jq)=>(w64<|e.2+1,y)) U<|sZ (α:=Int) (β:=List jq) (cs:=[J<|w64<|e.2+1]) (ds:=[L]) (v:=[L]) (inner:=K.b) (x:=K.b) (z:=w64<|e.2+1) (put:=λ(y:List jq)=>y) U<|ab7 [L] K.b)
 obtain ⟨aW,_,a2,_,aX⟩:=H.take2 (L1:=[_]) (L2:=[_]) [0] [1] (dt U) U U
 refine gCg U call40 (yp _ aW K.b L (w64<|(w64<|e.2+1)+1) a2 ) ?_
 rintro _ _ _ w ⟨rfl,hB⟩
 replace H:=aX _ _ hB;clear hB
 replace H:=(H.shut 1 0 (dt U) U U).d [1] U
 exact gA U<|gR<|Y U<|gp U<|gA U<|gE<|gze H [0] U
 intro _ _ w H _ _
 refine gS<|S<|Y U<|Y U ?_
 have ao:=o9<|H.ow_rep 0 U
 exact gY (yV nU U)<|gB U<|lF 9 U U<|gHh<|S<|Y U<|gA U<|gq U U ⟨U,H.d [0] U⟩
theorem vh (H:World) (W:kR) (L:kU) (K:Value) (O:Int) (M:Mem H W H [ow [K] L.C]) :
    k6 Tryz.prog 9 [.agg #[K],J O] H (pU L O) λr v w'=>v=(J r.1)/\Mem H W w' [ow [K] r.2]:=by
 unfold pU
 refine k7 func9 U λr=>?_
 have e:=M
 refine S<|gBx e U λ_ w e=>gA U<|S<|gF mu U<|gL e 0 isAgg26 U<|Y U ?_
 obtain ⟨aA,_,N,_,aB⟩:=e.take2 (L1:=[_]) (L2:=[_]) [1] [0] (dt U) U U
 refine gCg U call19 (zo _ aA L.C K O N ) ?_
 rintro _ _ _ w ⟨rfl,hB⟩
 replace e:=aB _ _ hB;clear hB
 exact gA U<|S<|Y U<|gA U<|gq U U ⟨U,e.d [0] U⟩
theorem rv (K:World) (W:List Int) (L:Value) (H:rp K L W) (k_:Int) :
    k6 Tryz.prog 93 [L,J k_] K (nF W k_) λr v w'=>v=(J r)/\Below K.heap.size K w':=by
 unfold nF
 refine kQ func93 U λr e=>?_
 refine S<|gA U<|gS<|S<|gA U<|gBk<|gNf e (λO M=>[(0,L),(1,J M),(5,J O)]) (λO M=>[]) [] U ?_ ?_
 intro _ aD O M w e _ _ _ aE
 refine gS<|S<|Y U<|Y U ?_
 obtain ⟨_,_,rfl,_⟩:=ju H
 refine gY (yV kI U)<|gB U<|lT 9 U U<|gS<|S<|Y U<|Y U<|gg λaF aG N=>?_
 obtain ⟨_,_,rfl⟩:=jA H N
 refine gI kI aG (jx N) U<|gY (yl isAgg3 ((kC (cs:=[J aF]) (e.now H) N U).cell (j:=0) U) U)<|Y U<|gB U<|gsd 17 U (λaH=>?_) λaH=>?_
 exact gct U<|S<|gA U<|gRt<|gLr aE aD<|gr1 results93 U ⟨U,e.below⟩
 exact gcf U<|gSk<|gR<|Y U<|gB U<|gA U<|gR<|Y U<|gp U<|gA U<|gE<|gze e [] U
 intro _ _ w e _ _
 refine gS<|S<|Y U<|Y U ?_
 obtain ⟨_,_,rfl,_⟩:=ju H
 exact gY (yV kI U)<|gB U<|lF 9 U U<|gHh<|S<|Y U<|gA U<|gq U U ⟨U,e.below⟩
theorem ab2 (L:World) (a_:List kA) (N:Value) (H:rp L N a_) (k_:Int) :
    k6 Tryz.prog 91 [N,J k_] L (pd a_ k_) λr v w'=>v=(J r)/\Below L.heap.size L w':=by
 unfold pd
 refine kQ func91 U λr e=>?_
 refine S<|gA U<|gS<|S<|gA U<|gBk<|gNf e (λO M=>[(0,N),(1,J M),(5,J O)]) (λO M=>[]) [] U ?_ ?_
 intro _ aD O M w e _ _ _ W
 refine gS<|S<|Y U<|Y U ?_
 obtain ⟨_,_,rfl,_⟩:=ju H
 refine gY (yV lY U)<|gB U<|lT 9 U U<|gS<|S<|Y U<|Y U<|gg λaH aF K=>?_
 obtain ⟨_,_,rfl⟩:=jA H K
 obtain ⟨aI,aG,aJ⟩:=mP H K
 refine gI lY aF (jx K) U<|gF oH U<|gY (yl isAgg3 ((aG.mono e.lez).cell (j:=0) U) U)<|Y U<|gB U<|gsd 18 U (λaK=>?_) λaK=>?_
 exact gct U<|S<|gA U<|gRt<|gLr W aD<|gr1 results91 U ⟨U,e.below⟩
 refine gcf U<|gSk<|S<|Y U<|gB U<|gA U<|S<|Y U<|Y U<|gI lY aF (jx K) U<|gF mT U<|gY (yl isAgg54 ((aG.mono e.lez).cell (j:=1) U) U)<|Y U<|gC e U call93 (rv _ aH.A aI (e.now aJ)<|w64<|M+1) λ_ _ w e=>gA U<|S<|Y U<|gB U<|gsd 29 U (λaL=>?_) λaL=>?_
 exact gct U<|S<|gA U<|gRt<|gLr W aD<|gr1 results91 U ⟨U,e.below⟩
 exact gcf U<|gSk<|gR<|Y U<|gp U<|gA U<|gE<|gze e [] U
 intro _ _ w e _ _
 refine gS<|S<|Y U<|Y U ?_
 obtain ⟨_,_,rfl,_⟩:=ju H
 exact gY (yV lY U)<|gB U<|lF 9 U U<|gHh<|S<|Y U<|gA U<|gq U U ⟨U,e.below⟩
theorem aa5 (W:World) (a_:List kD) (v1:Value) (M:rp W v1 a_) (k_:Int) :
    k6 Tryz.prog 92 [v1,J k_] W (p9 a_ k_) λr v w'=>v=(J r)/\Below W.heap.size W w':=by
 unfold p9
 refine kQ func92 U λr e=>?_
 refine S<|gA U<|gS<|S<|gA U<|gBk<|gNf e (λaG N=>[(0,v1),(1,J N),(5,J aG)]) (λaG N=>[]) [] U ?_ ?_
 intro _ aC aG N w e _ _ _ L
 refine gS<|S<|Y U<|Y U ?_
 obtain ⟨_,_,rfl,_⟩:=ju M
 refine gY (yV lh U)<|gB U<|lT 9 U U<|gS<|S<|Y U<|Y U<|gg λaH K H=>?_
 obtain ⟨_,_,rfl⟩:=jA M H
 obtain ⟨aI,O,aJ⟩:=nO M H
 refine gI lh K (jx H) U<|gF nN U<|gY (yl isAgg3 ((O.mono e.lez).cell (j:=0) U) U)<|Y U<|gB U<|gsd 18 U (λaK=>?_) λaK=>?_
 exact gct U<|S<|gA U<|gRt<|gLr L aC<|gr1 results92 U ⟨U,e.below⟩
 refine gcf U<|gSk<|S<|Y U<|gB U<|gA U<|gS<|S<|Y U<|Y U<|gI lh K (jx H) U<|gF oa U<|gY (yl isAgg3 ((O.mono e.lez).cell (j:=1) U) U)<|Y U<|gB U<|gsd 27 U (λaL=>?_) λaL=>?_
 exact gct U<|S<|gA U<|gRt<|gLr L aC<|gr1 results92 U ⟨U,e.below⟩
 refine gcf U<|gSk<|S<|Y U<|gB U<|gA U<|S<|Y U<|Y U<|gI lh K (jx H) U<|gF ml U<|gY (yl isAgg54 ((O.mono e.lez).cell (j:=2) U) U)<|Y U<|gC e U call93 (rv _ aH.A aI (e.now aJ)<|w64<|(w64<|N+1)+1) λ_ _ w e=>gA U<|gS<|S<|Y U<|gB U<|gsd 38 U (λaM=>?_) λaM=>?_
 exact gct U<|S<|gA U<|gRt<|gLr L aC<|gr1 results92 U ⟨U,e.below⟩
 refine gcf U<|gSk<|gS<|S<|Y U<|Y U<|gI lh K (jx H) U<|gF pj U<|gY (yl isAgg3 ((O.mono e.lez).cell (j:=3) U) U)<|Y U<|gB U<|gsd 45 U (λaN=>?_) λaN=>?_
 exact gct U<|S<|gA U<|gRt<|gLr L aC<|gr1 results92 U ⟨U,e.below⟩
 exact gcf U<|gSk<|gR<|Y U<|gB U<|gA U<|gR<|Y U<|gp U<|gA U<|gE<|gze e [] U
 intro _ _ w e _ _
 refine gS<|S<|Y U<|Y U ?_
 obtain ⟨_,_,rfl,_⟩:=ju M
 exact gY (yV lh U)<|gB U<|lF 9 U U<|gHh<|S<|Y U<|gA U<|gq U U ⟨U,e.below⟩
theorem y9 (w0:World) (a_:List jq) (v1:Value) (O:rp w0 v1 a_) (k_:Int) :
    k6 Tryz.prog 41 [v1,J k_] w0 (oM a_ k_) λr v w'=>v=(J r)/\Below w0.heap.size w0 w':=by
 unfold oM
 refine kQ func41 U λr e=>?_
 refine S<|gA U<|gS<|S<|gA U<|gBk<|gNf e (λaG W=>[(0,v1),(1,J W),(5,J aG)]) (λaG W=>[]) [] U ?_ ?_
 intro _ M aG W w e _ _ _ N
 refine gS<|S<|Y U<|Y U ?_
 obtain ⟨_,_,rfl,_⟩:=ju O
 refine gY (yV kZ U)<|gB U<|lT 9 U U<|S<|Y U<|Y U<|gg λaH L H=>?_
 obtain ⟨_,_,rfl⟩:=jA O H
 obtain ⟨aI,aJ,aK,K,aL,aM,aN⟩:=k4 O H
 refine gI kZ L (jx H) U<|gF ko U<|gY (yl isAgg66 ((K.mono e.lez).cell (j:=0) U) U)<|Y U<|gC e U call91 (ab2 _ aH.a aI (e.now aL) W) λaO _ w e=>gA U<|gS<|S<|Y U<|gB U<|gsd 20 U (λaP=>?_) λaP=>?_
 exact gct U<|S<|gA U<|gRt<|gLr N M<|gr1 results41 U ⟨U,e.below⟩
 refine gcf U<|gSk<|S<|Y U<|Y U<|gI kZ L (jx H) U<|gF lC U<|gY (yl isAgg53 ((K.mono e.lez).cell (j:=1) U) U)<|Y U<|gC e U call92 (aa5 _ aH.i aJ (e.now aM) aO) λaQ _ w e=>gA U<|gS<|S<|Y U<|gB U<|gsd 29 U (λaR=>?_) λaR=>?_
 exact gct U<|S<|gA U<|gRt<|gLr N M<|gr1 results41 U ⟨U,e.below⟩
 refine gcf U<|gSk<|gS<|S<|Y U<|Y U<|gI kZ L (jx H) U<|gF oR U<|gY (yl isAgg3 ((K.mono e.lez).cell (j:=2) U) U)<|Y U<|gB U<|gsd 36 U (λaS=>?_) λaS=>?_
 exact gct U<|S<|gA U<|gRt<|gLr N M<|gr1 results41 U ⟨U,e.below⟩
 refine gcf U<|gSk<|S<|Y U<|gB U<|gA U<|gS<|S<|Y U<|Y U<|gI kZ L (jx H) U<|gF oI U<|gY (yl isAgg3 ((K.mono e.lez).cell (j:=3) U) U)<|Y U<|gB U<|gsd 45 U (λaT=>?_) λaT=>?_
 exact gct U<|S<|gA U<|gRt<|gLr N M<|gr1 results41 U ⟨U,e.below⟩
 refine gcf U<|gSk<|S<|Y U<|gB U<|gA U<|S<|Y U<|Y U<|gI kZ L (jx H) U<|gF lb U<|gY (yl isAgg54 ((K.mono e.lez).cell (j:=4) U) U)<|Y U<|gC e U call93 (rv _ aH.n aK (e.now aN)<|w64<|(w64<|aQ+1)+1) λ_ _ w e=>gA U<|S<|Y U<|gB U<|gsd 56 U (λaV=>?_) λaV=>?_
 exact gct U<|S<|gA U<|gRt<|gLr N M<|gr1 results41 U ⟨U,e.below⟩
 exact gcf U<|gSk<|gR<|Y U<|gp U<|gA U<|gE<|gze e [] U
 intro _ _ w e _ _
 refine gS<|S<|Y U<|Y U ?_
 obtain ⟨_,_,rfl,_⟩:=ju O
 exact gY (yV kZ U)<|gB U<|lF 9 U U<|gHh<|S<|Y U<|gA U<|gq U U ⟨U,e.below⟩
theorem zH (M:World) (a_:List jv) (W:Value) (K:rp M W a_) (k_:Int) :
    k6 Tryz.prog 20 [W,J k_] M (qM a_ k_) λr v w'=>v=(J r)/\Below M.heap.size M w':=by
 unfold qM
 refine kQ func20 U λr e=>?_
 refine S<|gA U<|gS<|S<|gA U<|gBk<|gNf e (λaC L=>[(0,W),(1,J L),(5,J aC)]) (λaC L=>[]) [] U ?_ ?_
 intro _ O aC L w e _ _ _ N
 refine gS<|S<|Y U<|Y U ?_
 obtain ⟨_,_,rfl,_⟩:=ju K
 refine gY (yV nU U)<|gB U<|lT 9 U U<|gS<|S<|Y U<|Y U<|gg λaH aF H=>?_
 obtain ⟨_,_,rfl⟩:=jA K H
 obtain ⟨aI,aG,aJ⟩:=nQ K H
 refine gI nU aF (jx H) U<|gF nD U<|gY (yl isAgg3 ((aG.mono e.lez).cell (j:=0) U) U)<|Y U<|gB U<|gsd 18 U (λaK=>?_) λaK=>?_
 exact gct U<|S<|gA U<|gRt<|gLr N O<|gr1 results20 U ⟨U,e.below⟩
 refine gcf U<|gSk<|S<|Y U<|gB U<|gA U<|gS<|S<|Y U<|Y U<|gI nU aF (jx H) U<|gF mF U<|gY (yl isAgg3 ((aG.mono e.lez).cell (j:=1) U) U)<|Y U<|gB U<|gsd 27 U (λaL=>?_) λaL=>?_
 exact gct U<|S<|gA U<|gRt<|gLr N O<|gr1 results20 U ⟨U,e.below⟩
 refine gcf U<|gSk<|S<|Y U<|gB U<|gA U<|S<|Y U<|Y U<|gI nU aF (jx H) U<|gF kM U<|gY (yl isAgg39 ((aG.mono e.lez).cell (j:=2) U) U)<|Y U<|gC e U call41 (y9 _ aH.b aI (e.now aJ)<|w64<|(w64<|L+1)+1) λ_ _ w e=>gA U<|S<|Y U<|gB U<|gsd 38 U (λaM=>?_) λaM=>?_
 exact gct U<|S<|gA U<|gRt<|gLr N O<|gr1 results20 U ⟨U,e.below⟩
 exact gcf U<|gSk<|gR<|Y U<|gp U<|gA U<|gE<|gze e [] U
 intro _ _ w e _ _
 refine gS<|S<|Y U<|Y U ?_
 obtain ⟨_,_,rfl,_⟩:=ju K
 exact gY (yV nU U)<|gB U<|lF 9 U U<|gHh<|S<|Y U<|gA U<|gq U U ⟨U,e.below⟩
theorem wP (H:World) (K:kU) (L:Value) (N:rp H L K.C) (M:Int) :
    k6 Tryz.prog 10 [.agg #[L],J M] H (p8 K M) λr v w'=>v=(J r)/\Below H.heap.size H w':=by
 unfold p8
 refine kQ func10 U λr e=>?_
 refine S<|gBx e U λ_ w e=>gA U<|S<|gF mu U<|gL e 0 isAgg26 U<|Y U<|gC e U call20 (zH _ K.C L (e.now N) M) λ_ _ w e=>gA U<|gS<|S<|Y U<|gB U<|gsd 10 U (λO=>?_) λO=>?_
 exact gct U<|S<|gA U<|gw U U U ⟨U,e.below⟩
 exact gcf U<|gSk<|S<|Y U<|gA U<|gw U U U ⟨U,e.below⟩
theorem ua (w0:World) (O:kU) (L:Value) (h1:rp w0 L O.C) :
    k6 Tryz.prog 3 [.agg #[L]] w0 (nu O) λr v w'=>v=(.bool (r))/\Below w0.heap.size w0 w':=by
 unfold nu
 refine kQ func3 U λr e=>?_
 refine S<|gBx e U λaG w e=>gA U<|S<|gA U<|S<|gY (yn (e.blk_at 0 U) isAgg24 sizeOf24 U)<|Y U<|gC e U call4 (ap2 _ O L (e.now h1) 1048576) λ_ _ w e=>gA U<|gS<|S<|Y U<|gB U<|gsd 18 U (λaO=>?_) λaO=>?_
 exact gct U<|S<|gA U<|gw U U U ⟨U,e.below⟩
 refine gcf U<|gSk<|S<|gY (yn (e.blk_at 0 U) isAgg24 sizeOf24 U)<|gCg U call6 (rX _ O L<|e.now h1) ?_
 rintro aP _ _ w ⟨aQ,rfl,H⟩
 replace e:=e.give H
 refine gCg U call5 (yb _ aP aQ<|e.ow_rep 0 U) ?_
 rintro aC _ _ w ⟨aB,rfl,H⟩
 replace e:=e.give H
 refine Y U<|gX U<|gX U<|gAl e zeroValue28 U λaH w e=>gSN e 0 sizeOf28 (Z (kF<|e.ow_rep 1 U) kE) U λw e=>gA U<|S<|gY (yn (e.blk_at 3 U) isAgg24 sizeOf24 U)<|gCg U call6 (rX _ O L<|e.now h1) ?_
 rintro aI _ _ w ⟨M,rfl,H⟩
 replace e:=e.give H
 refine gAl e zeroValue28 U λaN w e=>gSN e 0 sizeOf28 (Z (kF<|e.ow_rep 1 U) kE) U λw e=>S<|gY (yn (e.blk_at 0 U) isAgg28 sizeOf28 U)<|gCg U call7 (u7 _ aI M<|e.ow_rep 1 U) ?_
 rintro aE _ _ w ⟨K,rfl,H⟩
 replace e:=e.give H
 let N:=ow [aB] aC.1.C
 let a2:=ow [K] aE.1.C
 let a0:=blk aG [L] 24
 let a1:=blk aH [aB] 28
 refine Y U<|gX U<|gX U<|gAl e zeroValue28 U λaF w e=>gSN e 0 sizeOf28 (Z (kF<|e.ow_rep 1 U) kE) U λw e=>gA U<|gS<|gS<|gJ e (λaJ=>[(1,pV aG),(4,pV aH),(5,.bool aC.2),(6,pV aN),(7,pV aF),(8,.bool aE.2),(40,.bool aJ)]) (λaJ=>[a0,a1,N,blk aN [M] 28,ow [M] aI.C,blk aF [K] 28,a2]) (λaJ=>?_) ?_
 refine gR<|gY (yn (e.blk_at 0 U) isAgg28 sizeOf28 U)<|gY (yn (e.blk_at 4 U) isAgg28 sizeOf28 U)<|gC e U call8 (rj _ aE.1 K (e.ow_rep 1 U) aC.1 aB<|e.ow_rep 5 U) λ_ _ w e=>gN U<|Y U<|gsn 36 U (λaR=>?_) λaR=>?_
 exact gO U<|gO U<|gO U<|gKt U<|gE<|gz e [7,4,5,2,3,0,1] U
 exact Y U<|Y U<|gY (yG U<|ao5 underlying4 U U U)<|gKf U<|gE<|gz e [7,4,5,2,3,0,1] U
 intro aJ w e
 refine gs 40 U (λaS=>?_) λaS=>?_
 exact gct U<|S<|gA U<|gw U U U ⟨U,e.below⟩
 let W:=blk aF [K] 28
 refine gcf U<|gSk<|gS<|gS<|gW (.q 0<|.e 1 (.e 2 (.e 3 (.p 4 .fin) .nil) .nil) .nil) [1,2] [4] e [0,1,2,3,4,5,6] [a0,a1,N,blk aN [M] 28,ow [M] aI.C,W,a2] U mxo (by kernel_rfl) (λ_ _ _ h=>h.2) λw e hS=>tQ U hS (λw e=>yn (e.blk_at 3 U) isAgg28 sizeOf28 U)<|tO<|tY U (yn (e.blk_at 0 U) isAgg24 sizeOf24 U)<|tAs hS<|tO<|gb λaT aV=>tf U U (λa hf=>ki hf U call6 U<|rX _ O L (e.now h1) _ aV) ?_
 rintro _ w ⟨aW,rfl,H⟩
 replace e:=e.give H
 refine tAk e [1,2,3,4,5,6,7] U λhS=>tO<|gb λ_ aX=>tf U U (λa hf=>ki hf U call8 U<|rj _ aI M (e.ow_rep 5 U) aT aW (e.ow_rep 0 U) _ aX) ?_
 rintro _ w ⟨rfl,H⟩
 replace e:=e.below' H
 refine tAn U<|tP U (λw=>yN U)<|tE<|gsn 45 U (λaY=>?_) λaY=>?_
 exact gct U<|S<|gA U<|gw U U U ⟨U,e.below⟩
 refine gcf U<|gSk<|S<|gA U<|S<|gY (yn (e.blk_at 4 U) isAgg28 sizeOf28 U)<|Y U ?_
 obtain ⟨aZ,a5,a3,a4,aa⟩:=e.take2 (L1:=[_]) (L2:=[_,_,_,_,_,_,_]) [5] [0,1,2,3,4,6,7] (dt U) U U
 refine gCg U call9 (vh _ aZ aI M 1 a3 ) ?_
 rintro _ _ _ w ⟨rfl,H⟩
 replace e:=aa _ _ H;clear H
 refine gA U<|gS<|gS<|gJ e (λaK=>[(1,pV aG),(4,pV aH),(5,.bool aC.2),(7,pV aF),(61,.bool aK)]) (λaK=>[a0,a1,N,W,a2]) (λaK=>?_) ?_
 refine gR<|Y U<|gB U<|Y U<|gsd 51 U (λab=>?_) λab=>?_
 exact gO U<|gO U<|gO U<|gO U<|gKt U<|Y U<|gO U<|gO U<|gO U<|gKt U<|gE<|gz e [2,3,4,6,7] U
 refine gY (yn (e.blk_at 6 U) isAgg28 sizeOf28 U)<|gY (yn (e.blk_at 3 U) isAgg28 sizeOf28 U)<|gC e U call8 (rj _ aE.1 K (e.ow_rep 7 U) aC.1 aB<|e.ow_rep 4 U) λ_ _ w e=>gN U<|gKf U<|Y U<|gsn 57 U (λac=>?_) λac=>?_
 exact gO U<|gO U<|gO U<|gKt U<|gE<|gz e [2,3,4,6,7] U
 exact Y U<|Y U<|gY (yG U<|ao5 underlying4 U U U)<|gKf U<|gE<|gz e [2,3,4,6,7] U
 intro aK w e
 refine gs 61 U (λae=>?_) λae=>?_
 exact gct U<|S<|gA U<|gw U U U ⟨U,e.below⟩
 refine gcf U<|gSk<|S<|gA U<|S<|gY (yn (e.blk_at 3 U) isAgg28 sizeOf28 U)<|Y U ?_
 obtain ⟨af,a5,a3,a4,ah⟩:=e.take2 (L1:=[_]) (L2:=[_,_,_,_]) [4] [0,1,2,3] (dt U) U U
 refine gCg U call9 (vh _ af aE.1 K 1 a3 ) ?_
 rintro aL _ _ w ⟨rfl,H⟩
 replace e:=ah _ _ H;clear H
 refine gA U<|S<|gA U<|S<|gY (yn (e.blk_at 4 U) isAgg28 sizeOf28 U)<|Y U<|gC e U call10 (wP _ (⟨aL.2⟩:kU) K (e.ow_rep 0 U) 1) λ_ _ w e=>gA U<|gS<|S<|Y U<|gB U<|gsd 69 U (λai=>?_) λai=>?_
 exact gct U<|S<|gA U<|gw U U U ⟨U,e.below⟩
 refine gcf U<|gSk<|gS<|S<|Y U<|Y U<|gB U<|gsd 72 U (λaj=>?_) λaj=>?_
 exact gct U<|S<|gA U<|gw U U U ⟨U,e.below⟩
 refine gcf U<|gSk<|S<|gY (yn (e.blk_at 1 U) isAgg24 sizeOf24 U)<|gCg U call6 (rX _ O L<|e.now h1) ?_
 rintro ak _ _ w ⟨al,rfl,H⟩
 replace e:=e.give H
 refine gCg U call7 (u7 _ ak al<|e.ow_rep 0 U) ?_
 rintro am _ _ w ⟨an,rfl,H⟩
 replace e:=e.give H
 refine Y U<|gX U<|gX U<|gAl e zeroValue28 U λ_ w e=>gSN e 0 sizeOf28 (Z (kF<|e.ow_rep 1 U) kE) U λw e=>gA U<|gS<|gS<|gJ e (λaM=>[(7,pV aF),(10,J aL.1),(87,.bool aM)]) (λaM=>[W,ow [K] aL.2]) (λaM=>?_) ?_
 refine gR<|gY (yn (e.blk_at 0 U) isAgg28 sizeOf28 U)<|gY (yn (e.blk_at 5 U) isAgg28 sizeOf28 U)<|gC e U call8 (rj _ am.1 an (e.ow_rep 1 U) aC.1 aB<|e.ow_rep 6 U) λ_ _ w e=>gN U<|Y U<|gsn 83 U (λao=>?_) λao=>?_
 exact gO U<|gO U<|gO U<|gKt U<|gE<|gz e [7,3] U
 exact Y U<|Y U<|gY (yG U<|ao5 underlying4 U U U)<|gKf U<|gE<|gz e [7,3] U
 intro aM w e
 refine gs 87 U (λap=>?_) λap=>?_
 exact gct U<|S<|gA U<|gw U U U ⟨U,e.below⟩
 refine gcf U<|gSk<|S<|gA U<|S<|gY (yn (e.blk_at 0 U) isAgg28 sizeOf28 U)<|Y U<|gC e U call10 (wP _ (⟨aL.2⟩:kU) K (e.ow_rep 1 U) 1) λ_ _ w e=>gA U<|gS<|S<|Y U<|gB U<|gsd 92 U (λaq=>?_) λaq=>?_
 exact gct U<|S<|gA U<|gw U U U ⟨U,e.below⟩
 refine gcf U<|gSk<|gS<|S<|Y U<|Y U<|gB U<|gsd 95 U (λar=>?_) λar=>?_
 exact gct U<|S<|gA U<|gw U U U ⟨U,e.below⟩
 exact gcf U<|gSk<|S<|gA U<|gw U U U ⟨U,e.below⟩
end Go.Proofs.YtkihhabnfheieaaGreat
