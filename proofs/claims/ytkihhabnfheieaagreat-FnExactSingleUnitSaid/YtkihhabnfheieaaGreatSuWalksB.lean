/- A part of the proof of FnExactSingleUnitSaid. -/
import Derived.Test.YtkihhabnfheieaaGreatSuWalksA
namespace Go.Proofs.YtkihhabnfheieaaGreat
open Go Go.Wk Go.RowKit
set_option maxRecDepth 4000
set_option maxHeartbeats 4000000
open Tryz
theorem ac9 (w0:World) (c_:jv) (v1:Value) (h1:rp w0 v1 c_.b) :
    k6 Tryz.prog 107 [.agg #[J c_.P,J c_.r,v1]] w0 (pY c_) λr v w'=>∃ (x1:Value),v=(.agg #[J r.P,J r.r,x1])/\Mem w0 (hp w0) w' [ow [x1] r.b]:=by
 unfold pY
 refine kQ func107 U λr e=>?_
 refine S<|gBx e U λ_ w e=>gAl e zeroValue41 U λaE w e=>S<|gY (yn (e.blk_at 1 U) isAgg41 sizeOf41 U)<|gCg U call45 (wc _ c_ v1<|e.now h1) ?_
 rintro M _ _ w ⟨aj,rfl,hB⟩
 replace e:=e.give hB
 refine gAl e zeroValue41 U λaF w e=>gSN e 0 sizeOf41 (Z U<|Z U<|Z (kF<|e.ow_rep 1 U) kE) U λw e=>S<|gY (yn (e.blk_at 0 U) isAgg41 sizeOf41 U)<|gCg U call164 (wh _ M aj<|e.ow_rep 1 U) ?_
 rintro ak _ _ w ⟨al,_,rfl,hB⟩
 replace e:=e.give hB
 refine gY (yG U<|cg1 underlying190 U U isAgg99 U U U) ?_
 obtain ⟨aH,am,K,a4⟩:=e.freeze 0 U
 replace e:=a4.d [1,2,3,4,5] U
 clear a4
 replace K:GT.rep aH [al] ak.i:=aq0 K
 refine gg λac an aS=>?_
 obtain ⟨ao,ap,_,he⟩:=jy K aS
 subst he
 obtain ⟨_,_,aT,aq⟩:=kn K aS
 have aM:=aq
 obtain ⟨aN,rfl,-⟩:=id aM
 replace aM:GT.rep aH [aN] ac:=aM
 replace aT:kS aH ao (ap+(0:Int).toNat*1) [aN]:=aT
 refine gI pR an (jx aS) U<|gY (yl isAgg97 ((aT.mono e.lez).cell (j:=0) U) U)<|gA U<|S<|gf U (λa H=>k5 (α:=kD) pq e U) ?_
 rintro _ w e
 refine gA U<|gS<|S<|gF nD U<|gL e 2 isAgg3 U<|gA U ?_
 obtain ⟨aG,aD,rfl,_⟩:=ju<|e.ow_rep 3 U
 obtain ⟨ar,au,rfl,_⟩:=ju<|e.ow_rep 0 U
 let O:=blk aF [J M.P,J M.r,sl aG M.b aD] 41
 let a0:=blk aE [J 0,J 0,nS] 41
 let a1:=os aG M.b aD
 refine gJg (λaO a w=>∃ (aV:Value),St 45 [(2,pV aE),(3,pV aF),(5,aV)] w0 aH [a0,O,a1,ow [aV] aO] a w) (λaO=>?_) ?_
 refine gBk<|gMg (λL a w=>∃ (aI:Value),St 45 [(2,pV aE),(3,pV aF),(4,aN),(5,aI),(6,J L.2)] w0 aH [a0,O,a1,ow [aI] L.1] a w) (λa H=>⟨sl ar ([]:List kD) au,H.sb U,e.d [4,2,3,0] U⟩) ?_
 rintro _ aw L a w ⟨aI,H,e⟩ _ ax
 refine gv H<|gS<|S<|Y U<|gF mF U<|gL e 1 isAgg3 U<|gB U<|gsd 20 U (λay=>?_) λay=>?_
 refine gct U<|gSk<|gS<|gJg (λaW a w=>∃ (aP:Value),St 45 [(2,pV aE),(3,pV aF),(4,aN),(5,aP),(6,J L.2)] w0 aH [a0,O,a1,ow [aP] aW] a w) (λaW=>?_) ?_
 refine gBk<|S<|Y U<|Y U<|gg λaz bA aX=>?_
 obtain ⟨bB,bC,bD,he⟩:=kG aM aX
 subst he
 refine gI mK bA (jx aX) U<|gY (yl isAgg4 ((kC (cs:=[.bool az]) (e.now aM) aX U).cell (j:=0) U) U)<|gJg (λaY a w=>∃ (aQ:Value),St 45 [(2,pV aE),(3,pV aF),(4,sw bB bC ac bD),(5,aQ),(6,J L.2)] w0 aH [a0,O,a1,ow [aQ] aY] a w) (λaY=>?_) ?_
 refine gs 26 U (λbE=>?_) λbE=>?_
 refine gct U<|gR<|Y U<|Y U<|gf U (λa H=>k5 (α:=Int) kg e U) ?_
 rintro _ w e
 obtain ⟨aJ,aK,rfl,_⟩:=ju<|e.ow_rep 0 U
 let N:=sl aJ ([]:List Int) aK
 refine gY (yG U<|mV (vs:=[(0,J 1),(1,J L.2),(2,N)]) (cs:=#[J 1,J L.2,N,J 0]) U U (by kernel_rfl))<|gf U (λa H=>kj (vs:=#[(0,.agg #[J 1,J L.2,N,J 0])]) (cs:=[J 1,J L.2,N,J 0]) pq H e U U (by kernel_rfl) U U) ?_
 rintro _ w ⟨bF,rfl,e⟩
 replace e:=e.els_nil (α:=kD)
 replace e:Mem w0 aH _ [els [] ([]:List kD),blk bF [J 1,J L.2,N,J 0] 65,ow [J 1,J L.2,N,J 0] ((⟨1,L.2,([]:List Int),0⟩:kD):kD),a0,O,a1,ow [aI] L.1]:=tX 1 L.2 0 e 2 U
 replace e:=(e.els_cons 0 2 (dt U) U U).d [0,1,3,4,5,6] U
 replace e:=(e.lit_els 1 0 (dt U) U U U U).d [1,2,3,4,5] U
 refine gb λ_ bG=>?_
 obtain ⟨bH,bJ⟩:=kP.1 bG
 replace e:=(e.both 4 0 (dt U) U U).d [1,2,3,4] U
 refine gf U (λa H=>lW (xs:=L.1) (ys:=([(⟨1,L.2,([]:List Int),0⟩:kD)]:List kD)) 3 pq H e U U U U bH) ?_
 rintro bK w e
 rw [bJ] at e
 exact gA U<|gE<|gZ λa H=>⟨bK,H.sb U,e.d [0,1,2,3] U⟩
 exact gcf U<|gSk<|gZ λa H=>⟨aI,H.sb U,e.d [0,1,2,3] U⟩
 rintro aY a w ⟨aQ,H,e⟩
 exact gv H<|gZ λa H=>⟨aQ,H.sb U,e.d [0,1,2,3] U⟩
 rintro aW a w ⟨aP,H,e⟩
 exact gv H<|gR<|Y U<|gB U<|gA U<|gE<|gZe λa H=>⟨aP,H.sb U,e.d [0,1,2,3] U⟩
 exact gcf U<|gXt<|gHh<|gLp ax aw<|gZ λa H=>⟨aI,H.sb U,e.d [0,1,2,3] U⟩
 rintro aO a w ⟨aV,H,e⟩
 let a3:=blk aE [J 0,J 0,nS] 41
 refine gv H<|gS<|gW (.p 0<|.p 2<|.p 3<|.q 1<|.e 4 (.p 5<|.p 6<|.e 7 (.e 8 (.p 9<|.p 10<|.e 11 .fin .nil) .nil) .nil) .nil) [4,7,8] [0,2,3,5,6,9,10] e [0,1] [a3,blk aF [J M.P,J M.r,sl aG M.b aD] 41] U mxo (by kernel_rfl) (λ_ _ _ h=>h.2) λw e hS=>uF kM U U<|uM U U<|uF kM U U<|tQ U hS (λw e=>yL e 1 isAgg39 U)<|tO<|tY U (yL e 1 isAgg39 U)<|tAs hS<|gg λW ae aL=>?_
 obtain ⟨aZ,aa,rfl⟩:=jA (e.ow_rep 2 U) aL
 obtain ⟨_,_,_,_,_,_,_⟩:=k4 (e.ow_rep 2 U) aL
 refine tP U (λw=>yI kZ ae (jx aL) U)<|uF lC U U<|tO ?_
 obtain ⟨af,_,ah,e⟩:=lH e 2 U aL
 refine tY U (yl isAgg53 ((e.holeE_at 5 U).cell (j:=1) U) U)<|tAk e [3,4] U λhS=>tO<|gb λab bL=>?_
 obtain ⟨bM,bN⟩:=kP.1 bL
 replace e:=(e.both 6 1 (dt U) U U).d [0,2,3,4,5,6] U
 refine tf U U (λa H=>lW (xs:=aO) (ys:=W.i) 5 pq H e U U U U bM) ?_
 rintro aR w e
 rw [bN] at e
 refine tAk e [2,3] U λhS=>?_
 have a2:=e.holeE_len 4 U
 refine tP U (λw=>yI kZ ae (kL aL a2) U)<|uF lC U U<|tO ?_
 have ai:∀ u∈([aR]:List Value),u.oneCell'=true:=(Z (kF<|e.ow_rep 5 U) kE)
 refine tf0 U U (λa H=>mw (j:=1) (vs:=[aR]) 4 H e U U U sizeOf53 U U (nA<|ai _<|List.mem_singleton.2 U) ai U) ?_
 rintro _ w e
 replace e:Mem w0 aH _ [ow [ah] W.n,ow [af] W.a,a3,blk aF [J M.P,J M.r,sw aZ aa M.b aD] 41,kY aZ aa M.b.length aD (M.b:List jq) (0:Int).toNat [af,aR,J W.j,J W.on,ah],ow [aR] ab]:=e
 refine tAn U<|tE<|gS ?_
 replace e:=(k9 W.j W.on e 1 5 0 U).d [1,2,3,4] U
 replace e:=(e.shutE (y:=((⟨W.a,ab,W.j,W.on,W.n⟩:jq):jq)) 3 0 (dt U) U U).d [1,2,3] U
 refine gR<|gY (yn (e.blk_at 1 U) isAgg41 sizeOf41 U)<|gSN e 0 sizeOf41 (Z U<|Z U<|Z U kE) U λw e=>gRt ?_
 replace e:=e.thaw am
 exact grc 0 results107 e U isAgg41 sizeOf41 ⟨sw aZ aa M.b aD,U,e.d [2] U⟩
theorem xQ (O:World) (M:jv) (v1:Value) (h1:rp O v1 M.b) :
    k6 Tryz.prog 103 [.agg #[J M.P,J M.r,v1]] O (rQ M) λr v w'=>∃ (x1:Value),v=(.agg #[J r.P,J r.r,x1])/\Mem O (hp O) w' [ow [x1] r.b]:=by
 unfold rQ
 refine kQ func103 U λr e=>?_
 let L:=J M.P
 let K:=J M.r
 refine S<|gBx e U λaD w e=>gAl e zeroValue41 U λaE w e=>S<|gF nD U<|gL e 1 isAgg3 U<|gF mF U<|gL e 1 isAgg3 U<|gY (yG U<|mV (vs:=[(0,L),(1,K)]) (cs:=#[L,K,nS]) U U (by kernel_rfl))<|gAl e zeroValue41 U λaF w e=>gSN e 0 sizeOf41 (Z U<|Z U<|Z U kE) U λw e=>gS<|S<|gA U<|gBk ?_
 replace e:=e.nilow (α:=jq)
 let W:=blk aE [J 0,J 0,nS] 41
 refine gNg (λaH aC a w=>∃ (aB:Value),St 29 [(1,pV aD),(2,pV aE),(3,pV aF),(4,J aH)] O (hp O) [blk aD [L,K,v1] 41,W,blk aF [L,K,aB] 41,ow [aB] aC] a w) (λa H=>⟨nS,H.sb U,e.d [3,2,1,0] U⟩) ?_ ?_
 rintro _ _ aH aC a w ⟨aB,H,e⟩ _ _ _ _
 refine gv H<|gS<|S<|Y U<|gF kM U<|gL e 0 isAgg39 U ?_
 obtain ⟨aL,aM,rfl,_⟩:=ju h1
 refine gY (yV kZ U)<|gB U<|lT 14 U U<|gW (.p 0<|.p 2<|.p 4<|.q 1<|.e 3 (.p 5<|.e 6 (.e 7 (.e 8 (.e 9 (.p 10<|.e 11 .fin .nil) .nil) .nil) .nil) .nil) .nil) [3,6,7,8] [0,2,4,5,10] e [0,1,2,3] [blk aD [L,K,sl aL M.b aM] 41,W,blk aF [L,K,aB] 41,ow [aB] aC] U mxo (by kernel_rfl) (λ_ _ _ h=>h.2) λw e hS=>uF kM U U<|uF kM U U<|uM U U<|tQ U hS (λw e=>yL e 2 isAgg39 U)<|tO<|tY U (yL e 0 isAgg39 U)<|tAs hS<|gg λaN aO aG=>?_
 obtain ⟨_,_,rfl⟩:=jA h1 aG
 obtain ⟨aP,aQ,aR,aS,aT,aV,aW⟩:=k4 h1 aG
 refine tP U (λw=>yI kZ aO (jx aG) U)<|tO<|tY U (yn (aS.mono e.lez) isAgg68 sizeOf68 U)<|tAs hS<|tO<|gb λN aX=>tf U U (λa H=>ki H U call100 U<|od _ aN aP (e.now aT) aQ (e.now aV) aR (e.now aW) _ aX) ?_
 rintro _ w ⟨aI,aJ,aK,rfl,hB⟩
 replace e:=e.give hB
 refine tAk e [3,4,5,6] U λhS=>tO<|tf U U (λa H=>kj (vs:=#[(0,.agg #[aI,aJ,J N.j,J N.on,aK])]) (cs:=[aI,aJ,J N.j,J N.on,aK]) zu H e U U (by kernel_rfl) U U) ?_
 rintro _ w ⟨_,rfl,e⟩
 replace e:=e.els_nil (α:=jq)
 replace e:=(k9 N.j N.on e 2 3 4 U).d [0,1,2,5,6,7,8] U
 replace e:=(e.els_cons 0 2 (dt U) U U).d [0,1,3,4,5,6] U
 replace e:=(e.lit_els 1 0 (dt U) U U U U).d [1,2,3,4,5] U
 refine tAk e [1,2,3,4] U λhS=>tO<|gb λ_ aY=>?_
 obtain ⟨aZ,aa⟩:=kP.1 aY
 replace e:=(e.both 4 0 (dt U) U U).d [1,2,3,4] U
 refine tf U U (λa H=>lW (xs:=aC) (ys:=([N]:List jq)) 3 zu H e U U U U aZ) ?_
 rintro ab w e
 rw [aa] at e
 refine tAn U<|uF kM U U<|tO<|tf0 U U (λa H=>qm 2 H e U sizeOf39 U U U (kF<|e.ow_rep 3 U) U) ?_
 rintro _ w e
 exact tAn U<|tE<|gR<|Y U<|gp U<|gA U<|gE<|gZe λa H=>⟨ab,H.sb U,e.d [0,1,2,3] U⟩
 rintro _ _ a w ⟨ac,H,e⟩ _ _
 refine gv H<|gS<|S<|Y U<|gF kM U<|gL e 0 isAgg39 U ?_
 obtain ⟨_,_,rfl,_⟩:=ju h1
 exact gY (yV kZ U)<|gB U<|lF 14 U U<|gHh<|S<|gY (yn (e.blk_at 2 U) isAgg41 sizeOf41 U)<|gSN e 1 sizeOf41 (Z U<|Z U<|Z (kF<|e.ow_rep 3 U) kE) U λw e=>gRt<|grc 1 results103 e U isAgg41 sizeOf41 ⟨ac,U,e.d [3] U⟩
theorem wg (w0:World) (K:jv) (v1:Value) (h1:rp w0 v1 K.b) :
    k6 Tryz.prog 109 [.agg #[J K.P,J K.r,v1]] w0 (pL K) λr v w'=>∃ (x1:Value),v=x1/\Mem w0 (hp w0) w' [ow [x1] r]:=by
 unfold pL
 refine kQ func109 U λr e=>?_
 refine S<|gBx e U λaD w e=>gA U<|S<|gF kM U<|gL e 0 isAgg39 U ?_
 obtain ⟨aM,aN,rfl,_⟩:=ju h1
 refine gY (yV kZ U)<|gA U<|S<|gf U (λa H=>k5 (α:=List Bool) zX e U) ?_
 rintro _ w e
 refine gA U<|S<|Y U<|gb λaf ap=>?_
 obtain ⟨⟨aq,ar⟩,ah⟩:=lU.1 ap
 refine gf U (λa H=>ni (x0:=(false:Bool)) uh (λ_=>(Flat.own_iff.2 U)) H e U U U aq (Int.le_refl _) ar) ?_
 rintro au w e
 rw [ah] at e
 have b4:(af.length:Int)=(K.b.length:Int):=by rw [<- ah];simp only [List.length_replicate];omega
 refine gA U<|S<|gY (yn (e.blk_at 2 U) isAgg41 sizeOf41 U)<|Y U<|gf U (λa H=>k5 (α:=Int) kg e U) ?_
 rintro aw w e
 obtain ⟨ax,a2,a7,a9,ay⟩:=e.take2 (L1:=[_,_]) (L2:=[_,_]) [1,0] [2,3] (dt U) U U
 refine gCg U call102 (qZ _ ax K (sl aM K.b aN) (GT.mono a2 h1) 0 af au ([]:List Int) aw a7 ) ?_
 rintro aA _ _ w ⟨_,rfl,hB⟩
 replace e:=ay _ _ hB;clear hB
 refine gS<|S<|gA U ?_
 obtain ⟨az,bA,rfl,_⟩:=ju<|e.ow_rep 2 U
 obtain ⟨aE,aF,rfl,_⟩:=ju<|e.ow_rep 1 U
 let O:=sl aE aA.2 aF
 let N:=os aE aA.2 aF
 refine gBk<|gNg (λaO W a w=>∃ (aQ:Value),St 74 [(1,pV aD),(3,J<|(K.b.length:Int)),(4,aQ),(5,O),(6,J aO)] w0 (hp w0) [blk aD [J K.P,J K.r,sl aM K.b aN] 41,ow [aQ] W,N] a w) (λa H=>⟨sl az ([]:List (List Bool)) bA,H.sb U,e.d [3,2,1] U⟩) ?_ ?_
 rintro _ _ aO W a w ⟨aQ,H,e⟩ _ _ _ _
 refine gv H<|gS<|S<|Y U<|Y U<|gB U<|lT 22 U U<|S<|Y U<|gb λaC bB=>?_
 obtain ⟨⟨bC,bD⟩,ai⟩:=lU.1 bB
 refine gf U (λa H=>ni (x0:=(false:Bool)) uh (λ_=>(Flat.own_iff.2 U)) H e U U U bC (Int.le_refl _) bD) ?_
 rintro _ w e
 rw [ai] at e
 have b3:(aC.length:Int)=(K.b.length:Int):=by rw [<- ai];simp only [List.length_replicate];omega
 refine gA U<|S<|Y U<|Y U<|gg λ_ aj aR=>?_
 obtain ⟨aH,aI,aJ,he⟩:=kG (e.ow_rep 0 U) aR
 subst he
 refine gI mK aj (jx aR) U<|gf0 U (λa H=>lI (x1:=true) (j:=0) (vs:=[.bool true]) 0 H e U aR U sizeOf4 U U U (Z U kE) U U) ?_
 rintro _ w e
 have ak:=List.getElem?_set_self (a:=true)<|jx aR
 let L:=sw aH aI aC aJ
 refine gS<|S<|Y U<|gB U<|gJ e (λaP=>[(1,pV aD),(3,J<|(K.b.length:Int)),(4,aQ),(5,O),(6,J aO),(7,L)]) (λaP=>[blk aD [J K.P,J K.r,sl aM K.b aN] 41,ow [aQ] W,N,ow [L] aP]) (λaP=>?_) ?_
 refine gsd 31 U (λbE=>?_) λbE=>?_
 refine gct U<|S<|gY (yn (e.blk_at 1 U) isAgg41 sizeOf41 U)<|Y U<|gf U (λa H=>k5 (α:=Int) kg e U) ?_
 rintro bF w e
 obtain ⟨bG,a2,a7,a9,bH⟩:=e.take2 (L1:=[_,_]) (L2:=[_,_,_]) [1,0] [2,3,4] (dt U) U U
 refine gCg U call102 (qZ _ bG K (sl aM K.b aN) (GT.mono a2 h1) 0 (aC.set aO.toNat true) L ([]:List Int) bF a7 ) ?_
 rintro _ _ _ w ⟨_,rfl,hB⟩
 replace e:=bH _ _ hB;clear hB
 refine gR<|Y U<|Y U<|gg λ_ bJ ab=>?_
 have a4:=kB<|e.ow_rep 1 U
 refine gI mK bJ (kL ab a4) U<|gf0 U (λa H=>lI (x1:=false) (j:=0) (vs:=[.bool false]) 1 H e U ab U sizeOf4 U U U (Z U kE) U U) ?_
 rintro _ w e
 exact gE<|gz e [2,3,4,1] U
 refine gcf U<|gR<|Y U<|Y U ?_
 have a0:=kB<|e.ow_rep 0 U
 refine gI mK aj (kL ak a0) U<|gf0 U (λa H=>lI (x1:=false) (j:=0) (vs:=[.bool false]) 0 H e U ak U sizeOf4 U U U (Z U kE) U U) ?_
 rintro _ w e
 simp only [List.set_set] at e
 exact gE<|gz e [1,2,3,0] U
 intro aP w e
 refine S<|Y U<|gb λaG bK=>?_
 obtain ⟨⟨bL,bM⟩,al⟩:=lU.1 bK
 refine gf U (λa H=>ni (x0:=(false:Bool)) uh (λ_=>(Flat.own_iff.2 U)) H e U U U bL (Int.le_refl _) bM) ?_
 rintro _ w e
 rw [al] at e
 have b0:(aG.length:Int)=(K.b.length:Int):=by rw [<- al];simp only [List.length_replicate];omega
 refine gA U<|gS<|S<|gA U ?_
 obtain ⟨aS,aT,rfl,_⟩:=ju<|e.ow_rep 2 U
 obtain ⟨aK,aL,rfl,_⟩:=ju<|e.ow_rep 0 U
 let M:=sl aK aG aL
 let a8:=blk aD [J K.P,J K.r,sl aM K.b aN] 41
 let aU:=J<|(K.b.length:Int)
 refine gBk<|gNf e (λaV ac=>[(1,pV aD),(3,aU),(4,sl aS W aT),(5,O),(6,J aO),(7,L),(8,M),(9,J aV)]) (λaV ac=>[a8,os aS W aT,N,ow [L] aP,ow [M] ac]) [1,2,3,4,0] U ?_ ?_
 intro _ _ aV ac w e _ _ _ _
 refine gS<|S<|Y U<|Y U<|gB U<|lT 46 U U<|gJ e (λaW=>[(1,pV aD),(3,aU),(4,sl aS W aT),(5,O),(6,J aO),(7,L),(8,M),(9,J aV)]) (λaW=>[a8,os aS W aT,N,ow [L] aP,ow [M] aW]) (λaW=>?_) ?_
 refine gR<|Y U<|Y U<|Y U<|Y U<|gg λbN bO ae=>?_
 obtain ⟨_,_,rfl⟩:=jA (e.ow_rep 2 U) ae
 refine gI mK bO (jx ae) U<|gY (yl isAgg4 ((kC (cs:=[.bool bN]) (e.ow_rep 2 U) ae U).cell (j:=0) U) U)<|Y U<|gs 55 U (λbP=>?_) λbP=>?_
 refine Y U<|Y U<|gg λbQ bR am=>gI mK bR (jx am) U<|gY (yl isAgg4 ((kC (cs:=[.bool bQ]) (e.ow_rep 2 U) am U).cell (j:=0) U) U)<|gKt U<|Y U<|gs 61 U (λbS=>?_) λbS=>?_
 refine Y U<|Y U<|gg λaX bT an=>?_
 have a5:=kB<|e.ow_rep 3 U
 refine gI mK bT (kL an a5) U<|gY (yl isAgg4 ((kC (cs:=[.bool aX]) (e.ow_rep 3 U) an U).cell (j:=0) U) U)<|gN U<|gKt U<|gg λ_ bU aY=>?_
 obtain ⟨_,_,rfl⟩:=jA (e.ow_rep 4 U) aY
 have a3:=kB<|e.ow_rep 4 U
 refine gI mK bU (kL aY a3) U<|gf0 U (λa H=>lI (x1:=!aX) (j:=0) (vs:=[.bool<|!aX]) 4 H e U aY U sizeOf4 U U U (Z U kE) U U) ?_
 rintro _ w e
 exact gE<|gz e [0,1,2,3,4] U
 refine gO U<|gO U<|gO U<|gO U<|gO U<|gKf U<|gg λ_ bV aZ=>?_
 obtain ⟨_,_,rfl⟩:=jA (e.ow_rep 4 U) aZ
 have a6:=kB<|e.ow_rep 4 U
 refine gI mK bV (kL aZ a6) U<|gf0 U (λa H=>lI (x1:=false) (j:=0) (vs:=[.bool false]) 4 H e U aZ U sizeOf4 U U U (Z U kE) U U) ?_
 rintro _ w e
 exact gE<|gz e [0,1,2,3,4] U
 refine gO U<|gO U<|gO U<|gO U<|gKf U<|Y U<|gO U<|gO U<|gO U<|gO U<|gO U<|gKf U<|gg λ_ bW aa=>?_
 obtain ⟨_,_,rfl⟩:=jA (e.ow_rep 4 U) aa
 have a1:=kB<|e.ow_rep 4 U
 refine gI mK bW (kL aa a1) U<|gf0 U (λa H=>lI (x1:=false) (j:=0) (vs:=[.bool false]) 4 H e U aa U sizeOf4 U U U (Z U kE) U U) ?_
 rintro _ w e
 exact gE<|gz e [0,1,2,3,4] U
 intro aW w e
 exact gR<|Y U<|gp U<|gA U<|gE<|gze e [0,1,2,3,4] U
 intro _ ao w e _ _
 refine gS<|S<|Y U<|Y U<|gB U<|lF 46 U U<|gHh<|gR<|Y U<|Y U<|gf U (λa H=>kj (vs:=#[(0,M)]) (cs:=[M]) zX H e U U (by kernel_rfl) U U) ?_
 rintro _ w ⟨_,rfl,e⟩
 replace e:=e.els_nil (α:=List Bool)
 replace e:=e.imp (c':=ow [M] (ao:List Bool)) 6 U λF h0=>h0
 replace e:=(e.els_cons 0 6 (dt U) U U).d [0,1,2,3,4,5] U
 replace e:=(e.lit_els 1 0 (dt U) U U U U).d [1,2,3,4,5] U
 refine gb λ_ bX=>?_
 obtain ⟨bY,bZ⟩:=kP.1 bX
 replace e:=(e.both 2 0 (dt U) U U).d [1,2,3,4] U
 refine gf U (λa H=>lW (xs:=W) (ys:=([ao]:List (List Bool))) 1 zX H e U U U U bY) ?_
 rintro b8 w e
 rw [bZ] at e
 exact gA U<|gR<|Y U<|gp U<|gA U<|gE<|gZe λa H=>⟨b8,H.sb U,e.d [0,1,2] U⟩
 rintro _ _ a w ⟨b9,H,e⟩ _ _
 exact gv H<|gS<|S<|Y U<|Y U<|gB U<|lF 22 U U<|gHh<|S<|Y U<|gA U<|gq U U ⟨b9,U,e.d [1] U⟩
theorem af7 (w0:World) (H:jv) (v1:Value) (h1:rp w0 v1 H.b) :
    k6 Tryz.prog 167 [.agg #[J H.P,J H.r,v1]] w0 (qT H) λr v w'=>∃ (x1:Value),v=x1/\Mem w0 (hp w0) w' [ow [x1] r]:=by
 unfold qT
 refine kQ func167 U λr e=>?_
 refine S<|gBx e U λN w e=>gA U<|S<|gF mF U<|gL e 0 isAgg3 U<|gb λaA bO=>?_
 obtain ⟨⟨bP,bQ⟩,ay⟩:=lU.1 bO
 refine gf U (λa L=>ni (x0:=([]:List (List Int))) ct4 (λ_=>ke.2<|.inl ⟨U,U⟩) L e U U U bP (Int.le_refl _) bQ) ?_
 rintro _ w e
 rw [ay] at e
 have b3:(aA.length:Int)=H.r:=by rw [<- ay];simp only [List.length_replicate];omega
 refine gA U<|gS<|S<|gA U ?_
 obtain ⟨aE,aB,rfl,_⟩:=ju<|e.ow_rep 0 U
 let O:=sl aE aA aB
 let a6:=J H.P
 refine gBk<|gNf e (λK ac=>[(1,pV N),(3,O),(4,J K)]) (λK ac=>[blk N [a6,J H.r,v1] 41,ow [O] ac]) [1,0] U ?_ ?_
 intro _ _ K ac w e _ _ _ _
 refine gS<|S<|Y U<|gF kM U<|gL e 0 isAgg39 U ?_
 obtain ⟨aM,aG,rfl,_⟩:=ju h1
 let aU:=blk N [a6,J H.r,sl aM H.b aG] 41
 refine gY (yV kZ U)<|gB U<|lT 16 U U<|gS<|S<|gA U<|gJ e (λaN=>[(1,pV N),(3,O),(4,J K)]) (λaN=>[aU,ow [O] aN]) (λaN=>?_) ?_
 refine gBk<|gMf e (λaH=>[(1,pV N),(3,O),(4,J K),(5,J aH.2)]) (λaH=>[aU,ow [O] aH.1]) [0,1] U ?_
 intro _ bR aH w e _ bS
 refine gS<|S<|Y U<|gF kM U<|gL e 0 isAgg39 U<|Y U<|gg λ_ az aO=>?_
 obtain ⟨bA,bB,rfl⟩:=jA h1 aO
 obtain ⟨_,_,_,bC,ae,_,_⟩:=k4 h1 aO
 refine gI kZ az (jx aO) U<|gF ko U<|gY (yl isAgg66 ((bC.mono e.lez).cell (j:=0) U) U) ?_
 obtain ⟨_,_,rfl,_⟩:=ju ae
 refine gY (yV lY U)<|gB U<|gsd 27 U (λbT=>?_) λbT=>?_
 refine gct U<|gSk<|gS<|gBk<|S<|gF kM U<|gL e 0 isAgg39 U<|Y U<|gI kZ az (jx aO) U<|gF ko U<|gY (yl isAgg66 ((bC.mono e.lez).cell (j:=0) U) U)<|Y U<|gg λaf bU ah=>?_
 obtain ⟨_,_,rfl⟩:=jA ae ah
 obtain ⟨_,bV,_⟩:=mP ae ah
 refine gI lY bU (jx ah) U<|gF oH U<|gY (yl isAgg3 ((bV.mono e.lez).cell (j:=0) U) U)<|gA U<|gR<|Y U<|Y U<|Y U<|Y U<|gg λaP bD aI=>?_
 obtain ⟨ai,aj,rfl⟩:=jA (e.ow_rep 1 U) aI
 obtain ⟨_,_,_,bW⟩:=kn (e.ow_rep 1 U) aI
 have ak:=bW
 obtain ⟨_,rfl,-⟩:=id ak
 have a7:=kB<|e.ow_rep 1 U
 refine gI ac8 bD (kL aI a7) U ?_
 obtain ⟨_,bX,e⟩:=e.openE 1 U aI
 have bY:=e.ow_rep 0 U
 have aQ:=bY
 obtain ⟨al,rfl,-⟩:=id aQ
 replace aQ:GT.rep (hp _) [al] aP:=aQ
 clear bX aQ
 replace e:Mem w0 (hp w0) _ [ow [al] (aP:List (List Int)),blk N [a6,J H.r,sw bA bB H.b aG] 41,kY ai aj aA.length aB (aH.1:List (List<|List Int)) af.to.toNat [al]]:=e
 replace e:=e.d [0,1,2] U
 refine gY (yl isAgg59 ((e.holeE_at 2 U).cell (j:=0) U) U)<|Y U<|gf U (λa L=>kj (vs:=#[(0,J K),(1,J<|-1)]) (cs:=[J K,J<|-1]) kg L e U U (by kernel_rfl) U U) ?_
 rintro _ w ⟨am,rfl,e⟩
 replace e:=e.lit (xs:=([K,-1]:List Int)) 0 U U U U
 let a5:=sV am 0 2 2
 refine gf U (λa L=>kj (vs:=#[(0,a5)]) (cs:=[a5]) aw0 L e U U (by kernel_rfl) U U) ?_
 rintro _ w ⟨_,rfl,e⟩
 replace e:=e.els_nil (α:=List Int)
 replace e:=e.imp (c':=ow [a5] (([K,-1]:List Int):List Int)) 2 U λF h0=>h0
 replace e:=(e.els_cons 0 2 (dt U) U U).d [0,1,3,4,5] U
 replace e:=(e.lit_els 1 0 (dt U) U U U U).d [1,2,3,4] U
 refine gb λaR bZ=>?_
 obtain ⟨b8,b9⟩:=kP.1 bZ
 replace e:=(e.both 1 0 (dt U) U U).d [1,2,3] U
 refine gf U (λa L=>lW (xs:=aP) (ys:=([([K,-1]:List Int)]:List (List Int))) 0 aw0 L e U U U U b8) ?_
 rintro aK w e
 rw [b9] at e
 have a3:=e.holeE_len 2 U
 refine gI ac8 bD (kL aI a3) U ?_
 have bG:∀ u∈([aK]:List Value),u.oneCell'=true:=(Z (kF<|e.ow_rep 0 U) kE)
 refine gf0 U (λa L=>mw (j:=0) (vs:=[aK]) 2 L e U U U sizeOf59 U U (nA<|bG _<|List.mem_singleton.2 U) bG U) ?_
 rintro _ w e
 replace e:Mem w0 (hp w0) _ [ow [aK] aR,blk N [J H.P,J H.r,sw bA bB H.b aG] 41,kY ai aj aA.length aB (aH.1:List (List<|List Int)) af.to.toNat [aK]]:=e
 refine gE ?_
 replace e:=e.imp (c':=ow [aK] (aR:List (List Int))) 0 U λF h0=>h0
 replace e:=(e.shutE (y:=(aR:List (List Int))) 2 0 (dt U) U U).d [1,2] U
 exact gR<|Y U<|gB U<|gA U<|gE<|gze e [0,1] U
 exact gcf U<|gXt<|gHh<|gLp bS bR<|gz e [0,1] U
 intro aN w e
 let M:=sl aE aA aB
 let a1:=J H.P
 let b0:=blk N [a1,J H.r,sl aM H.b aG] 41
 refine S<|gA U<|gJ e (λaS=>[(1,pV N),(3,M),(4,J K)]) (λaS=>[b0,ow [M] aS]) (λaS=>?_) ?_
 refine gBk<|gMf e (λW=>[(1,pV N),(3,M),(4,J K),(7,J W.2)]) (λW=>[b0,ow [M] W.1]) [0,1] U ?_
 intro _ ba W w e _ bb
 refine gS<|S<|Y U<|gF kM U<|gL e 0 isAgg39 U<|Y U<|gg λ_ bH aT=>?_
 obtain ⟨aV,aW,rfl⟩:=jA h1 aT
 obtain ⟨_,_,_,bJ,_,an,_⟩:=k4 h1 aT
 refine gI kZ bH (jx aT) U<|gF lC U<|gY (yl isAgg53 ((bJ.mono e.lez).cell (j:=1) U) U) ?_
 obtain ⟨_,_,rfl,_⟩:=ju an
 refine gY (yV lh U)<|gB U<|gsd 59 U (λbc=>?_) λbc=>?_
 let a9:=sw aV aW H.b aG
 let a2:=blk N [a1,J H.r,a9] 41
 refine gct U<|gSk<|gS<|gJ e (λaX=>[(1,pV N),(3,M),(4,J K),(7,J W.2)]) (λaX=>[a2,ow [M] aX]) (λaX=>?_) ?_
 refine gBk<|S<|gF kM U<|gL e 0 isAgg39 U<|Y U<|gI kZ bH (jx aT) U<|gF lC U<|gY (yl isAgg53 ((bJ.mono e.lez).cell (j:=1) U) U)<|Y U<|gg λbd be ao=>?_
 obtain ⟨_,_,rfl⟩:=jA an ao
 obtain ⟨bf,bg,bh⟩:=nO an ao
 refine gI lh be (jx ao) U<|gY (yn (bg.mono e.lez) isAgg65 sizeOf65 U)<|gC e U call210 (xO _ bd bf<|e.now bh) λap _ w e=>gA U<|S<|Y U<|gB U<|gJ e (λaY=>[(1,pV N),(3,M),(4,J K),(7,J W.2)]) (λaY=>[a2,ow [M] aY]) (λaY=>?_) ?_
 refine gsd 73 U (λbi=>?_) λbi=>?_
 refine gct U<|gR<|Y U<|Y U<|Y U<|Y U<|gg λaZ bK aJ=>?_
 obtain ⟨aq,ar,rfl⟩:=jA (e.ow_rep 1 U) aJ
 obtain ⟨_,_,_,bj⟩:=kn (e.ow_rep 1 U) aJ
 have au:=bj
 obtain ⟨_,rfl,-⟩:=id au
 have a0:=kB<|e.ow_rep 1 U
 refine gI ac8 bK (kL aJ a0) U ?_
 obtain ⟨_,bk,e⟩:=e.openE 1 U aJ
 have bl:=e.ow_rep 0 U
 have aa:=bl
 obtain ⟨aw,rfl,-⟩:=id aa
 replace aa:GT.rep (hp _) [aw] aZ:=aa
 clear bk aa
 replace e:Mem w0 (hp w0) _ [ow [aw] (aZ:List (List Int)),a2,kY aq ar aA.length aB (W.1:List (List<|List Int)) ap.toNat [aw]]:=e
 replace e:=e.d [0,1,2] U
 refine gY (yl isAgg59 ((e.holeE_at 2 U).cell (j:=0) U) U)<|Y U<|Y U<|gf U (λa L=>kj (vs:=#[(0,J K),(1,J W.2)]) (cs:=[J K,J W.2]) kg L e U U (by kernel_rfl) U U) ?_
 rintro _ w ⟨ax,rfl,e⟩
 replace e:=e.lit (xs:=([K,W.2]:List Int)) 0 U U U U
 let a4:=sV ax 0 2 2
 refine gf U (λa L=>kj (vs:=#[(0,a4)]) (cs:=[a4]) aw0 L e U U (by kernel_rfl) U U) ?_
 rintro _ w ⟨_,rfl,e⟩
 replace e:=e.els_nil (α:=List Int)
 replace e:=e.imp (c':=ow [a4] (([K,W.2]:List Int):List Int)) 2 U λF h0=>h0
 replace e:=(e.els_cons 0 2 (dt U) U U).d [0,1,3,4,5] U
 replace e:=(e.lit_els 1 0 (dt U) U U U U).d [1,2,3,4] U
 refine gb λab bm=>?_
 obtain ⟨bo,bp⟩:=kP.1 bm
 replace e:=(e.both 1 0 (dt U) U U).d [1,2,3] U
 refine gf U (λa L=>lW (xs:=aZ) (ys:=([([K,W.2]:List Int)]:List (List Int))) 0 aw0 L e U U U U bo) ?_
 rintro aL w e
 rw [bp] at e
 have a8:=e.holeE_len 2 U
 refine gI ac8 bK (kL aJ a8) U ?_
 have bN:∀ u∈([aL]:List Value),u.oneCell'=true:=(Z (kF<|e.ow_rep 0 U) kE)
 refine gf0 U (λa L=>mw (j:=0) (vs:=[aL]) 2 L e U U U sizeOf59 U U (nA<|bN _<|List.mem_singleton.2 U) bN U) ?_
 rintro _ w e
 replace e:Mem w0 (hp w0) _ [ow [aL] ab,blk N [a1,J H.r,a9] 41,kY aq ar aA.length aB (W.1:List (List<|List Int)) ap.toNat [aL]]:=e
 refine gE ?_
 replace e:=e.imp (c':=ow [aL] (ab:List (List Int))) 0 U λF h0=>h0
 replace e:=(e.shutE (y:=(ab:List (List Int))) 2 0 (dt U) U U).d [1,2] U
 exact gz e [0,1] U
 exact gcf U<|gSk<|gz e [0,1] U
 intro aY w e
 exact gz e [0,1] U
 intro aX w e
 exact gR<|Y U<|gB U<|gA U<|gE<|gze e [0,1] U
 exact gcf U<|gXt<|gHh<|gLp bb ba<|gz e [0,1] U
 intro aS w e
 exact gR<|Y U<|gp U<|gA U<|gE<|gze e [0,1] U
 intro _ _ w e _ _
 refine gS<|S<|Y U<|gF kM U<|gL e 0 isAgg39 U ?_
 obtain ⟨_,_,rfl,_⟩:=ju h1
 exact gY (yV kZ U)<|gB U<|lF 16 U U<|gHh<|S<|Y U<|gA U<|gq U U ⟨sl aE aA aB,U,e.d [1] U⟩
theorem yJ (K:World) (c_:jv) (v1:Value) (h1:rp K v1 c_.b) (ld:List (List Bool)) (v2:Value) (h2:rp K v2 ld) (b_:Int) :
    k6 Tryz.prog 211 [.agg #[J c_.P,J c_.r,v1],v2,J b_] K (oC c_ ld b_) λr v w'=>∃ (x1:Value),v=x1/\Mem K (hp K) w' [ow [x1] r]:=by
 unfold oC
 refine kQ func211 U λr e=>?_
 refine S<|gBx e U λaB w e=>gA U<|S<|gf U (λa H=>k5 (α:=Int) kg e U) ?_
 rintro _ w e
 refine gA U<|gS<|S<|gA U ?_
 obtain ⟨aa,ab,rfl,_⟩:=ju<|e.ow_rep 0 U
 let L:=blk aB [J c_.P,J c_.r,v1] 41
 refine gBk<|gNg (λW aQ a w=>∃ (aR:Value),St 56 [(1,v2),(2,J b_),(3,pV aB),(7,aR),(8,J W)] K (hp K) [L,ow [aR] aQ] a w) (λa H=>⟨sl aa ([]:List Int) ab,H.sb U,e.d [1,0] U⟩) ?_ ?_
 rintro _ _ W aQ a w ⟨aR,H,e⟩ _ _ _ _
 refine gv H<|gS<|S<|Y U<|Y U ?_
 obtain ⟨aI,aJ,rfl,_⟩:=ju h2
 refine gY (yV pR U)<|gB U<|lT 15 U U<|S<|gY (yn (e.blk_at 0 U) isAgg41 sizeOf41 U)<|Y U<|gCg U call96 (nj _ c_ v1 (e.now h1) W) ?_
 rintro aA _ _ w ⟨_,rfl,hB⟩
 replace e:=e.give hB
 refine gA U<|S<|gA U ?_
 obtain ⟨ac,ae,rfl,_⟩:=ju<|e.ow_rep 2 U
 obtain ⟨aD,aE,rfl,_⟩:=ju<|e.ow_rep 0 U
 let O:=sl aI ld aJ
 let M:=sl aD aA aE
 let N:=os aD aA aE
 refine gBk<|gNg (λaH aK a w=>∃ (aF:Value),St 56 [(1,O),(2,J b_),(3,pV aB),(7,aF),(8,J W),(9,M),(10,J aH)] K (hp K) [L,ow [aF] aK,N] a w) (λa H=>⟨sl ac aQ ae,H.sb U,e.d [1,2,0] U⟩) ?_ ?_
 rintro _ _ aH aK a w ⟨aF,H,e⟩ _ _ _ _
 refine gv H<|gS<|S<|Y U<|Y U<|gY (yV kI U)<|gB U<|go _ 24 U (decide_eq_true (by omega))<|gct U<|gSk<|gS<|gJg (λaS a w=>∃ (aL:Value),St 56 [(1,O),(2,J b_),(3,pV aB),(7,aL),(8,J W),(9,M),(10,J aH)] K (hp K) [L,ow [aL] aS,N] a w) (λaS=>?_) ?_
 refine gBk<|gS<|gJ e (λaM=>[(1,O),(2,J b_),(3,pV aB),(7,aF),(8,J W),(9,M),(10,J aH),(51,.bool aM)]) (λaM=>[L,ow [aF] aK,N]) (λaM=>?_) ?_
 refine gW (.p 0<|.p 1<|.p 2<|.p 4<|.p 5<|.p 6<|.q 3<|.e 7 (.p 8<|.e 9 (.p 10<|.p 11<|.p 12<|.p 13<|.p 14<|.p 15<|.p 16<|.p 17<|.p 19<|.e 18 (.p 20<|.e 21 (.p 22<|.p 23<|.p 24 .fin) .nil) .nil) .nil) .nil) [7] [0,1,2,4,5,6,8,10,11,12,13,14,15,16,17,19,20,22,23,24] e [0,1,2] [_,_,_] U mxo (by kernel_rfl) (λ_ _ _ h=>h.2) λw e hS=>uM U U<|uM U U<|gg λaf aX aN=>?_
 obtain ⟨ah,ai,rfl⟩:=jA h2 aN
 obtain ⟨_,_,aO,aj⟩:=kn h2 aN
 have aG:=aj
 obtain ⟨aY,rfl,-⟩:=id aG
 replace aG:GT.rep (hp K) [aY] af:=aG
 replace aO:kS (hp K) ah (ai+b_.toNat*1) [aY]:=aO
 refine tP U (λw=>yI pR aX (jx aN) U)<|uM U U<|uM U U<|gg λak al aT=>?_
 obtain ⟨_,_,rfl⟩:=jA (e.ow_rep 2 U) aT
 refine tP U (λw=>yI kI al (jx aT) U)<|tQ U hS (λw e=>yl isAgg97 ((aO.mono e.lez).cell (j:=0) U) U)<|tO<|tY U (yl isAgg3 ((kC (cs:=[J ak]) (e.ow_rep 2 U) aT U).cell (j:=0) U) U)<|tAs hS<|gg λam an aV=>?_
 obtain ⟨_,_,_,he⟩:=kG aG aV
 subst he
 refine tP U (λw=>yI mK an (jx aV) U)<|tO<|tY U (yl isAgg4 ((kC (cs:=[.bool am]) (e.now aG) aV U).cell (j:=0) U) U)<|tAn U<|uM U U<|gs 37 U (λao=>?_) λao=>?_
 refine uM U U<|uM U U<|uB U U<|uM U U<|gsd 41 U (λap=>?_) λap=>?_
 exact tPo U U<|tPo U U<|tPo U U<|tPo U U<|tO<|tEo U U<|tAn U<|tPo U U<|tO<|tEo U U<|tAn U<|tPo U U<|uT U U<|uT U U<|tE<|gz e [0,1,2] U
 exact uM U U<|uM U U<|tP U (λw=>yI pR aX (jx aN) U)<|uM U U<|tO<|tY U (yl isAgg97 ((aO.mono e.lez).cell (j:=0) U) U)<|tAn U<|gg λaq ar aZ=>tP U (λw=>yI mK ar (jx aZ) U)<|tO<|tY U (yl isAgg4 ((kC (cs:=[.bool aq]) (e.now aG) aZ U).cell (j:=0) U) U)<|tAn U<|tP U (λw=>yN U)<|uK U U<|uT U U<|tE<|gz e [0,1,2] U
 exact tPo U U<|tPo U U<|tPo U U<|tPo U U<|tPo U U<|tPo U U<|tPo U U<|tPo U U<|tO<|tEo U U<|tAn U<|tPo U U<|tO<|tEo U U<|tAn U<|tPo U U<|tPo U U<|uK U U<|tE<|gz e [0,1,2] U
 intro aM w e
 refine gJg (λaW a w=>∃ (aP:Value),St 56 [(1,O),(2,J b_),(3,pV aB),(7,aP),(8,J W),(9,M),(10,J aH)] K (hp K) [L,ow [aP] aW,N] a w) (λaW=>?_) ?_
 refine gs 51 U (λau=>?_) λau=>?_
 refine gct U<|gR<|Y U<|Y U ?_
 obtain ⟨aw,_,a0,_,ax⟩:=e.take2 (L1:=[_]) (L2:=[_,_]) [1] [0,2] (dt U) U U
 refine gCg U call168 (q9 _ aw aK aF W a0 ) ?_
 rintro _ _ ay w ⟨_,rfl,hB⟩
 replace e:=ax _ _ hB;clear hB
 exact gA U<|gE<|gZ λa H=>⟨ay,H.sb U,e.d [1,0,2] U⟩
 exact gcf U<|gSk<|gZ λa H=>⟨aF,H.sb U,e.d [0,1,2] U⟩
 rintro aW a w ⟨aP,H,e⟩
 exact gv H<|gZ λa H=>⟨aP,H.sb U,e.d [0,1,2] U⟩
 rintro aS a w ⟨aL,H,e⟩
 exact gv H<|gR<|Y U<|gp U<|gA U<|gE<|gZe λa H=>⟨aL,H.sb U,e.d [0,1,2] U⟩
 rintro _ _ a w ⟨az,H,e⟩ _ _
 exact gv H<|gS<|S<|Y U<|Y U<|gY (yV kI U)<|gB U<|lF 24 U U<|gHh<|gR<|Y U<|gp U<|gA U<|gE<|gZe λa H=>⟨az,H.sb U,e.d [0,1] U⟩
 rintro _ _ a w ⟨bA,H,e⟩ _ _
 refine gv H<|gS<|S<|Y U<|Y U ?_
 obtain ⟨_,_,rfl,_⟩:=ju h2
 exact gY (yV pR U)<|gB U<|lF 15 U U<|gHh<|S<|Y U<|gA U<|gq U U ⟨bA,U,e.d [1] U⟩
theorem xF (K:World) (c_:jv) (v1:Value) (h1:rp K v1 c_.b) (ld:List (List Bool)) (v2:Value) (h2:rp K v2 ld) (O:List Int) (v3:Value) (h3:rp K v3 O) :
    k6 Tryz.prog 169 [.agg #[J c_.P,J c_.r,v1],v2,v3] K (nK c_ ld O) λr v w'=>∃ (x1:Value),v=x1/\Mem K (hp K) w' [ow [x1] r]:=by
 unfold nK
 refine kQ func169 U λr e=>?_
 refine S<|gBx e U λaA w e=>gA U<|S<|gf U (λa H=>k5 (α:=Int) kg e U) ?_
 rintro _ w e
 refine gA U<|S<|gf U (λa H=>k5 (α:=Int) kg e U) ?_
 rintro _ w e
 refine Y U<|gb λam an=>?_
 obtain ⟨ao,ap⟩:=kP.1 an
 refine gf U (λa H=>kz 0 kg H e U (e.now h3) U U U ao) ?_
 rintro _ w e
 rw [ap] at e
 refine gA U<|gS ?_
 obtain ⟨aq,ar,rfl,_⟩:=ju<|e.ow_rep 1 U
 obtain ⟨au,aw,rfl,_⟩:=ju<|e.ow_rep 0 U
 refine gJg (λaa a w=>∃ (aJ:Value),St 61 [(7,aJ)] K (hp K) [ow [aJ] aa] a w) (λaa=>?_) ?_
 let L:=blk aA [J c_.P,J c_.r,v1] 41
 refine gBk<|gMg (λaE a w=>∃ (aH ab:Value),St 61 [(1,v2),(3,pV aA),(7,aH),(8,ab)] K (hp K) [L,ow [aH] aE.1,ow [ab] aE.2] a w) (λa H=>⟨sl aq ([]:List Int) ar,sl au am aw,H.sb U,e.d [2,1,0] U⟩) ?_
 rintro _ ax aE a w ⟨aH,ab,H,e⟩ _ ay
 refine gv H<|gS<|S<|Y U ?_
 obtain ⟨_,az,rfl,_⟩:=ju<|e.ow_rep 2 U
 refine gY (yV kI U)<|gB U<|gsd 18 U (λbA=>?_) λbA=>?_
 refine gct U<|gSk<|gJg (λaK a w=>∃ (aL aM:Value),St 61 [(1,v2),(3,pV aA),(7,aL),(8,aM)] K (hp K) [L,ow [aL] aK.1,ow [aM] aK.2] a w) (λaK=>?_) ?_
 refine gBk<|S<|Y U<|gg λac bB ae=>?_
 obtain ⟨bC,bD,rfl⟩:=jA (e.ow_rep 2 U) ae
 refine gI kI bB (jx ae) U<|gY (yl isAgg3 ((kC (cs:=[J ac]) (e.ow_rep 2 U) ae U).cell (j:=0) U) U)<|gA U<|S<|Y U<|gb λai bE=>?_
 obtain ⟨bF,aj⟩:=oN.1 bE
 have bG:=(e.ow_rep 2 U)
 obtain ⟨aN,af⟩:∃ nv,nv=sj (GT.sz Int) (sw bC bD aE.2 az) (1:Int).toNat ((aE.2.length:Int):Int).toNat:=⟨_,U⟩
 refine gY (yG U<|ae5 af<|az8 (α:=Int) kI bG U U U bF _)<|gA U<|gS<|S<|Y U<|Y U ?_
 obtain ⟨aO,aP,rfl,_⟩:=ju h2
 refine gY (yV pR U)<|gY (yS (by omega) (by omega) U)<|gC e U call43 (lr _ ac 0<|((ld.length:Int)) - 1) λ_ _ w e=>gN U<|gsn 29 U (λbH=>?_) λbH=>?_
 refine gct U<|gXt<|gHh ?_
 replace e:=e.imp (c':=ow [aN] ai) 2 U (λF h0=>by rw [af,<- aj];exact vw h0 (by omega) (by omega))
 exact gZ λa H=>⟨aH,aN,H.sb U,e.d [0,1,2] U⟩
 let M:=sl aO ld aP
 refine gcf U<|gSk<|S<|gY (yn (e.blk_at 0 U) isAgg41 sizeOf41 U)<|Y U<|Y U<|gCg U call211 (yJ _ c_ v1 (e.now h1) ld M (e.now h2) ac) ?_
 rintro aB _ _ w ⟨_,rfl,hB⟩
 replace e:=e.give hB
 refine gA U<|S<|gA U ?_
 obtain ⟨bJ,bK,rfl,_⟩:=ju<|e.ow_rep 2 U
 obtain ⟨aQ,aF,rfl,_⟩:=ju<|e.ow_rep 0 U
 refine gBk ?_
 replace e:=e.imp (c':=ow [aN] ai) 3 U (λF h0=>by rw [af,<- aj];exact vw h0 (by omega) (by omega))
 refine gNg (λaR aI a w=>∃ (aG aS:Value),St 61 [(1,M),(3,pV aA),(7,aG),(8,aS),(10,sl aQ aB aF),(11,J aR)] K (hp K) [L,ow [aG] aI.1,ow [aS] aI.2,os aQ aB aF] a w) (λa H=>⟨sl bJ aE.1 bK,aN,H.sb U,e.d [1,2,3,0] U⟩) ?_ ?_
 rintro _ _ aR aI a w ⟨aG,aS,H,e⟩ _ _ _ _
 refine gv H<|gS<|S<|Y U<|Y U<|gY (yV kI U)<|gB U<|go _ 37 U (decide_eq_true (by omega))<|gct U<|gSk<|gS<|gJg (λaT a w=>∃ (aV aW:Value),St 61 [(1,M),(3,pV aA),(7,aV),(8,aW),(10,sl aQ aB aF),(11,J aR)] K (hp K) [L,ow [aV] aT.1,ow [aW] aT.2,os aQ aB aF] a w) (λaT=>?_) ?_
 refine gBk<|S<|Y U<|Y U<|Y U<|gg λN ah W=>?_
 obtain ⟨ak,al,rfl⟩:=jA (e.ow_rep 3 U) W
 refine gI kI ah (jx W) U<|gY (yl isAgg3 ((kC (cs:=[J N]) (e.ow_rep 3 U) W U).cell (j:=0) U) U)<|gC e U call101 (pX _ aI.1 aG (e.ow_rep 1 U) N) λ_ _ w e=>gB U<|gJg (λaX a w=>∃ (aY aZ:Value),St 61 [(1,M),(3,pV aA),(7,aY),(8,aZ),(10,sw ak al aB aF),(11,J aR)] K (hp K) [L,ow [aY] aX.1,ow [aZ] aX.2,ot ak al aB aF] a w) (λaX=>?_) ?_
 refine gsd 46 U (λbL=>?_) λbL=>?_
 refine gct U<|S<|Y U<|Y U<|Y U<|gI kI ah (jx W) U<|gY (yl isAgg3 ((kC (cs:=[J N]) (e.ow_rep 3 U) W U).cell (j:=0) U) U) ?_
 obtain ⟨bM,_,a0,_,bN⟩:=e.take2 (L1:=[_]) (L2:=[_,_,_]) [1] [0,2,3] (dt U) U U
 refine gCg U call168 (q9 _ bM aI.1 aG N a0 ) ?_
 rintro _ _ bO w ⟨_,rfl,hB⟩
 replace e:=bN _ _ hB;clear hB
 refine gA U<|gR<|Y U<|Y U<|Y U<|gI kI ah (jx W) U<|gY (yl isAgg3 ((kC (cs:=[J N]) (e.ow_rep 3 U) W U).cell (j:=0) U) U)<|gf U (λa H=>kj (vs:=#[(0,J N)]) (cs:=[J N]) kg H e U U (by kernel_rfl) U U) ?_
 rintro _ w ⟨_,rfl,e⟩
 replace e:=e.lit (xs:=([N]:List Int)) 0 U U U U
 refine gb λ_ bP=>?_
 obtain ⟨bQ,bR⟩:=kP.1 bP
 refine gf U (λa H=>kz 3 kg H e U (e.ow_rep 0 U) U U U bQ) ?_
 rintro bS w e
 rw [bR] at e
 exact gA U<|gE<|gZ λa H=>⟨bO,bS,H.sb U,e.d [2,1,3,4] U⟩
 exact gcf U<|gSk<|gZ λa H=>⟨aG,aS,H.sb U,e.d [0,1,2,3] U⟩
 rintro aX a w ⟨aY,aZ,H,e⟩
 exact gv H<|gZ λa H=>⟨aY,aZ,H.sb U,e.d [0,1,2,3] U⟩
 rintro aT a w ⟨aV,aW,H,e⟩
 exact gv H<|gR<|Y U<|gp U<|gA U<|gE<|gZe λa H=>⟨aV,aW,H.sb U,e.d [0,1,2,3] U⟩
 rintro _ _ a w ⟨bT,bU,H,e⟩ _ _
 exact gv H<|gS<|S<|Y U<|Y U<|gY (yV kI U)<|gB U<|lF 37 U U<|gHh<|gZ λa H=>⟨bT,bU,H.sb U,e.d [0,1,2] U⟩
 rintro aK a w ⟨aL,aM,H,e⟩
 exact gv H<|gZe λa H=>⟨aL,aM,H.sb U,e.d [0,1,2] U⟩
 exact gcf U<|gXt<|gHh<|gLp ay ax<|gZ λa H=>⟨aH,H.sb U,e.d [1] U⟩
 rintro aa a w ⟨aJ,H,e⟩
 exact gv H<|S<|Y U<|gA U<|gq U U ⟨aJ,U,e.d [0] U⟩
theorem af5 (N:World) (W:jv) (v1:Value) (h1:rp N v1 W.b) :
    k6 Tryz.prog 106 [.agg #[J W.P,J W.r,v1]] N (qU W) λr v w'=>∃ (x1:Value),v=(.agg #[J r.P,J r.r,x1])/\Mem N (hp N) w' [ow [x1] r.b]:=by
 unfold qU
 refine kQ func106 U λr e=>?_
 refine S<|gBx e U λaP w e=>gAl e zeroValue41 U λaL w e=>S<|gY (yn (e.blk_at 1 U) isAgg41 sizeOf41 U)<|gCg U call103 (xQ _ W v1<|e.now h1) ?_
 rintro M _ _ w ⟨_,rfl,hB⟩
 replace e:=e.give hB
 refine gAl e zeroValue41 U λaM w e=>gSN e 0 sizeOf41 (Z U<|Z U<|Z (kF<|e.ow_rep 1 U) kE) U λw e=>S<|gY (yn (e.blk_at 3 U) isAgg41 sizeOf41 U)<|gCg U call109 (wg _ W v1<|e.now h1) ?_
 rintro aD _ _ w ⟨_,rfl,hB⟩
 replace e:=e.give hB
 refine gA U<|S<|gY (yn (e.blk_at 4 U) isAgg41 sizeOf41 U)<|gCg U call164 (wh _ W v1<|e.now h1) ?_
 rintro L _ _ w ⟨_,_,rfl,hB⟩
 replace e:=e.give hB
 refine gAl e zeroValue190 U λaQ w e=>gSN e 0 sizeOf190 (Z (kF<|e.ow_rep 1 U)<|Z (kF<|e.ow_rep 2 U) kE) U λw e=>S<|gY (yn (e.blk_at 7 U) isAgg41 sizeOf41 U)<|gCg U call167 (af7 _ W v1<|e.now h1) ?_
 rintro aE _ _ w ⟨_,rfl,hB⟩
 replace e:=e.give hB
 refine gA U<|gS<|S<|gF mF U<|gL e 8 isAgg3 U<|gB U<|gA U ?_
 obtain ⟨aK,aF,rfl,_⟩:=ju<|e.ow_rep 6 U
 obtain ⟨aN,aO,rfl,_⟩:=ju<|e.ow_rep 4 U
 obtain ⟨aV,aG,rfl,_⟩:=ju<|e.ow_rep 2 U
 obtain ⟨aH,aI,rfl,_⟩:=ju<|e.ow_rep 3 U
 obtain ⟨aT,aR,rfl,_⟩:=ju<|e.ow_rep 0 U
 let e0:=sl aK M.b aF
 let c5:=blk aM [J M.P,J M.r,e0] 41
 let d0:=blk aL [J 0,J 0,nS] 41
 refine gJ e (λbE=>[(2,pV aL),(3,pV aM)]) (λbE=>[d0,c5,ow [e0] bE]) (λbE=>?_) ?_
 let d6:=blk aQ [sl aV L.i aG,sl aH L.k aI] 190
 let d4:=blk aP [J W.P,J W.r,v1] 41
 let a2:=os aH L.k aI
 let a0:=os aV L.i aG
 let a1:=os aN aD aO
 let c2:=sl aN aD aO
 let a9:=sl aT aE aR
 let b5:=os aT aE aR
 refine gBk<|gMf e (λK=>[(1,pV aP),(2,pV aL),(3,pV aM),(4,c2),(5,pV aQ),(6,a9),(7,J K.2)]) (λK=>[d4,d0,c5,ow [e0] K.1,a1,d6,a0,a2,b5]) [8,7,5,6,4,1,2,3,0] U ?_
 intro _ cM K w e _ cN
 refine gS<|S<|Y U<|gB U<|gsd 25 U (λcO=>?_) λcO=>?_
 refine gct U<|gSk<|gS<|gBk<|S<|gf U (λa H=>k5 (α:=Int) kg e U) ?_
 rintro cP w e
 let d3:=ow [e0] K.1
 refine gA U<|gS<|S<|Y U<|gF nD U<|gL e 1 isAgg3 U<|gB U<|gJg (λbF a w=>∃ (bX:Value),St 116 [(1,pV aP),(2,pV aL),(3,pV aM),(4,c2),(5,pV aQ),(6,a9),(7,J K.2),(8,bX)] N (hp N) [d4,d0,c5,d3,a1,d6,a0,a2,b5,ow [bX] bF] a w) (λbF=>?_) ?_
 refine gsd 32 U (λcQ=>?_) λcQ=>?_
 refine gct U<|gR<|gf U (λa H=>kj (vs :=#[(0,(J 0))]) (cs :=[J 0]) kg H e U U (by kernel_rfl) U U) ?_
 rintro _ w ⟨cR,rfl,e⟩
 replace e:=e.lit (xs:=([0]:List Int)) 0 U U U U
 exact gA U<|gE<|gZ λa H=>⟨sV cR 0 1 1,H.sb U,e.d [2,3,4,5,6,7,8,9,10,0] U⟩
 exact gcf U<|gSk<|gZ λa H=>⟨cP,H.sb U,e.d [1,2,3,4,5,6,7,8,9,0] U⟩
 rintro bF a w ⟨bX,H,e⟩
 refine gv H<|gS<|S<|gA U ?_
 obtain ⟨cS,cT,rfl,_⟩:=ju<|e.ow_rep 9 U
 refine gJg (λbG a w=>∃ (bH:Value),St 116 [(1,pV aP),(2,pV aL),(3,pV aM),(4,c2),(5,pV aQ),(6,a9),(7,J K.2),(8,bH)] N (hp N) [d4,d0,c5,d3,a1,d6,a0,a2,b5,ow [bH] bG] a w) (λbG=>?_) ?_
 refine gBk<|gMg (λah a w=>∃ (ak:Value),St 116 [(1,pV aP),(2,pV aL),(3,pV aM),(4,c2),(5,pV aQ),(6,a9),(7,J K.2),(8,ak),(9,J ah.2)] N (hp N) [d4,d0,c5,d3,a1,d6,a0,a2,b5,ow [ak] ah.1] a w) (λa H=>⟨sl cS bF cT,H.sb U,e.d [0,1,2,3,4,5,6,7,8,9] U⟩) ?_
 rintro _ cU ah a w ⟨ak,H,e⟩ _ cV
 refine gv H<|gS<|S<|Y U<|Y U<|Y U<|gg λaW bj ac=>?_
 obtain ⟨au,aw,rfl⟩:=jA (e.ow_rep 8 U) ac
 obtain ⟨_,_,_,cW⟩:=kn (e.ow_rep 8 U) ac
 have bY:=cW
 obtain ⟨_,rfl,-⟩:=id bY
 refine gI ac8 bj (jx ac) U ?_
 obtain ⟨_,cX,e⟩:=e.openE 8 U ac
 have cY:=e.ow_rep 0 U
 have bJ:=cY
 obtain ⟨bZ,rfl,-⟩:=id bJ
 replace bJ:GT.rep (hp _) [bZ] aW:=bJ
 clear cX bJ
 replace e:Mem N (hp N) _ [ow [bZ] (aW:List (List Int)),d4,d0,c5,ow [e0] K.1,a1,d6,a0,a2,kY au aw aE.length aR (aE:List (List<|List Int)) K.2.toNat [bZ],ow [ak] ah.1]:=e
 replace e:=e.d [0,1,2,3,4,5,6,7,8,9,10] U
 refine gY (yl isAgg59 ((e.holeE_at 9 U).cell (j:=0) U) U) ?_
 obtain ⟨bm,bo,rfl,_⟩:=ju<|e.ow_rep 0 U
 refine gY (yV bs3 U)<|gB U<|gsd 40 U (λcZ=>?_) λcZ=>?_
 refine gct U<|gSk<|gS<|gBk ?_
 replace e:=e.imp (c':=ow [sl bm aW bo] (aW:List (List Int))) 0 U λF h0=>h0
 replace e:=(e.shutE (y:=(aW:List (List Int))) 9 0 (dt U) U U).d [1,2,3,4,5,6,7,8,9,10] U
 rw [kq ac] at e
 refine gR<|Y U<|Y U<|Y U ?_
 obtain ⟨_,_,_,c7⟩:=kn (e.ow_rep 8 U) ac
 have b8:=c7
 obtain ⟨_,rfl,-⟩:=id b8
 refine gI ac8 bj (jx ac) U ?_
 obtain ⟨_,c8,e⟩:=e.openE 8 U ac
 have c9:=e.ow_rep 0 U
 have bK:=c9
 obtain ⟨b9,rfl,-⟩:=id bK
 replace bK:GT.rep (hp _) [b9] aW:=bK
 clear c8 bK
 replace e:Mem N (hp N) _ [ow [b9] (aW:List (List Int)),blk aP [J W.P,J W.r,v1] 41,blk aL [J 0,J 0,nS] 41,blk aM [J M.P,J M.r,sl aK M.b aF] 41,ow [sl aK M.b aF] K.1,os aN aD aO,blk aQ [sl aV L.i aG,sl aH L.k aI] 190,os aV L.i aG,os aH L.k aI,kY au aw aE.length aR (aE:List (List<|List Int)) K.2.toNat [b9],ow [ak] ah.1]:=e
 replace e:=e.d [0,1,2,3,4,5,6,7,8,9,10] U
 refine gY (yl isAgg59 ((e.holeE_at 9 U).cell (j:=0) U) U)<|Y U<|gg λao ca ax=>?_
 obtain ⟨bL,bM,ba,he⟩:=jy (e.ow_rep 0 U) ax
 subst he
 obtain ⟨_,_,_,cb⟩:=kn (e.ow_rep 0 U) ax
 have bb:=cb
 obtain ⟨_,rfl,-⟩:=id bb
 refine gI bs3 ca (jx ax) U ?_
 obtain ⟨_,cc,e⟩:=e.openE 0 U ax
 have cd:=e.ow_rep 0 U
 have bN:=cd
 obtain ⟨bc,rfl,-⟩:=id bN
 replace bN:GT.rep (hp _) [bc] ao:=bN
 clear cc bN
 replace e:Mem N (hp N) _ [ow [bc] (ao:List Int),kY bL bM aW.length ba (aW:List (List Int)) ah.2.toNat [bc],blk aP [J W.P,J W.r,v1] 41,blk aL [J 0,J 0,nS] 41,blk aM [J M.P,J M.r,sl aK M.b aF] 41,ow [sl aK M.b aF] K.1,os aN aD aO,blk aQ [sl aV L.i aG,sl aH L.k aI] 190,os aV L.i aG,os aH L.k aI,kY au aw aE.length aR (aE:List (List<|List Int)) K.2.toNat [sw bL bM aW ba],ow [ak] ah.1]:=e
 replace e:=e.d [0,1,2,3,4,5,6,7,8,9,10,11] U
 refine gY (yl isAgg54 ((e.holeE_at 1 U).cell (j:=0) U) U)<|gg λbu ce bd=>?_
 obtain ⟨cf,cg,ci,he⟩:=kG (e.ow_rep 0 U) bd
 subst he
 refine gI kI ce (jx bd) U<|gY (yl isAgg3 ((kC (cs:=[J bu]) (e.ow_rep 0 U) bd U).cell (j:=0) U) U) ?_
 obtain ⟨cj,_,eU,_,ck⟩:=e.take2 (L1:=[_]) (L2:=[_,_,_,_,_,_,_,_,_,_,_]) [11] [0,1,2,3,4,5,6,7,8,9,10] (dt U) U U
 refine gCg U call168 (q9 _ cj ah.1 ak bu eU ) ?_
 rintro _ _ cl w ⟨_,rfl,hB⟩
 replace e:=ck _ _ hB;clear hB
 refine gA U ?_
 replace e:=e.imp (c':=ow [sw cf cg ao ci] (ao:List Int)) 1 U λF h0=>h0
 replace e:=(e.shutE (y:=(ao:List Int)) 2 1 (dt U) U U).d [0,2,3,4,5,6,7,8,9,10,11] U
 rw [kq ax] at e
 replace e:=e.imp (c':=ow [sw bL bM aW ba] (aW:List (List Int))) 1 U λF h0=>h0
 replace e:=(e.shutE (y:=(aW:List (List Int))) 10 1 (dt U) U U).d [0,2,3,4,5,6,7,8,9,10] U
 rw [kq ac] at e
 exact gR<|Y U<|gB U<|gA U<|gE<|gZe λa H=>⟨cl,H.sb U,e.d [1,2,3,4,5,6,7,8,9,0] U⟩
 refine gcf U<|gXt<|gHh ?_
 replace e:=e.imp (c':=ow [sl bm aW bo] (aW:List (List Int))) 0 U λF h0=>h0
 replace e:=(e.shutE (y:=(aW:List (List Int))) 9 0 (dt U) U U).d [1,2,3,4,5,6,7,8,9,10] U
 rw [kq ac] at e
 exact gLp cV cU<|gZ λa H=>⟨ak,H.sb U,e.d [0,1,2,3,4,5,6,7,8,9] U⟩
 rintro bG a w ⟨bH,H,e⟩
 let a3:=sl aN aD aO
 refine gv H<|S<|gY (yn (e.blk_at 0 U) isAgg41 sizeOf41 U)<|Y U<|Y U<|gCg U call169 (xF _ W v1 (e.now h1) aD a3 (e.ow_rep 4 U) bG bH<|e.ow_rep 9 U) ?_
 rintro aS _ _ w ⟨_,rfl,hB⟩
 replace e:=e.give hB
 refine gA U<|S<|gA U ?_
 obtain ⟨ay,aZ,rfl,_⟩:=ju<|e.ow_rep 0 U
 let c6:=sl aK M.b aF
 let c4:=J M.P
 let a6:=J M.r
 let eF:=blk aM [c4,a6,c6] 41
 let d1:=J W.P
 let e1:=blk aP [d1,J W.r,v1] 41
 let d2:=blk aL [J 0,J 0,nS] 41
 let e2:=sl aH L.k aI
 let e7:=blk aQ [sl aV L.i aG,e2] 190
 let b4:=os aH L.k aI
 let c3:=os aN aD aO
 let b7:=os aT aE aR
 let a8:=sl aT aE aR
 let e3:=os aV L.i aG
 let d5:=os ay aS aZ
 refine gBk<|gNf e (λap ab=>[(1,pV aP),(2,pV aL),(3,pV aM),(4,a3),(5,pV aQ),(6,a8),(7,J K.2),(10,sl ay aS aZ),(11,J ap)]) (λap ab=>[e1,d2,eF,ow [c6] ab,c3,e7,e3,b4,b7,d5]) [1,2,3,4,5,6,7,8,9,0] U ?_ ?_
 intro _ _ ap ab w e _ _ _ _
 refine gS<|S<|Y U<|Y U<|gY (yV kI U)<|gB U<|go _ 61 U (decide_eq_true (by omega))<|gct U<|gSk<|gS<|gJ e (λbO=>[(1,pV aP),(2,pV aL),(3,pV aM),(4,a3),(5,pV aQ),(6,a8),(7,J K.2),(10,sl ay aS aZ),(11,J ap)]) (λbO=>[e1,d2,eF,ow [c6] bO,c3,e7,e3,b4,b7,d5]) (λbO=>?_) ?_
 refine gBk<|gS<|gS<|gW (.p 0<|.p 2<|.p 3<|.p 4<|.p 8<|.q 1<|.e 5 (.p 6<|.e 7 (.p 9<|.e 10 (.p 11 .fin) .nil) .nil) .nil) [5] [0,2,3,4,6,8,9,11] e [0,1,2,3,4,5,6,7,8,9] [blk aP [d1,J W.r,v1] 41,blk aL [J 0,J 0,nS] 41,blk aM [c4,a6,c6] 41,ow [c6] ab,c3,blk aQ [sl aV L.i aG,e2] 190,e3,b4,b7,d5] U mxo (by kernel_rfl) (λ_ _ _ h=>h.2) λw e hS=>uF vr U U<|uM U U<|uM U U<|gg λaz bv bA=>?_
 obtain ⟨ae,af,rfl⟩:=jA (e.ow_rep 9 U) bA
 refine tP U (λw=>yI kI bv (jx bA) U)<|uM U U<|tQ U hS (λw e=>yL e 5 isAgg99 U)<|tO<|tY U (yl isAgg3 ((kC (cs:=[J az]) (e.ow_rep 9 U) bA U).cell (j:=0) U) U)<|tAs hS<|gg λai cm aq=>?_
 obtain ⟨aX,aY,rfl⟩:=jA (e.ow_rep 6 U) aq
 obtain ⟨_,_,_,cn⟩:=kn (e.ow_rep 6 U) aq
 have be:=cn
 obtain ⟨_,rfl,-⟩:=id be
 refine tP U (λw=>yI pR cm (jx aq) U)<|tO ?_
 obtain ⟨_,co,e⟩:=e.openE 6 U aq
 have cq:=e.ow_rep 0 U
 have bP:=cq
 obtain ⟨bf,rfl,-⟩:=id bP
 replace bP:GT.rep (hp _) [bf] ai:=bP
 clear co bP
 replace e:Mem N (hp N) _ [ow [bf] (ai:List Bool),e1,d2,eF,ow [c6] ab,c3,blk aQ [sw aX aY L.i aG,e2] 190,kY aX aY L.i.length aG (L.i:List (List Bool)) az.toNat [bf],b4,b7,ot ae af aS aZ]:=e
 replace e:=e.d [0,1,2,3,4,5,6,7,8,9,10] U
 refine tY U (yl isAgg97 ((e.holeE_at 7 U).cell (j:=0) U) U)<|tAn U<|gg λcr ct bg=>?_
 obtain ⟨cA,cB,cC,he⟩:=kG (e.ow_rep 0 U) bg
 subst he
 refine tP U (λw=>yI mK ct (jx bg) U)<|tO<|tY U (yl isAgg4 ((kC (cs:=[.bool cr]) (e.ow_rep 0 U) bg U).cell (j:=0) U) U)<|tAn U<|tP U (λw=>yN U)<|tE<|gsn 75 U (λcv=>?_) λcv=>?_
 refine gct U<|gXt<|gHh ?_
 replace e:=e.imp (c':=ow [sw cA cB ai cC] (ai:List Bool)) 0 U λF h0=>h0
 replace e:=(e.shutE (y:=(ai:List Bool)) 7 0 (dt U) U U).d [1,2,3,4,5,6,7,8,9,10] U
 rw [kq aq] at e
 exact gz e [0,1,2,3,4,5,6,7,8,9] U
 refine gcf U<|gSk<|gS ?_
 replace e:=e.imp (c':=ow [sw cA cB ai cC] (ai:List Bool)) 0 U λF h0=>h0
 replace e:=(e.shutE (y:=(ai:List Bool)) 7 0 (dt U) U U).d [1,2,3,4,5,6,7,8,9,10] U
 rw [kq aq] at e
 refine gR<|Y U<|gf U (λa H=>k5 (α:=Int) kg e U) ?_
 rintro _ w e
 obtain ⟨bB,bC,rfl,_⟩:=ju<|e.ow_rep 0 U
 let e5:=blk aQ [sw aX aY L.i aG,sl aH L.k aI] 190
 let e4:=blk aP [d1,J W.r,v1] 41
 let b3:=sl aK M.b aF
 let e9:=blk aM [c4,a6,b3] 41
 let a7:=blk aL [J 0,J 0,nS] 41
 let b0:=sl bB ([]:List Int) bC
 let a5:=ot aX aY L.i aG
 let c1:=os aH L.k aI
 let a4:=ot ae af aS aZ
 let b6:=os aN aD aO
 let aU:=os aT aE aR
 refine gY (yG U<|mV (vs:=[(0,J K.2),(1,b0)]) (cs:=#[J K.2,b0]) U U (by kernel_rfl))<|gAl e zeroValue80 U λan w e=>gSN e 0 sizeOf80 (Z U<|Z U kE) U λw e=>gS<|gS<|gW (.p 1<|.p 2<|.p 3<|.p 7<|.q 0<|.e 4 (.e 5 (.p 6 .fin) .nil) .nil) [4] [1,2,3,6,7] e [0,1,2,3,4,5,6,7,8,9,10,11] [blk an [J K.2,b0] 80,os bB ([]:List Int) bC,e4,a7,e9,ow [b3] ab,b6,e5,a5,c1,aU,a4] U mxo (by kernel_rfl) (λ_ _ _ h=>h.2) λw e hS=>uM U U<|uM U U<|tP U (λw=>yI kI bv (jx bA) U)<|uM U U<|tQ U hS (λw e=>yn (e.blk_at 2 U) isAgg41 sizeOf41 U)<|tO<|tY U (yl isAgg3 ((kC (cs:=[J az]) (e.ow_rep 11 U) bA U).cell (j:=0) U) U)<|tAs hS<|tO<|gb λcw cx=>tf U U (λa H=>ki H U call96 U<|nj _ W v1 (e.now h1) az _ cx) ?_
 rintro _ w ⟨_,rfl,hB⟩
 replace e:=e.give hB
 refine tAn U ?_
 obtain ⟨_,_,rfl,_⟩:=ju<|e.ow_rep 0 U
 refine tP U (λw=>yV kI U)<|tE<|gBk<|gNg (λcD cE a w=>∃ (bh:Value),St 116 [(1,pV aP),(2,pV aL),(3,pV aM),(4,a3),(5,pV aQ),(6,a8),(7,J K.2),(10,sw ae af aS aZ),(11,J ap),(12,pV an),(85,J<|(cw.length:Int)),(86,J cD)] N (hp N) [e4,a7,e9,ow [b3] ab,b6,e5,a5,c1,aU,a4,blk an [J K.2,bh] 80,ow [bh] cE] a w) (λa H=>⟨b0,H.sb U,e.d [3,4,5,6,7,8,9,10,11,12,1,2] U⟩) ?_ ?_
 rintro _ _ cD cE a w ⟨bh,H,e⟩ _ _ _ _
 refine gv H<|S<|gB U<|gS<|lT 87 U U<|gR<|gF mT U<|gL e 10 isAgg54 U<|Y U<|gf U (λa H=>kj (vs:=#[(0,J K.2)]) (cs:=[J K.2]) kg H e U U (by kernel_rfl) U U) ?_
 rintro _ w ⟨_,rfl,e⟩
 replace e:=e.lit (xs:=([K.2]:List Int)) 0 U U U U
 refine gb λ_ cy=>?_
 obtain ⟨cz,dA⟩:=kP.1 cy
 refine gf U (λa H=>kz 12 kg H e U (e.ow_rep 0 U) U U U cz) ?_
 rintro dB w e
 rw [dA] at e
 exact gF mT U<|gS1 e 11 sizeOf54 (kF<|e.ow_rep 12 U) U λw e=>gR<|gp U<|Y U<|gE<|gZe λa H=>⟨dB,H.sb U,e.d [1,2,3,4,5,6,7,8,9,10,11,12] U⟩
 rintro _ bQ a w ⟨aa,H,e⟩ _ _
 refine gv H<|S<|gB U<|gS<|lF 87 U U<|gHh<|gJ e (λbR=>[(1,pV aP),(2,pV aL),(3,pV aM),(4,a3),(5,pV aQ),(6,a8),(7,J K.2),(10,sw ae af aS aZ),(11,J ap)]) (λbR=>[e4,a7,e9,ow [b3] bR,b6,e5,a5,c1,aU,a4]) (λbR=>?_) ?_
 refine gW (.p 0<|.p 2<|.p 3<|.p 4<|.p 8<|.p 10<|.p 11<|.p 12<|.q 1<|.q 5<|.q 6<|.q 9<|.q 13<|.p 14<|.p 15<|.e 7 (.e 16 (.e 17 (.p 18<|.p 19<|.e 20 .fin .nil) .nil) .nil)<|.e 16 (.e 7 (.e 17 (.p 18<|.p 19<|.e 20 .fin .nil) .nil) .nil) .nil) [1,5,6,7,9,13,16,17] [0,2,3,4,8,10,11,12,14,15,18,19] e [0,1,2,4,5,6,7,8,9,10] [_,_,_,_,_,_,_,_,_,_] U mxo (by kernel_rfl) (λ_ _ _ h=>h.2) λw e hS=>uF kM U U<|uM U U<|uM U U<|gg λbD cF bS=>tP U (λw=>yI kI cF (jx bS) U)<|uF kM U U<|uM U U<|uM U U<|tP U (λw=>yI kI cF (jx bS) U)<|tQ U hS (λw e=>yL e 2 isAgg39 U)<|tQ U hS (λw e=>yl isAgg3 ((kC (cs :=[J bD]) (e.ow_rep 8 U) bS U).cell (j :=0) U) U)<|tQ U hS (λw e=>yn (e.blk_at 9 U) isAgg80 sizeOf80 U)<|tQ U hS (λw e=>yL e 2 isAgg39 U)<|tQ U hS (λw e=>yl isAgg3 ((kC (cs :=[J bD]) (e.ow_rep 8 U) bS U).cell (j :=0) U) U)<|gg λO bi aj=>?_
 obtain ⟨al,am,rfl⟩:=jA (e.ow_rep 3 U) aj
 obtain ⟨_,_,_,_,_,_,_⟩:=k4 (e.ow_rep 3 U) aj
 have e8:=kB<|e.ow_rep 3 U
 refine tP U (λw=>yI kZ bi (kL aj e8) U)<|uF ko U U<|gb λar cG=>tMo ?_ ?_
 refine tf U U (λa H=>kj (vs :=#[(0,(.agg #[J K.2,aa]))]) (cs :=[J K.2,aa]) pF H e U U (by kernel_rfl) U U) ?_
 rintro _ w ⟨dC,rfl,e⟩
 replace e:=e.els_nil (α:=kA)
 let e6:=sw al am M.b aF
 replace e:Mem N (hp N) _ [els [] ([]:List kA),blk dC [J K.2,aa] 80,e4,a7,blk aM [c4,a6,e6] 41,ow [e6] ab,b6,e5,a5,c1,aU,a4,blk an [J K.2,aa] 80,ow [J K.2,aa] ((⟨K.2,bQ⟩:kA):kA)]:=n8 K.2 e 13 U
 replace e:=(e.els_cons 0 13 (dt U) U U).d [0,1,2,3,4,5,6,7,8,9,10,11,12] U
 replace e:=(e.lit_els 1 0 (dt U) U U U U).d [1,2,3,4,5,6,7,8,9,10,11,12] U
 refine tAk e [1,2,3,5,6,7,8,9,10,11] U λhS=>tO ?_
 obtain ⟨_,cH,cI,e⟩:=lH e 4 U aj
 refine tY U (yl isAgg66 ((e.holeE_at 7 U).cell (j:=0) U) U)<|tAk e [4,5,6,8,9,10,11,12,13,14] U λhS=>tO ?_
 obtain ⟨dD,dE⟩:=kP.1 cG
 replace e:=(e.both 3 2 (dt U) U U).d [0,1,3,4,5,6,7,8,9,10,11,12,13,14] U
 refine tf U U (λa H=>lW (xs:=([(⟨K.2,bQ⟩:kA)]:List kA)) (ys:=O.a) 2 pF H e U U U U dD) ?_
 rintro bT w e
 rw [dE] at e
 refine tAk e [3,4,5,7,8,9,10,11,12,13] U λhS=>?_
 have eP:=e.holeE_len 6 U
 refine tP U (λw=>yI kZ bi (kL aj eP) U)<|uF ko U U<|tO ?_
 have cJ:∀ u∈([bT]:List Value),u.oneCell'=true:=(Z (kF<|e.ow_rep 2 U) kE)
 refine tf0 U U (λa H=>mw (j:=0) (vs:=[bT]) 6 H e U U U sizeOf66 U U (nA<|cJ _<|List.mem_singleton.2 U) cJ U) ?_
 rintro _ w e
 replace e:Mem N (hp N) _ [ow [cI] O.n,ow [cH] O.i,ow [bT] ar,blk aP [J W.P,J W.r,v1] 41,blk aL [J 0,J 0,nS] 41,blk aM [J M.P,J M.r,sw al am M.b aF] 41,kY al am M.b.length aF (ab:List jq) bD.toNat [bT,cH,J O.j,J O.on,cI],os aN aD aO,blk aQ [sw aX aY L.i aG,sl aH L.k aI] 190,ot aX aY L.i aG,os aH L.k aI,os aT aE aR,ot ae af aS aZ,blk an [J K.2,aa] 80]:=e
 refine tAn U<|tE ?_
 replace e:=(k9 O.j O.on e 2 1 0 U).d [2,3,4,5,6,7,8,9,10,11,12,13] U
 replace e:=(e.shutE (y:=((⟨ar,O.i,O.j,O.on,O.n⟩:jq):jq)) 4 0 (dt U) U U).d [1,2,3,4,5,6,7,8,9,10,11] U
 exact gz e [0,1,2,3,4,5,6,7,8,9] U
 refine tO ?_
 obtain ⟨cK,bU,bV,e⟩:=lH e 3 U aj
 refine tY U (yl isAgg66 ((e.holeE_at 6 U).cell (j:=0) U) U)<|tAk e [3,4,5,7,8,9,10,11,12,13] U λhS=>tO<|tf U U (λa H=>kj (vs:=#[(0,.agg #[J K.2,aa])]) (cs:=[J K.2,aa]) pF H e U U (by kernel_rfl) U U) ?_
 rintro _ w ⟨dF,rfl,e⟩
 replace e:=e.els_nil (α:=kA)
 replace e:Mem N (hp N) _ [els [] ([]:List kA),blk dF [J K.2,aa] 80,ow [bV] O.n,ow [bU] O.i,ow [cK] O.a,blk aP [J W.P,J W.r,v1] 41,blk aL [J 0,J 0,nS] 41,blk aM [J M.P,J M.r,sw al am M.b aF] 41,kY al am M.b.length aF (ab:List jq) bD.toNat [cK,bU,J O.j,J O.on,bV],os aN aD aO,blk aQ [sw aX aY L.i aG,sl aH L.k aI] 190,ot aX aY L.i aG,os aH L.k aI,os aT aE aR,ot ae af aS aZ,blk an [J K.2,aa] 80,ow [J K.2,aa] ((⟨K.2,bQ⟩:kA):kA)]:=n8 K.2 e 16 U
 replace e:=(e.els_cons 0 16 (dt U) U U).d [0,1,2,3,4,5,6,7,8,9,10,11,12,13,14,15] U
 replace e:=(e.lit_els 1 0 (dt U) U U U U).d [1,2,3,4,5,6,7,8,9,10,11,12,13,14,15] U
 refine tAk e [4,5,6,8,9,10,11,12,13,14] U λhS=>tO ?_
 obtain ⟨dG,dH⟩:=kP.1 cG
 replace e:=(e.both 0 3 (dt U) U U).d [0,1,2,4,5,6,7,8,9,10,11,12,13,14] U
 refine tf U U (λa H=>lW (xs:=([(⟨K.2,bQ⟩:kA)]:List kA)) (ys:=O.a) 0 pF H e U U U U dG) ?_
 rintro bW w e
 rw [dH] at e
 refine tAk e [3,4,5,7,8,9,10,11,12,13] U λhS=>?_
 have eO:=e.holeE_len 6 U
 refine tP U (λw=>yI kZ bi (kL aj eO) U)<|uF ko U U<|tO ?_
 have cL:∀ u∈([bW]:List Value),u.oneCell'=true:=(Z (kF<|e.ow_rep 0 U) kE)
 refine tf0 U U (λa H=>mw (j:=0) (vs:=[bW]) 6 H e U U U sizeOf66 U U (nA<|cL _<|List.mem_singleton.2 U) cL U) ?_
 rintro _ w e
 replace e:Mem N (hp N) _ [ow [bW] ar,ow [bV] O.n,ow [bU] O.i,blk aP [J W.P,J W.r,v1] 41,blk aL [J 0,J 0,nS] 41,blk aM [J M.P,J M.r,sw al am M.b aF] 41,kY al am M.b.length aF (ab:List jq) bD.toNat [bW,bU,J O.j,J O.on,bV],os aN aD aO,blk aQ [sw aX aY L.i aG,sl aH L.k aI] 190,ot aX aY L.i aG,os aH L.k aI,os aT aE aR,ot ae af aS aZ,blk an [J K.2,aa] 80]:=e
 refine tAn U<|tE ?_
 replace e:=(k9 O.j O.on e 0 2 1 U).d [0,3,4,5,6,7,8,9,10,11,12,13] U
 replace e:=(e.shutE (y:=((⟨ar,O.i,O.j,O.on,O.n⟩:jq):jq)) 4 0 (dt U) U U).d [1,2,3,4,5,6,7,8,9,10,11] U
 exact gz e [0,1,2,3,4,5,6,7,8,9] U
 intro bR w e
 exact gz e [0,1,2,3,4,5,6,7,8,9] U
 intro bO w e
 exact gR<|Y U<|gp U<|gA U<|gE<|gze e [0,1,2,3,4,5,6,7,8,9] U
 intro _ _ w e _ _
 exact gS<|S<|Y U<|Y U<|gY (yV kI U)<|gB U<|lF 61 U U<|gHh<|gR<|Y U<|gB U<|gA U<|gE<|gze e [0,1,2,3,4,5,6,7,8] U
 exact gcf U<|gXt<|gHh<|gLp cN cM<|gz e [1,2,3] U
 intro bE w e
 exact S<|gY (yn (e.blk_at 1 U) isAgg41 sizeOf41 U)<|gSN e 0 sizeOf41 (Z U<|Z U<|Z U kE) U λw e=>gRt<|grc 0 results106 e U isAgg41 sizeOf41 ⟨sl aK M.b aF,U,e.d [2] U⟩
theorem ac6 (K:World) (ld:List (List Bool)) (v1:Value) (h1:rp K v1 ld) :
    k6 Tryz.prog 108 [v1] K (qx ld) λr v w'=>∃ (x1:Value),v=x1/\Mem K (hp K) w' [ow [x1] r]:=by
 unfold qx
 refine kQ func108 U λr e=>?_
 refine S<|gA U<|S<|gf U (λa H=>k5 (α:=Int) kg e U) ?_
 rintro _ w e
 refine gA U<|gS<|S<|gA U ?_
 obtain ⟨aa,ab,rfl,_⟩:=ju<|e.ow_rep 0 U
 refine gBk<|gNg (λW aA a w=>∃ (aN:Value),St 51 [(0,v1),(3,aN),(4,J W)] K (hp K) [ow [aN] aA] a w) (λa H=>⟨sl aa ([]:List Int) ab,H.sb U,e.d [0] U⟩) ?_ ?_
 rintro _ _ W aA a w ⟨aN,H,e⟩ _ _ _ _
 refine gv H<|gS<|S<|Y U<|Y U ?_
 obtain ⟨aI,aJ,rfl,_⟩:=ju h1
 refine gY (yV pR U)<|gB U<|lT 11 U U<|S<|gA U<|gS<|S<|gA U ?_
 obtain ⟨aB,aC,rfl,_⟩:=ju<|e.ow_rep 0 U
 let L:=sl aI ld aJ
 let N:=sl aB aA aC
 let M:=os aB aA aC
 refine gBk<|gNf e (λO aF=>[(0,L),(3,N),(4,J W),(5,J aF),(6,J O)]) (λO aF=>[M]) [0] U ?_ ?_
 intro _ _ O aF w e _ _ _ _
 refine gS<|S<|Y U<|Y U<|gY (yV pR U)<|gB U<|go _ 17 U (decide_eq_true (by omega))<|gct U<|gSk<|gS<|gJ e (λaK=>[(0,L),(3,N),(4,J W),(5,J aK),(6,J O)]) (λaK=>[M]) (λaK=>?_) ?_
 refine gBk<|gS<|gJ e (λaL=>[(0,L),(3,N),(4,J W),(5,J aF),(6,J O),(44,.bool aL)]) (λaL=>[M]) (λaL=>?_) ?_
 refine gR<|Y U<|Y U<|gB U<|Y U<|gsd 23 U (λac=>?_) λac=>?_
 refine Y U<|Y U<|gg λae af aO=>?_
 obtain ⟨aV,aW,rfl⟩:=jA h1 aO
 obtain ⟨_,_,aP,ah⟩:=kn h1 aO
 have aG:=ah
 obtain ⟨aX,rfl,-⟩:=id aG
 replace aG:GT.rep (hp K) [aX] ae:=aG
 replace aP:kS (hp K) aV (aW+O.toNat*1) [aX]:=aP
 refine gI pR af (jx aO) U<|gY (yl isAgg97 ((aP.mono e.lez).cell (j:=0) U) U)<|Y U<|gg λai aj aQ=>?_
 obtain ⟨_,_,_,he⟩:=kG aG aQ
 subst he
 refine gI mK aj (jx aQ) U<|gY (yl isAgg4 ((kC (cs:=[.bool ai]) (e.now aG) aQ U).cell (j:=0) U) U)<|gKt U<|Y U<|gs 32 U (λak=>?_) λak=>?_
 refine Y U<|gB U<|Y U<|gsd 35 U (λal=>?_) λal=>?_
 exact gO U<|gO U<|gO U<|gO U<|gO U<|gO U<|gO U<|gKt U<|gKt U<|gE<|gz e [0] U
 refine Y U<|Y U<|gg λam an aY=>?_
 obtain ⟨_,_,aR,ao⟩:=kn h1 aY
 have aH:=ao
 obtain ⟨aZ,rfl,-⟩:=id aH
 replace aH:GT.rep (hp K) [aZ] am:=aH
 replace aR:kS (hp K) aV (aW+aF.toNat*1) [aZ]:=aR
 refine gI pR an (jx aY) U<|gY (yl isAgg97 ((aR.mono e.lez).cell (j:=0) U) U)<|Y U<|gg λap aq aS=>?_
 obtain ⟨_,_,_,he⟩:=kG aH aS
 subst he
 exact gI mK aq (jx aS) U<|gY (yl isAgg4 ((kC (cs:=[.bool ap]) (e.now aH) aS U).cell (j:=0) U) U)<|gKf U<|gKt U<|gE<|gz e [0] U
 exact gO U<|gO U<|gO U<|gO U<|gO U<|gO U<|gO U<|gO U<|gO U<|gO U<|gO U<|gKf U<|gE<|gz e [0] U
 exact gO U<|gO U<|gO U<|gO U<|gO U<|gO U<|gO U<|gKf U<|Y U<|gO U<|gO U<|gO U<|gO U<|gO U<|gO U<|gO U<|gO U<|gO U<|gO U<|gO U<|gKf U<|gE<|gz e [0] U
 intro aL w e
 refine gJ e (λaM=>[(0,L),(3,N),(4,J W),(5,J aM),(6,J O)]) (λaM=>[M]) (λaM=>?_) ?_
 refine gs 44 U (λar=>?_) λar=>?_
 exact gct U<|gR<|Y U<|gA U<|gE<|gz e [0] U
 exact gcf U<|gSk<|gz e [0] U
 intro aM w e
 exact gz e [0] U
 intro aK w e
 exact gR<|Y U<|gp U<|gA U<|gE<|gze e [0] U
 intro _ aT w e _ _
 refine gS<|S<|Y U<|Y U<|gY (yV pR U)<|gB U<|lF 17 U U<|gHh<|gR<|Y U<|Y U<|gf U (λa H=>kj (vs:=#[(0,J aT)]) (cs:=[J aT]) kg H e U U (by kernel_rfl) U U) ?_
 rintro _ w ⟨_,rfl,e⟩
 replace e:=e.lit (xs:=([aT]:List Int)) 0 U U U U
 refine gb λ_ au=>?_
 obtain ⟨aw,ax⟩:=kP.1 au
 refine gf U (λa H=>kz 1 kg H e U (e.ow_rep 0 U) U U U aw) ?_
 rintro ay w e
 rw [ax] at e
 exact gA U<|gR<|Y U<|gp U<|gA U<|gE<|gZe λa H=>⟨ay,H.sb U,e.d [1] U⟩
 rintro _ _ a w ⟨az,H,e⟩ _ _
 refine gv H<|gS<|S<|Y U<|Y U ?_
 obtain ⟨_,_,rfl,_⟩:=ju h1
 exact gY (yV pR U)<|gB U<|lF 11 U U<|gHh<|S<|Y U<|gA U<|gq U U ⟨az,U,e.d [0] U⟩
theorem qw (O:World) (hz:kR) (H:l9) (e:Nat) (L:Value) (N:Value) (M:Value) (W:Mem O hz O [blk e [J H.O.P,J H.O.r,L,J H.f.P,J H.f.r,N,M,J H.n] 141]) :
    k6 Tryz.prog 170 [pV e] O (lS H) λr v w'=>v=(J r.1)/\Mem O hz w' [blk e [J r.2.O.P,J r.2.O.r,L,J r.2.f.P,J r.2.f.r,N,M,J r.2.n] 141]:=by
 unfold lS
 refine k7 func170 U λr=>?_
 have K:=W
 exact S<|gA U<|S<|Y U<|Y U<|gY (yG U<|kW U U)<|gF zF U<|gL K 0 isAgg3 U<|gB U<|gY (yG U<|kW U U)<|gF zF U<|gS1 K 0 sizeOf3 U U λw K=>S<|Y U<|gY (yG U<|kW U U)<|gF zF U<|gL K 0 isAgg3 U<|gB U<|gA U<|gq U U ⟨U,K.d [0] U⟩
theorem af6 (L:World) (K:List Int) (v1:Value) (W:rp L v1 K) (N:Int) :
    k6 Tryz.prog 171 [v1,J N] L (rT K N) λr v w'=>∃ (x1:Value),v=x1/\Mem L (hp L) w' [ow [x1] r]:=by
 unfold rT
 refine kQ func171 U λr H=>?_
 refine S<|gA U<|S<|gf U (λa e=>k5 (α:=Int) kg H U) ?_
 rintro _ w H
 refine gA U<|gS<|S<|gA U ?_
 obtain ⟨aJ,aK,rfl,_⟩:=ju<|H.ow_rep 0 U
 refine gBk<|gNg (λM aH a w=>∃ (aB:Value),St 25 [(0,v1),(1,J N),(5,aB),(6,J M)] L (hp L) [ow [aB] aH] a w) (λa e=>⟨sl aJ ([]:List Int) aK,e.sb U,H.d [0] U⟩) ?_ ?_
 rintro _ _ M aH a w ⟨aB,e,H⟩ _ _ _ _
 refine gv e<|gS<|S<|Y U<|Y U ?_
 obtain ⟨aL,aI,rfl,_⟩:=ju W
 refine gY (yV kI U)<|gB U<|go _ 11 U (decide_eq_true (by omega))<|gct U<|gSk<|gS<|gJg (λaE a w=>∃ (aC:Value),St 25 [(0,sl aL K aI),(1,J N),(5,aC),(6,J M)] L (hp L) [ow [aC] aE] a w) (λaE=>?_) ?_
 refine gBk<|S<|Y U<|Y U<|gg λaM aN aF=>?_
 obtain ⟨aO,aP,rfl⟩:=jA W aF
 refine gI kI aN (jx aF) U<|gY (yl isAgg3 ((kC (cs:=[J aM]) (H.now W) aF U).cell (j:=0) U) U)<|Y U<|gB U<|gJg (λaG a w=>∃ (O:Value),St 25 [(0,sw aO aP K aI),(1,J N),(5,O),(6,J M)] L (hp L) [ow [O] aG] a w) (λaG=>?_) ?_
 refine gsd 19 U (λaQ=>?_) λaQ=>?_
 refine gct U<|gR<|Y U<|Y U<|gf U (λa e=>kj (vs :=#[(0,(J M))]) (cs :=[J M]) kg e H U U (by kernel_rfl) U U) ?_
 rintro _ w ⟨_,rfl,H⟩
 replace H:=H.lit (xs:=([M]:List Int)) 0 U U U U
 refine gb λ_ aR=>?_
 obtain ⟨aS,aT⟩:=kP.1 aR
 refine gf U (λa e=>kz 1 kg e H U (H.ow_rep 0 U) U U U aS) ?_
 rintro aV w H
 rw [aT] at H
 exact gA U<|gE<|gZ λa e=>⟨aV,e.sb U,H.d [1] U⟩
 exact gcf U<|gSk<|gZ λa e=>⟨aB,e.sb U,H.d [0] U⟩
 rintro aG a w ⟨O,e,H⟩
 exact gv e<|gZ λa e=>⟨O,e.sb U,H.d [0] U⟩
 rintro aE a w ⟨aC,e,H⟩
 exact gv e<|gR<|Y U<|gp U<|gA U<|gE<|gZe λa e=>⟨aC,e.sb U,H.d [0] U⟩
 rintro _ _ a w ⟨aW,e,H⟩ _ _
 refine gv e<|gS<|S<|Y U<|Y U ?_
 obtain ⟨_,_,rfl,_⟩:=ju W
 exact gY (yV kI U)<|gB U<|lF 11 U U<|gHh<|S<|Y U<|gA U<|gq U U ⟨aW,U,H.d [0] U⟩
theorem u9  : ∀ (H:l9) (W:Int) (L:List Int) (r:l9 × (List Int)),l6 H W L=some r->∀ (w0:World) (hz:kR) (K:Nat) (a0:Value) (a2:Value) (a1:Value) (v1:Value) (b5:Mem w0 hz w0 [blk K [J H.O.P,J H.O.r,a0,J H.f.P,J H.f.r,a2,a1,J H.n] 141,ow [a0] H.O.b,ow [a2] H.f.b,ow [a1] H.h,ow [v1] L]),Con Tryz.prog 110 [pV K,J W,v1] w0 (λv w'=>∃ (x1:Value) (x2:Value) (x3:Value),v=(.tuple #[])/\Mem w0 hz w' [blk K [J r.1.O.P,J r.1.O.r,x1,J r.1.f.P,J r.1.f.r,x2,x3,J r.1.n] 141,ow [x1] r.1.O.b,ow [x2] r.1.f.b,ow [x3] r.1.h,ow [v1] r.2]):=by
 refine l6.partial_correctness  (motive:=λH W L r=>∀ (w0:World) (hz:kR) (K:Nat) (a0:Value) (a2:Value) (a1:Value) (v1:Value) (b5:Mem w0 hz w0 [blk K [J H.O.P,J H.O.r,a0,J H.f.P,J H.f.r,a2,a1,J H.n] 141,ow [a0] H.O.b,ow [a2] H.f.b,ow [a1] H.h,ow [v1] L]),Con Tryz.prog 110 [pV K,J W,v1] w0 (λv w'=>∃ (x1:Value) (x2:Value) (x3:Value),v=(.tuple #[])/\Mem w0 hz w' [blk K [J r.1.O.P,J r.1.O.r,x1,J r.1.f.P,J r.1.f.r,x2,x3,J r.1.n] 141,ow [x1] r.1.O.b,ow [x2] r.1.f.b,ow [x3] r.1.h,ow [v1] r.2])) ?_
 intro gM gV H W L r hq w0 hz K a0 a2 a1 v1 b5
 have N:∀ (w0:World) (hz:kR) (H:l9) (K:Nat) (a0:Value) (a2:Value) (a1:Value) (W:Int) (L:List Int) (v1:Value) (b5:Mem w0 hz w0 [blk K [J H.O.P,J H.O.r,a0,J H.f.P,J H.f.r,a2,a1,J H.n] 141,ow [a0] H.O.b,ow [a2] H.f.b,ow [a1] H.h,ow [v1] L]) (r:l9 × (List Int)) (hq:gM H W L=some r),Con Tryz.prog 110 [pV K,J W,v1] w0 (λv w'=>∃ (x1:Value) (x2:Value) (x3:Value),v=(.tuple #[])/\Mem w0 hz w' [blk K [J r.1.O.P,J r.1.O.r,x1,J r.1.f.P,J r.1.f.r,x2,x3,J r.1.n] 141,ow [x1] r.1.O.b,ow [x2] r.1.f.b,ow [x3] r.1.h,ow [v1] r.2]):=λw0 hz H K a0 a2 a1 W L v1 b5 r hq=>gV H W L r hq w0 hz K a0 a2 a1 v1 b5
 refine bg7 (ρ:=l9 × (List Int)) (R:=λr v w'=>∃ (x1:Value) (x2:Value) (x3:Value),v=(.tuple #[])/\Mem w0 hz w' [blk K [J r.1.O.P,J r.1.O.r,x1,J r.1.f.P,J r.1.f.r,x2,x3,J r.1.n] 141,ow [x1] r.1.O.b,ow [x2] r.1.f.b,ow [x3] r.1.h,ow [v1] r.2]) func110 U hq ?_
 have e:=b5
 refine S<|Y U<|gY (yG U<|kW U U)<|gF zn U<|gF kM U<|gL e 0 isAgg39 U<|Y U<|gg λcN dA bL=>?_
 obtain ⟨aA,aB,aI,he⟩:=jy (e.ow_rep 2 U) bL
 subst he
 obtain ⟨_,_,_,_,_,_,_⟩:=k4 (e.ow_rep 2 U) bL
 refine gI kZ dA (jx bL) U<|gA U ?_
 obtain ⟨_,_,_,e⟩:=lH e 2 U bL
 refine gS<|S<|gA U ?_
 obtain ⟨aJ,aF,rfl,_⟩:=ju<|e.ow_rep 4 U
 obtain ⟨aG,aH,rfl,_⟩:=ju<|e.ow_rep 6 U
 obtain ⟨aL,aK,rfl,_⟩:=ju<|e.ow_rep 7 U
 let b7:=sw aA aB H.f.b aI
 let b3:=sl aJ H.O.b aF
 let b4:=sl aG H.h aH
 let e0:=os aJ H.O.b aF
 let e7:Value:=.pointer<|some ⟨aA,aB+W.toNat*5,none⟩
 let c4:=os aG H.h aH
 let c2:=os aL L aK
 refine gJ e (λaN=>[(0,pV K),(1,J W),(2,sl aL L aK),(6,e7)]) (λaN=>[blk K [J aN.1,J aN.2.1,b3,J aN.2.2.1,J aN.2.2.2.1,b7,b4,J aN.2.2.2.2.2] 141,e0,ow [b7] aN.2.2.2.2.1,c4,c2]) (λaN=>?_) ?_
 refine gBk ?_
 replace e:=(k9 cN.j cN.on e 2 1 0 U).d [2,3,4,5,6,7] U
 replace e:=(e.shutE (y:=(cN:jq)) 3 0 (dt U) U U).d [1,2,3,4,5] U
 rw [kq bL] at e
 refine gMf e (λaT=>[(0,pV K),(1,J W),(2,sl aL L aK),(6,e7),(7,J aT.2.2.2.2.2.2)]) (λaT=>[blk K [J aT.1,J aT.2.1,b3,J aT.2.2.1,J aT.2.2.2.1,b7,b4,J aT.2.2.2.2.2.1] 141,e0,ow [b7] aT.2.2.2.2.1,c4,c2]) [0,1,2,3,4] U ?_
 intro _ dB aT w e _ dC
 refine gS<|gS<|gg λaO _ cO=>?_
 obtain ⟨_,bN,bO,e⟩:=lH e 2 U cO
 refine gR<|Y U<|Y U<|gY (yG U<|kW U U)<|gF ko U<|gY (yl isAgg66 ((e.holeE_at 5 U).cell (j:=0) U) U) ?_
 obtain ⟨_,bP,rfl,_⟩:=ju<|e.ow_rep 2 U
 refine gY (yV lY U)<|gB U<|gsd 31 U (λdD=>?_) λdD=>?_
 refine gct U<|gSk<|gS<|gBk<|gg λax dE bQ=>?_
 obtain ⟨bR,bS,rfl⟩:=jA (e.ow_rep 2 U) bQ
 obtain ⟨bT,e⟩:=oS e 2 U bQ
 refine gW (.p 0<|.p 1<|.p 2<|.p 4<|.p 5<|.q 3<|.e 6 (.p 7<|.p 8<|.e 9 .fin .nil) .nil) [6] [0,1,2,4,5,7,8] e [0,1,2,3,5,6,7,8] [_,_,_,_,_,_,_,_] U mxo (by kernel_rfl) (λ_ _ _ h=>h.2) λw e hS=>uM U U<|tP U (λw=>yG U<|kW U U)<|uF ko U U<|uM U U<|uM U U<|tQ U hS (λw e=>yl isAgg66 ((e.holeE_at 5 U).cell (j:=0) U) U)<|tO<|gb λaS dF=>?_
 obtain ⟨dG,gQ,c6,f1,dH⟩:=e.take2 (L1:=[_]) (L2:=[_,_,_,_,_,_,_,_]) [4] [0,1,2,3,5,6,7,8] (dt U) U U
 refine tf U U (λa hf=>ki hf U call170 U<|qw _ dG (⟨(⟨aT.1,aT.2.1,[]⟩:jv),(⟨aT.2.2.1,aT.2.2.2.1,[]⟩:jv),[],aT.2.2.2.2.2.1⟩:l9) K b3 b7 b4 c6  _ dF) ?_
 rintro _ w ⟨rfl,hB⟩
 replace e:=dH _ _ hB;clear hB
 refine tAk e [1,2,3,4,5,6,7,8] U λhS=>?_
 have g3:=e.holeE_len 4 U
 refine tP U (λw=>yI lY dE (kL bQ g3) U)<|uF oH U U<|tO ?_
 have dI:∀ u∈([J aS.1]:List Value),u.oneCell'=true:=(Z U kE)
 refine tf0 U U (λa hf=>mw (j:=0) (vs:=[J aS.1]) 4 hf e U U U sizeOf3 U U U dI U) ?_
 rintro _ w e
 replace e:Mem w0 hz _ [blk K [J aS.2.O.P,J aS.2.O.r,b3,J aS.2.f.P,J aS.2.f.r,b7,b4,J aS.2.n] 141,ow [bT] ax.A,ow [bO] aO.n,ow [bN] aO.i,kY bR bS aO.a.length bP (aO.a:List kA) aT.2.2.2.2.2.2.toNat [J aS.1,bT],e0,kY aA aB H.f.b.length aI (aT.2.2.2.2.1:List jq) W.toNat [sw bR bS aO.a bP,bN,J aO.j,J aO.on,bO],c4,c2]:=e
 refine tAn U<|tE ?_
 replace e:Mem w0 hz _ [blk K [J aS.2.O.P,J aS.2.O.r,sl aJ H.O.b aF,J aS.2.f.P,J aS.2.f.r,sw aA aB H.f.b aI,sl aG H.h aH,J aS.2.n] 141,ow [J aS.1,bT] ((⟨aS.1,ax.A⟩:kA):kA),ow [bO] aO.n,ow [bN] aO.i,kY bR bS aO.a.length bP (aO.a:List kA) aT.2.2.2.2.2.2.toNat [J aS.1,bT],os aJ H.O.b aF,kY aA aB H.f.b.length aI (aT.2.2.2.2.1:List jq) W.toNat [sw bR bS aO.a bP,bN,J aO.j,J aO.on,bO],os aG H.h aH,os aL L aK]:=n8 aS.1 e 1 U
 replace e:=(e.shutE (y:=((⟨aS.1,ax.A⟩:kA):kA)) 4 1 (dt U) U U).d [0,2,3,4,5,6,7,8] U
 refine gR<|Y U<|gB U<|gA U ?_
 replace e:=(k9 aO.j aO.on e 3 2 1 U).d [0,3,4,5,6,7] U
 replace e:=(e.shutE (y:=((⟨aO.a.set aT.2.2.2.2.2.2.toNat (⟨aS.1,ax.A⟩:kA),aO.i,aO.j,aO.on,aO.n⟩:jq):jq)) 3 1 (dt U) U U).d [0,2,3,4,5] U
 exact gze e [0,1,2,3,4] U
 refine gcf U<|gXt<|gHh ?_
 replace e:=(k9 aO.j aO.on e 2 1 0 U).d [2,3,4,5,6,7] U
 replace e:=(e.shutE (y:=(aO:jq)) 3 0 (dt U) U U).d [1,2,3,4,5] U
 rw [kq cO] at e
 exact gLp dC dB<|gz e [0,1,2,3,4] U
 intro aN w e
 let d1:=sw aA aB H.f.b aI
 let gT:=blk K [J aN.1,J aN.2.1,sl aJ H.O.b aF,J aN.2.2.1,J aN.2.2.2.1,d1,sl aG H.h aH,J aN.2.2.2.2.2] 141
 let e9:Value:=.pointer<|some ⟨aA,aB+W.toNat*5,none⟩
 let aU:=sl aL L aK
 let d4:=os aG H.h aH
 let f4:=os aJ H.O.b aF
 let e5:=ow [d1] aN.2.2.2.2.1
 refine gS<|S<|gA U<|gJ e (λbU=>[(0,pV K),(1,J W),(2,aU),(6,e9)]) (λbU=>[gT,f4,e5,d4,ow [aU] bU]) (λbU=>?_) ?_
 refine gBk<|gMf e (λal=>[(0,pV K),(1,J W),(2,aU),(6,e9),(8,J al.2)]) (λal=>[gT,f4,e5,d4,ow [aU] al.1]) [0,1,2,3,4] U ?_
 intro _ dJ al w e _ dK
 refine gS<|gS<|gg λaV _ cP=>?_
 obtain ⟨_,bV,bW,e⟩:=lH e 2 U cP
 refine gR<|Y U<|Y U<|gY (yG U<|kW U U)<|gF ko U<|gY (yl isAgg66 ((e.holeE_at 5 U).cell (j:=0) U) U) ?_
 obtain ⟨_,bX,rfl,_⟩:=ju<|e.ow_rep 2 U
 refine gY (yV lY U)<|gB U<|gsd 49 U (λdL=>?_) λdL=>?_
 refine gct U<|gSk<|gS<|gBk<|gg λaY dM bY=>?_
 obtain ⟨bZ,b8,rfl⟩:=jA (e.ow_rep 4 U) bY
 obtain ⟨_,b9,ba,e⟩:=lH e 4 U bY
 refine gg λap dN bb=>?_
 obtain ⟨bc,bd,be,he⟩:=jy (e.ow_rep 2 U) bb
 subst he
 obtain ⟨ce,e⟩:=oS e 2 U bb
 refine gg λab dO bf=>?_
 obtain ⟨bg,bh,rfl⟩:=jA (e.ow_rep 6 U) bf
 obtain ⟨bi,e⟩:=oS e 6 U bf
 refine gW (.p 0<|.p 1<|.p 2<|.p 3<|.p 4<|.p 6<|.p 10<|.p 14<|.p 15<|.p 16<|.p 18<|.q 5<|.p 7<|.p 8<|.q 9<|.p 11<|.p 12<|.q 13<|.e 17 (.p 19<|.p 20<|.e 21 (.p 22<|.e 23 .fin .nil) .nil) .nil) [17,21] [0,1,2,3,4,6,7,8,10,11,12,14,15,16,18,19,20,22] e [0,1,2,3,4,5,6,7,8,9,10,11,12] [_,_,_,_,_,_,_,_,_,_,_,_,_] U mxo (by kernel_rfl) (λ_ _ _ h=>h.2) λw e hS=>uM U U<|uM U U<|tP U (λw=>yG U<|kW U U)<|uF zU U U<|uF kM U U<|uM U U<|uM U U<|uM U U<|tP U (λw=>yG U<|kW U U)<|uF ko U U<|uM U U<|tQ U hS (λw e=>yL e 8 isAgg39 U) ?_
 have g1:=e.holeE_len 9 U
 refine tP U (λw=>yI kZ dM (kL bY g1) U)<|uF ko U U<|tQ U hS (λw e=>yl isAgg66 ((e.holeE_at 9 U).cell (j:=0) U) U) ?_
 have g6:=e.holeE_len 4 U
 refine tP U (λw=>yI lY dN (kL bb g6) U)<|uF oH U U<|tQ U hS (λw e=>yl isAgg3 ((e.holeE_at 4 U).cell (j:=0) U) U)<|tO<|tY U (yl isAgg66 ((e.holeE_at 10 U).cell (j:=0) U) U)<|tAs hS ?_
 have fL:=e.holeE_len 7 U
 refine tP U (λw=>yI lY dO (kL bf fL) U)<|uF oH U U<|tO<|tY U (yl isAgg3 ((e.holeE_at 7 U).cell (j:=0) U) U)<|tAs hS<|gg λ_ dP bj=>?_
 obtain ⟨cf,cg,rfl⟩:=jA (e.ow_rep 12 U) bj
 have fK:=kB<|e.ow_rep 12 U
 refine tP U (λw=>yI kI dP (kL bj fK) U)<|tO<|tf0 U U (λa hf=>lI (x1:=ab.to) (j:=0) (vs:=[J ab.to]) 12 hf e U bj U sizeOf3 U U U (Z U kE) U U) ?_
 rintro _ w e
 refine tAn U<|tE ?_
 replace e:Mem w0 hz _ [ow [bi] ab.A,ow [J ap.to,ce] (ap:kA),ow [ba] aY.n,ow [b9] aY.i,kY bc bd aY.a.length be (aY.a:List kA) al.2.toNat [J ap.to,ce],ow [bW] aV.n,ow [bV] aV.i,kY bg bh aV.a.length bX (aV.a:List kA) al.2.toNat [J ab.to,bi],blk K [J aN.1,J aN.2.1,sw bZ b8 H.O.b aF,J aN.2.2.1,J aN.2.2.2.1,d1,sl aG H.h aH,J aN.2.2.2.2.2] 141,kY bZ b8 H.O.b.length aF (H.O.b:List jq) W.toNat [sw bc bd aY.a be,b9,J aY.j,J aY.on,ba],kY aA aB H.f.b.length aI (aN.2.2.2.2.1:List jq) W.toNat [sw bg bh aV.a bX,bV,J aV.j,J aV.on,bW],d4,ow [sw cf cg L aK]<|al.1.set ap.to.toNat ab.to]:=n8 ap.to e 1 U
 replace e:=(e.shutE (y:=(ap:kA)) 4 1 (dt U) U U).d [0,2,3,4,5,6,7,8,9,10,11,12] U
 rw [kq bb] at e
 replace e:Mem w0 hz _ [ow [J ab.to,bi] (ab:kA),ow [ba] aY.n,ow [b9] aY.i,ot bc bd aY.a be,ow [bW] aV.n,ow [bV] aV.i,kY bg bh aV.a.length bX (aV.a:List kA) al.2.toNat [J ab.to,bi],blk K [J aN.1,J aN.2.1,sw bZ b8 H.O.b aF,J aN.2.2.1,J aN.2.2.2.1,sw aA aB H.f.b aI,sl aG H.h aH,J aN.2.2.2.2.2] 141,kY bZ b8 H.O.b.length aF (H.O.b:List jq) W.toNat [sw bc bd aY.a be,b9,J aY.j,J aY.on,ba],kY aA aB H.f.b.length aI (aN.2.2.2.2.1:List jq) W.toNat [sw bg bh aV.a bX,bV,J aV.j,J aV.on,bW],os aG H.h aH,ow [sw cf cg L aK]<|al.1.set ap.to.toNat ab.to]:=n8 ab.to e 0 U
 replace e:=(e.shutE (y:=(ab:kA)) 6 0 (dt U) U U).d [1,2,3,4,5,6,7,8,9,10,11] U
 rw [kq bf] at e
 replace e:=(k9 aY.j aY.on e 2 1 0 U).d [2,3,4,5,6,7,8,9,10] U
 replace e:=(e.shutE (y:=(aY:jq)) 5 0 (dt U) U U).d [1,2,3,4,5,6,7,8] U
 rw [kq bY] at e
 refine gR<|Y U<|gB U<|gA U ?_
 replace e:=(k9 aV.j aV.on e 2 1 0 U).d [2,3,4,5,6,7] U
 replace e:=(e.shutE (y:=(aV:jq)) 3 0 (dt U) U U).d [1,2,3,4,5] U
 rw [kq cP] at e
 exact gze e [0,1,2,3,4] U
 refine gcf U<|gXt<|gHh ?_
 replace e:=(k9 aV.j aV.on e 2 1 0 U).d [2,3,4,5,6,7] U
 replace e:=(e.shutE (y:=(aV:jq)) 3 0 (dt U) U U).d [1,2,3,4,5] U
 rw [kq cP] at e
 exact gLp dK dJ<|gz e [0,1,2,3,4] U
 intro bU w e
 let a5:=sw aA aB H.f.b aI
 let d6:Value:=.pointer<|some ⟨aA,aB+W.toNat*5,none⟩
 let a4:=sl aL L aK
 let b6:=os aJ H.O.b aF
 let a3:=os aG H.h aH
 let a8:=sl aJ H.O.b aF
 let a9:=sl aG H.h aH
 refine gS<|S<|gA U<|gJ e (λO=>[(0,pV K),(1,J W),(2,a4),(6,d6)]) (λO=>[blk K [J O.1,J O.2.1,a8,J O.2.2.1,J O.2.2.2.1,a5,a9,J O.2.2.2.2.2.1] 141,b6,ow [a5] O.2.2.2.2.1,a3,ow [a4] O.2.2.2.2.2.2]) (λO=>?_) ?_
 refine gBk<|gMf e (λaE=>[(0,pV K),(1,J W),(2,a4),(6,d6),(9,J aE.2.2.2.2.2.2.2)]) (λaE=>[blk K [J aE.1,J aE.2.1,a8,J aE.2.2.1,J aE.2.2.2.1,a5,a9,J aE.2.2.2.2.2.1] 141,b6,ow [a5] aE.2.2.2.2.1,a3,ow [a4] aE.2.2.2.2.2.2.1]) [0,1,2,3,4] U ?_
 intro _ dQ aE w e _ dR
 refine gS<|gS<|gg λay _ cQ=>?_
 obtain ⟨_,_,_,e⟩:=lH e 2 U cQ
 refine gR<|Y U<|Y U<|gY (yG U<|kW U U)<|gF lC U<|gY (yl isAgg53 ((e.holeE_at 5 U).cell (j:=1) U) U) ?_
 obtain ⟨_,_,rfl,_⟩:=ju<|e.ow_rep 1 U
 refine gY (yV lh U)<|gB U<|gsd 81 U (λdS=>?_) λdS=>?_
 let d3:=J aE.2.2.2.2.2.2.2
 refine gct U<|gSk<|gS<|gJ e (λaf=>[(0,pV K),(1,J W),(2,a4),(6,d6),(9,d3)]) (λaf=>[blk K [J af.1,J af.2.1,a8,J af.2.2.1,J af.2.2.2.1,a5,a9,J af.2.2.2.2.2.1] 141,b6,ow [a5] af.2.2.2.2.1,a3,ow [a4] af.2.2.2.2.2.2]) (λaf=>?_) ?_
 let g4:=blk K [J aE.1,J aE.2.1,a8,J aE.2.2.1,J aE.2.2.2.1,a5,a9,J aE.2.2.2.2.2.1] 141
 let c3:=ow [a4] aE.2.2.2.2.2.2.1
 refine gBk<|gS<|S<|gA U<|gJ e (λbk=>[(0,pV K),(1,J W),(2,a4),(6,d6),(9,d3)]) (λbk=>[g4,b6,ow [a5] bk,a3,c3]) (λbk=>?_) ?_
 refine gBk ?_
 replace e:=(k9 ay.j ay.on e 2 1 0 U).d [2,3,4,5,6,7] U
 replace e:=(e.shutE (y:=(ay:jq)) 3 0 (dt U) U U).d [1,2,3,4,5] U
 rw [kq cQ] at e
 refine gMf e (λac=>[(0,pV K),(1,J W),(2,a4),(6,d6),(9,d3),(10,J ac.2)]) (λac=>[g4,b6,ow [a5] ac.1,a3,c3]) [0,1,2,3,4] U ?_
 intro _ dT ac w e _ dU
 refine gS<|gS<|gg λaM _ cR=>?_
 obtain ⟨az,_,bA,e⟩:=lH e 2 U cR
 refine gR<|Y U<|Y U<|gY (yG U<|kW U U)<|gF lC U<|gY (yl isAgg53 ((e.holeE_at 5 U).cell (j:=1) U) U)<|Y U<|gg λM cS ah=>?_
 obtain ⟨bB,bC,bD,he⟩:=jy (e.ow_rep 1 U) ah
 subst he
 obtain ⟨_,_,_⟩:=nO (e.ow_rep 1 U) ah
 refine gI lh cS (jx ah) U<|gF ml U ?_
 obtain ⟨_,e⟩:=ao9 e 1 U ah
 refine gY (yl isAgg54 ((e.holeE_at 2 U).cell (j:=2) U) U) ?_
 obtain ⟨bl,bm,rfl,_⟩:=ju<|e.ow_rep 0 U
 refine gY (yV kI U)<|gB U<|gsd 94 U (λdV=>?_) λdV=>?_
 refine gct U<|gSk<|gS<|gBk ?_
 replace e:Mem w0 hz _ [ow [J M.op,J M.to,sl bl M.A bm,J M.N] (M:kD),ow [bA] aM.n,kY bB bC aM.i.length bD (aM.i:List kD) aE.2.2.2.2.2.2.2.toNat [J M.op,J M.to,sl bl M.A bm,J M.N],ow [az] aM.a,g4,b6,kY aA aB H.f.b.length aI (ac.1:List jq) W.toNat [az,sw bB bC aM.i bD,J aM.j,J aM.on,bA],a3,c3]:=tX M.op M.to M.N e 0 U
 replace e:=(e.shutE (y:=(M:kD)) 2 0 (dt U) U U).d [1,2,3,4,5,6,7,8] U
 rw [kq ah] at e
 obtain ⟨_,e⟩:=ao9 e 1 U ah
 refine gW (.p 0<|.p 1<|.p 2<|.p 4<|.p 8<|.p 9<|.p 10<|.p 11<|.p 12<|.p 14<|.p 18<|.q 3<|.p 5<|.p 6<|.q 7<|.e 13 (.p 15<|.p 16<|.e 17 (.p 19<|.e 20 (.p 21<|.e 22 (.p 23<|.e 24 .fin .nil) .nil) .nil) .nil) .nil) [13,17,20,22] [0,1,2,4,5,6,8,9,10,11,12,14,15,16,18,19,21,23] e [0,1,2,3,4,5,6,7,8] [_,_,_,_,_,_,_,_,_] U mxo (by kernel_rfl) (λ_ _ _ h=>h.2) λw e hS=>uM U U<|tP U (λw=>yG U<|kW U U)<|uF lC U U<|uM U U<|uM U U<|uM U U<|uM U U<|tP U (λw=>yG U<|kW U U)<|uF lC U U<|uM U U<|uM U U<|tQ U hS (λw e=>yl isAgg53 ((e.holeE_at 6 U).cell (j:=1) U) U) ?_
 have g2:=e.holeE_len 2 U
 refine tP U (λw=>yI lh cS (kL ah g2) U)<|uF ml U U<|tQ U hS (λw e=>yl isAgg54 ((e.holeE_at 2 U).cell (j:=2) U) U)<|tO<|tY U (yl isAgg53 ((e.holeE_at 6 U).cell (j:=1) U) U)<|tAs hS ?_
 have f7:=e.holeE_len 2 U
 refine tP U (λw=>yI lh cS (kL ah f7) U)<|uF ml U U<|tO<|tY U (yl isAgg54 ((e.holeE_at 2 U).cell (j:=2) U) U)<|tAs hS<|gg λdW ci bE=>?_
 obtain ⟨cj,ck,cl,he⟩:=kG (e.ow_rep 0 U) bE
 subst he
 refine tP U (λw=>yI kI ci (jx bE) U)<|tO<|tY U (yl isAgg3 ((kC (cs:=[J dW]) (e.ow_rep 0 U) bE U).cell (j:=0) U) U)<|tAs hS<|gg λam dX cT=>?_
 obtain ⟨dY,dZ,rfl⟩:=jA (e.ow_rep 8 U) cT
 have g5:=kB<|e.ow_rep 8 U
 refine tP U (λw=>yI kI dX (kL cT g5) U)<|tO<|tY U (yl isAgg3 ((kC (cs:=[J am]) (e.ow_rep 8 U) cT U).cell (j:=0) U) U)<|tAs hS<|tP U (λw=>yI kI ci (jx bE) U)<|tO<|tf0 U U (λa hf=>lI (x1:=am) (j:=0) (vs:=[J am]) 0 hf e U bE U sizeOf3 U U U (Z U kE) U U) ?_
 rintro _ w e
 refine tAn U<|tE ?_
 let e3:=sw cj ck M.A cl
 replace e:Mem w0 hz _ [ow [J M.op,J M.to,e3,J M.N] ((⟨M.op,M.to,M.A.set ac.2.toNat am,M.N⟩:kD):kD),ow [bA] aM.n,kY bB bC aM.i.length bD (aM.i:List kD) aE.2.2.2.2.2.2.2.toNat [J M.op,J M.to,e3,J M.N],ow [az] aM.a,blk K [J aE.1,J aE.2.1,sl aJ H.O.b aF,J aE.2.2.1,J aE.2.2.2.1,sw aA aB H.f.b aI,sl aG H.h aH,J aE.2.2.2.2.2.1] 141,os aJ H.O.b aF,kY aA aB H.f.b.length aI (ac.1:List jq) W.toNat [az,sw bB bC aM.i bD,J aM.j,J aM.on,bA],os aG H.h aH,ow [sw dY dZ L aK] aE.2.2.2.2.2.2.1]:=tX M.op M.to M.N e 0 U
 replace e:=(e.shutE (y:=((⟨M.op,M.to,M.A.set ac.2.toNat am,M.N⟩:kD):kD)) 2 0 (dt U) U U).d [1,2,3,4,5,6,7,8] U
 refine gR<|Y U<|gB U<|gA U ?_
 replace e:=(k9 aM.j aM.on e 2 1 0 U).d [2,3,4,5,6,7] U
 replace e:=(e.shutE (y:=((⟨aM.a,aM.i.set aE.2.2.2.2.2.2.2.toNat (⟨M.op,M.to,M.A.set ac.2.toNat am,M.N⟩:kD),aM.j,aM.on,aM.n⟩:jq):jq)) 3 0 (dt U) U U).d [1,2,3,4,5] U
 exact gze e [0,1,2,3,4] U
 refine gcf U<|gXt<|gHh ?_
 replace e:Mem w0 hz _ [ow [J M.op,J M.to,sl bl M.A bm,J M.N] (M:kD),ow [bA] aM.n,kY bB bC aM.i.length bD (aM.i:List kD) aE.2.2.2.2.2.2.2.toNat [J M.op,J M.to,sl bl M.A bm,J M.N],ow [az] aM.a,blk K [J aE.1,J aE.2.1,sl aJ H.O.b aF,J aE.2.2.1,J aE.2.2.2.1,sw aA aB H.f.b aI,sl aG H.h aH,J aE.2.2.2.2.2.1] 141,os aJ H.O.b aF,kY aA aB H.f.b.length aI (ac.1:List jq) W.toNat [az,sw bB bC aM.i bD,J aM.j,J aM.on,bA],os aG H.h aH,ow [sl aL L aK] aE.2.2.2.2.2.2.1]:=tX M.op M.to M.N e 0 U
 replace e:=(e.shutE (y:=(M:kD)) 2 0 (dt U) U U).d [1,2,3,4,5,6,7,8] U
 rw [kq ah] at e
 replace e:=(k9 aM.j aM.on e 2 1 0 U).d [2,3,4,5,6,7] U
 replace e:=(e.shutE (y:=(aM:jq)) 3 0 (dt U) U U).d [1,2,3,4,5] U
 rw [kq cR] at e
 exact gLp dU dT<|gz e [0,1,2,3,4] U
 intro bk w e
 refine gS<|gg λaa _ cU=>?_
 obtain ⟨_,_,_,e⟩:=lH e 2 U cU
 refine gR<|Y U<|gY (yG U<|kW U U)<|gF lC U<|gY (yl isAgg53 ((e.holeE_at 5 U).cell (j:=1) U) U)<|Y U<|gg λaW cV an=>?_
 obtain ⟨_,_,_,he⟩:=jy (e.ow_rep 1 U) an
 subst he
 obtain ⟨_,d7,_⟩:=nO (e.ow_rep 1 U) an
 let c5:=sw aA aB H.f.b aI
 let e8:=sl aJ H.O.b aF
 refine gI lh cV (jx an) U<|gF nN U<|gY (yl isAgg3 (d7.cell (j:=0) U) U)<|gC e U call114 (qy _ aW.op) λ_ _ w e=>gJ e (λai=>[(0,pV K),(1,J W),(2,sl aL L aK),(6,.pointer<|some ⟨aA,aB+W.toNat*5,none⟩),(9,J aE.2.2.2.2.2.2.2)]) (λai=>[blk K [J ai.1,J ai.2.1,e8,J ai.2.2.1,J ai.2.2.2.1,c5,sl aG H.h aH,J ai.2.2.2.2.2.1] 141,os aJ H.O.b aF,ow [c5] ai.2.2.2.2.1,os aG H.h aH,ow [sl aL L aK] ai.2.2.2.2.2.2]) (λai=>?_) ?_
 refine gs 129 U (λd8=>?_) λd8=>?_
 refine gct U<|S<|Y U ?_
 obtain ⟨d9,gQ,c6,f1,da⟩:=e.take2 (L1:=[_]) (L2:=[_,_,_,_,_,_,_]) [3] [0,1,2,4,5,6,7] (dt U) U U
 refine gCg U call170 (qw _ d9 (⟨(⟨aE.1,aE.2.1,[]⟩:jv),(⟨aE.2.2.1,aE.2.2.2.1,[]⟩:jv),[],aE.2.2.2.2.2.1⟩:l9) K e8 c5 (sl aG H.h aH) c6 ) ?_
 rintro aj _ _ w ⟨rfl,hB⟩
 replace e:=da _ _ hB;clear hB
 refine gA U<|S<|Y U<|Y U<|gY (yG U<|kW U U)<|gF lC U<|gY (yl isAgg53 ((e.holeE_at 5 U).cell (j:=1) U) U)<|Y U ?_
 obtain ⟨_,db,_⟩:=nO (e.ow_rep 2 U) an
 refine gI lh cV (jx an) U<|gF oa U<|gY (yl isAgg3 (db.cell (j:=1) U) U)<|Y U<|gg λ_ dc bo=>?_
 obtain ⟨_,_,rfl⟩:=jA (e.ow_rep 7 U) bo
 have fI:=kB<|e.ow_rep 7 U
 refine gI kI dc (kL bo fI) U<|gf0 U (λa hf=>lI (x1:=aj.1) (j:=0) (vs:=[J aj.1]) 7 hf e U bo U sizeOf3 U U U (Z U kE) U U) ?_
 rintro _ w e
 refine gR<|Y U<|gY (yG U<|kW U U)<|gF lC U<|gY (yl isAgg53 ((e.holeE_at 5 U).cell (j:=1) U) U)<|Y U<|Y U ?_
 obtain ⟨cW,dd,_⟩:=nO (e.ow_rep 2 U) an
 refine gI lh cV (jx an) U<|gF oa U<|gf0 U (λa hf=>pK (x1:=((⟨aW.op,aj.1,aW.A,aW.N⟩:kD):kD)) (j:=1) (vs:=[J aj.1]) 2 hf e U an dd U (λF h ho=>(λ_=>ng (α:=Int) (β:=Int × (List Int) × Int) (cs:=[J aW.op]) (ds:=[J aW.to,cW,J aW.N]) (ds':=[J aj.1,cW,J aW.N]) U λ_=>pA (α:=Int) (β:=(List Int) × Int) (cs:=[J aW.to]) (cs':=[J aj.1]) (ds:=[cW,J aW.N]) U λ_ _=>Flat.own_iff.2 U) F ho) U sizeOf3 U U U (Z U kE) U) ?_
 rintro _ w e
 refine gE ?_
 replace e:=(k9 aa.j aa.on e 3 2 1 U).d [0,3,4,5,6,7] U
 replace e:=(e.shutE (y:=((⟨aa.a,aa.i.set aE.2.2.2.2.2.2.2.toNat (⟨aW.op,aj.1,aW.A,aW.N⟩:kD),aa.j,aa.on,aa.n⟩:jq):jq)) 3 1 (dt U) U U).d [0,2,3,4,5] U
 exact gz e [0,1,2,3,4] U
 refine gcf U<|gSk ?_
 replace e:=(k9 aa.j aa.on e 2 1 0 U).d [2,3,4,5,6,7] U
 replace e:=(e.shutE (y:=(aa:jq)) 3 0 (dt U) U U).d [1,2,3,4,5] U
 rw [kq cU] at e
 exact gz e [0,1,2,3,4] U
 intro ai w e
 exact gz e [0,1,2,3,4] U
 intro af w e
 exact gR<|Y U<|gB U<|gA U<|gE<|gze e [0,1,2,3,4] U
 refine gcf U<|gXt<|gHh ?_
 replace e:=(k9 ay.j ay.on e 2 1 0 U).d [2,3,4,5,6,7] U
 replace e:=(e.shutE (y:=(ay:jq)) 3 0 (dt U) U U).d [1,2,3,4,5] U
 rw [kq cQ] at e
 exact gLp dR dQ<|gz e [0,1,2,3,4] U
 intro O w e
 refine gS<|gS<|gg λaZ _ cX=>?_
 obtain ⟨cm,cn,co,e⟩:=lH e 2 U cX
 let d2:=sw aA aB H.f.b aI
 let f3:=os aJ H.O.b aF
 let f5:=sl aJ H.O.b aF
 refine gR<|Y U<|gY (yG U<|kW U U)<|gF oR U<|gY (yl isAgg3 ((e.holeE_at 5 U).cell (j:=2) U) U)<|gB U<|gJ e (λbp=>[(0,pV K),(1,J W),(2,sl aL L aK),(6,.pointer<|some ⟨aA,aB+W.toNat*5,none⟩)]) (λbp=>[blk K [J O.1,J O.2.1,f5,J O.2.2.1,J O.2.2.2.1,d2,sl aG H.h aH,J O.2.2.2.2.2.1] 141,f3,ow [d2] bp,os aG H.h aH,ow [sl aL L aK] O.2.2.2.2.2.2]) (λbp=>?_) ?_
 refine gsd 155 U (λde=>?_) λde=>?_
 refine gct U<|gR<|Y U<|Y U<|Y U<|gY (yG U<|kW U U)<|gF oI U<|gY (yl isAgg3 ((e.holeE_at 5 U).cell (j:=3) U) U)<|gg λaq df cY=>?_
 obtain ⟨dg,dh,rfl⟩:=jA (e.ow_rep 7 U) cY
 have g7:=kB<|e.ow_rep 7 U
 refine gI kI df (kL cY g7) U<|gY (yl isAgg3 ((kC (cs:=[J aq]) (e.ow_rep 7 U) cY U).cell (j:=0) U) U)<|gY (yG U<|kW U U)<|gF oI U ?_
 have di:∀ u∈([J aq]:List Value),u.oneCell'=true:=(Z U kE)
 refine gf0 U (λa hf=>mw (j:=3) (vs:=[J aq]) 5 hf e U U U sizeOf3 U U U di U) ?_
 rintro _ w e
 replace e:Mem w0 hz _ [ow [co] aZ.n,ow [cn] aZ.i,ow [cm] aZ.a,blk K [J O.1,J O.2.1,f5,J O.2.2.1,J O.2.2.2.1,d2,sl aG H.h aH,J O.2.2.2.2.2.1] 141,f3,kY aA aB H.f.b.length aI (O.2.2.2.2.1:List jq) W.toNat [cm,cn,J aZ.j,J aq,co],os aG H.h aH,ow [sw dg dh L aK] O.2.2.2.2.2.2]:=e
 refine gE ?_
 replace e:=(k9 aZ.j aq e 2 1 0 U).d [2,3,4,5,6,7] U
 replace e:=(e.shutE (y:=((⟨aZ.a,aZ.i,aZ.j,aq,aZ.n⟩:jq):jq)) 3 0 (dt U) U U).d [1,2,3,4,5] U
 exact gz e [0,1,2,3,4] U
 refine gcf U<|gSk ?_
 replace e:=(k9 aZ.j aZ.on e 2 1 0 U).d [2,3,4,5,6,7] U
 replace e:=(e.shutE (y:=(aZ:jq)) 3 0 (dt U) U U).d [1,2,3,4,5] U
 rw [kq cX] at e
 exact gz e [0,1,2,3,4] U
 intro bp w e
 let c1:=sw aA aB H.f.b aI
 let d0:=sl aJ H.O.b aF
 let e1:=blk K [J O.1,J O.2.1,d0,J O.2.2.1,J O.2.2.2.1,c1,sl aG H.h aH,J O.2.2.2.2.2.1] 141
 let a7:=sl aL L aK
 let e2:=ow [a7] O.2.2.2.2.2.2
 let b0:=os aJ H.O.b aF
 let a6:=os aG H.h aH
 refine gS<|S<|gA U<|gJ e (λbq=>[(0,pV K),(1,J W),(2,a7)]) (λbq=>[e1,b0,ow [c1] bq,a6,e2]) (λbq=>?_) ?_
 let d5:Value:=.pointer<|some ⟨aA,aB+W.toNat*5,none⟩
 refine gBk<|gMf e (λbF=>[(0,pV K),(1,J W),(2,a7),(6,d5),(12,J bF.2)]) (λbF=>[e1,b0,ow [c1] bF.1,a6,e2]) [0,1,2,3,4] U ?_
 intro _ dk bF w e _ dl
 refine gS<|gS<|gg λbG _ cZ=>?_
 obtain ⟨_,_,_,e⟩:=lH e 2 U cZ
 refine gR<|Y U<|Y U<|gY (yG U<|kW U U)<|gF lb U<|gY (yl isAgg54 ((e.holeE_at 5 U).cell (j:=4) U) U) ?_
 obtain ⟨_,gw,rfl,_⟩:=ju<|e.ow_rep 0 U
 refine gY (yV kI U)<|gB U<|gsd 172 U (λdm=>?_) λdm=>?_
 refine gct U<|gSk<|gS<|gBk<|S<|Y U<|gY (yG U<|kW U U)<|gF lb U<|gY (yl isAgg54 ((e.holeE_at 5 U).cell (j:=4) U) U)<|Y U<|gg λar dp c7=>?_
 obtain ⟨_,_,rfl⟩:=jA (e.ow_rep 0 U) c7
 refine gI kI dp (jx c7) U<|gY (yl isAgg3 ((kC (cs:=[J ar]) (e.ow_rep 0 U) c7 U).cell (j:=0) U) U)<|gA U<|S<|Y U<|gY (yG U<|kW U U)<|gF zU U<|gY (yn (cs:=[J O.1,J O.2.1,d0]) (e.blk_part (i:=0) 3 U U) isAgg41 sizeOf41 U)<|Y U<|gCg U call96 (nj _ (⟨O.1,O.2.1,H.O.b⟩:jv) d0 (e.ow_rep 4 U) ar) ?_
 rintro dq _ dr w ⟨_,rfl,hB⟩
 replace e:=e.give hB
 refine Y U<|gC e U call101 (pX _ dq dr (e.ow_rep 0 U) W) λau _ w e=>gA U<|S<|gA U<|gJ e (λbr=>[(0,pV K),(1,J W),(2,a7),(6,d5),(12,J bF.2)]) (λbr=>[e1,b0,ow [c1] br,a6,e2]) (λbr=>?_) ?_
 refine gBk ?_
 replace e:=(k9 bG.j bG.on e 3 2 1 U).d [0,3,4,5,6,7,8] U
 replace e:=(e.shutE (y:=(bG:jq)) 4 1 (dt U) U U).d [0,2,3,4,5,6] U
 rw [kq cZ] at e
 refine gMf e (λae=>[(0,pV K),(1,J W),(2,a7),(6,d5),(12,J bF.2),(13,J ar),(14,J au),(15,J ae.2)]) (λae=>[e1,b0,ow [c1] ae.1,a6,e2]) [1,2,3,4,5] U ?_
 intro _ du ae w e _ dv
 refine gS<|S<|Y U<|Y U<|gY (yG U<|kW U U)<|gF zU U<|gF kM U<|gL e 0 isAgg39 U<|Y U<|gg λaR cq ao=>?_
 obtain ⟨bt,bu,rfl⟩:=jA (e.ow_rep 1 U) ao
 obtain ⟨_,_,_,_,_,_,_⟩:=k4 (e.ow_rep 1 U) ao
 refine gI kZ cq (jx ao) U<|gF ko U ?_
 obtain ⟨_,_,_,e⟩:=lH e 1 U ao
 refine gY (yl isAgg66 ((e.holeE_at 4 U).cell (j:=0) U) U) ?_
 obtain ⟨_,_,rfl,_⟩:=ju<|e.ow_rep 2 U
 refine gY (yV lY U)<|gB U<|gsd 201 U (λdw=>?_) λdw=>?_
 refine gct U<|gSk<|gS<|gBk ?_
 replace e:=(k9 aR.j aR.on e 2 1 0 U).d [2,3,4,5,6,7] U
 replace e:=(e.shutE (y:=(aR:jq)) 2 0 (dt U) U U).d [1,2,3,4,5] U
 rw [kq ao] at e
 refine gg λaP dx c8=>?_
 obtain ⟨_,bv,bx,e⟩:=lH e 2 U c8
 refine gg λaX dy bz=>?_
 obtain ⟨cA,cB,cC,he⟩:=jy (e.ow_rep 2 U) bz
 subst he
 obtain ⟨_,e⟩:=oS e 2 U bz
 obtain ⟨_,cD,cE,e⟩:=lH e 5 U ao
 refine gg λaw dz cF=>?_
 obtain ⟨cG,cH,cI,he⟩:=jy (e.ow_rep 2 U) cF
 subst he
 obtain ⟨_,e⟩:=oS e 2 U cF
 refine gW (.p 0<|.p 1<|.p 2<|.p 3<|.p 5<|.p 9<|.p 13<|.p 14<|.p 15<|.p 16<|.p 17<|.p 18<|.p 20<|.p 24<|.p 28<|.q 4<|.p 6<|.p 7<|.q 8<|.p 10<|.p 11<|.q 12<|.e 19 (.p 21<|.p 22<|.e 23 (.p 25<|.p 26<|.e 27 (.p 29<|.e 30 (.p 31<|.e 32 (.p 33<|.e 34 .fin .nil) .nil) .nil) .nil) .nil) .nil) [19,23,27,30,32] [0,1,2,3,5,6,7,9,10,11,13,14,15,16,17,18,20,21,22,24,25,26,28,29,31,33] e [0,1,2,3,4,5,6,7,8,9,10,11,12] [_,_,_,_,_,_,_,_,_,_,_,_,_] U mxo (by kernel_rfl) (λ_ _ _ h=>h.2) λw e hS=>uM U U<|tP U (λw=>yG U<|kW U U)<|uF zn U U<|uF kM U U<|uM U U<|uM U U<|uM U U<|uM U U<|uM U U<|tP U (λw=>yG U<|kW U U)<|uF zU U U<|uF kM U U<|uM U U<|uM U U<|uM U U<|tQ U hS (λw e=>yL e 8 isAgg39 U) ?_
 have fG:=e.holeE_len 10 U
 refine tP U (λw=>yI kZ dx (kL c8 fG) U)<|uF ko U U<|tQ U hS (λw e=>yl isAgg66 ((e.holeE_at 10 U).cell (j:=0) U) U) ?_
 have f6:=e.holeE_len 7 U
 refine tP U (λw=>yI lY dy (kL bz f6) U)<|uF mT U U<|tQ U hS (λw e=>yl isAgg54 ((e.holeE_at 7 U).cell (j:=1) U) U)<|tO<|tY U (yL e 8 isAgg39 U)<|tAs hS ?_
 have g0:=e.holeE_len 9 U
 refine tP U (λw=>yI kZ cq (kL ao g0) U)<|uF ko U U<|tO<|tY U (yl isAgg66 ((e.holeE_at 9 U).cell (j:=0) U) U)<|tAs hS ?_
 have g9:=e.holeE_len 3 U
 refine tP U (λw=>yI lY dz (kL cF g9) U)<|uF mT U U<|tO<|tY U (yl isAgg54 ((e.holeE_at 3 U).cell (j:=1) U) U)<|tAs hS<|gg λeA eB c9=>?_
 obtain ⟨cr,ct,cv,he⟩:=kG (e.ow_rep 0 U) c9
 subst he
 refine tP U (λw=>yI kI eB (jx c9) U)<|tO<|tY U (yl isAgg3 ((kC (cs:=[J eA]) (e.ow_rep 0 U) c9 U).cell (j:=0) U) U)<|tAs hS<|gg λak eC ca=>?_
 obtain ⟨cw,cx,rfl⟩:=jA (e.ow_rep 12 U) ca
 have g8:=kB<|e.ow_rep 12 U
 refine tP U (λw=>yI kI eC (kL ca g8) U)<|tO<|tY U (yl isAgg3 ((kC (cs:=[J ak]) (e.ow_rep 12 U) ca U).cell (j:=0) U) U)<|tAs hS<|gg λ_ eD cJ=>?_
 obtain ⟨cK,cL,cM,he⟩:=kG (e.ow_rep 4 U) cJ
 subst he
 refine tP U (λw=>yI kI eD (jx cJ) U)<|tO<|tf0 U U (λa hf=>lI (x1:=ak) (j:=0) (vs:=[J ak]) 4 hf e U cJ U sizeOf3 U U U (Z U kE) U U) ?_
 rintro _ w e
 refine tAn U<|tE ?_
 let f0:=sw cr ct aw.A cv
 let e6:=sw cK cL aX.A cM
 replace e:Mem w0 hz _ [ow [J aw.to,f0] (aw:kA),ow [cE] aR.n,ow [cD] aR.i,kY cG cH aR.a.length cI (aR.a:List kA) ae.2.toNat [J aw.to,f0],ow [e6]<|aX.A.set au.toNat ak,ow [bx] aP.n,ow [bv] aP.i,kY cA cB aP.a.length cC (aP.a:List kA) ae.2.toNat [J aX.to,e6],blk K [J O.1,J O.2.1,sw bt bu H.O.b aF,J O.2.2.1,J O.2.2.2.1,c1,sl aG H.h aH,J O.2.2.2.2.2.1] 141,kY bt bu H.O.b.length aF (H.O.b:List jq) ar.toNat [sw cG cH aR.a cI,cD,J aR.j,J aR.on,cE],kY aA aB H.f.b.length aI (ae.1:List jq) ar.toNat [sw cA cB aP.a cC,bv,J aP.j,J aP.on,bx],a6,ow [sw cw cx L aK] O.2.2.2.2.2.2]:=n8 aw.to e 0 U
 replace e:=(e.shutE (y:=(aw:kA)) 3 0 (dt U) U U).d [1,2,3,4,5,6,7,8,9,10,11,12] U
 rw [kq cF] at e
 let e4:=sw cK cL aX.A cM
 replace e:Mem w0 hz _ [ow [cE] aR.n,ow [cD] aR.i,ot cG cH aR.a cI,ow [J aX.to,e4] ((⟨aX.to,aX.A.set au.toNat ak⟩:kA):kA),ow [bx] aP.n,ow [bv] aP.i,kY cA cB aP.a.length cC (aP.a:List kA) ae.2.toNat [J aX.to,e4],blk K [J O.1,J O.2.1,sw bt bu H.O.b aF,J O.2.2.1,J O.2.2.2.1,sw aA aB H.f.b aI,sl aG H.h aH,J O.2.2.2.2.2.1] 141,kY bt bu H.O.b.length aF (H.O.b:List jq) ar.toNat [sw cG cH aR.a cI,cD,J aR.j,J aR.on,cE],kY aA aB H.f.b.length aI (ae.1:List jq) ar.toNat [sw cA cB aP.a cC,bv,J aP.j,J aP.on,bx],os aG H.h aH,ow [sw cw cx L aK] O.2.2.2.2.2.2]:=n8 aX.to e 3 U
 replace e:=(e.shutE (y:=((⟨aX.to,aX.A.set au.toNat ak⟩:kA):kA)) 6 3 (dt U) U U).d [0,1,2,4,5,6,7,8,9,10,11] U
 replace e:=(k9 aR.j aR.on e 2 1 0 U).d [2,3,4,5,6,7,8,9,10] U
 replace e:=(e.shutE (y:=(aR:jq)) 5 0 (dt U) U U).d [1,2,3,4,5,6,7,8] U
 rw [kq ao] at e
 replace e:=(k9 aP.j aP.on e 2 1 0 U).d [2,3,4,5,6,7] U
 replace e:=(e.shutE (y:=((⟨aP.a.set ae.2.toNat (⟨aX.to,aX.A.set au.toNat ak⟩:kA),aP.i,aP.j,aP.on,aP.n⟩:jq):jq)) 3 0 (dt U) U U).d [1,2,3,4,5] U
 exact gR<|Y U<|gB U<|gA U<|gE<|gze e [0,1,2,3,4] U
 refine gcf U<|gXt<|gHh ?_
 replace e:=(k9 aR.j aR.on e 2 1 0 U).d [2,3,4,5,6,7] U
 replace e:=(e.shutE (y:=(aR:jq)) 2 0 (dt U) U U).d [1,2,3,4,5] U
 rw [kq ao] at e
 exact gLp dv du<|gz e [0,1,2,3,4] U
 intro br w e
 exact gR<|Y U<|gB U<|gA U<|gE<|gze e [0,1,2,3,4] U
 refine gcf U<|gXt<|gHh ?_
 replace e:=(k9 bG.j bG.on e 2 1 0 U).d [2,3,4,5,6,7] U
 replace e:=(e.shutE (y:=(bG:jq)) 3 0 (dt U) U U).d [1,2,3,4,5] U
 rw [kq cZ] at e
 exact gLp dl dk<|gz e [0,1,2,3,4] U
 intro bq w e
 refine S<|Y U<|gY (yG U<|kW U U)<|gF cf4 U<|gL e 0 isAgg54 U<|Y U<|gCg U call171 (af6 _ H.h (sl aG H.h aH) (e.ow_rep 3 U) W) ?_
 rintro bM _ _ w ⟨_,rfl,hB⟩
 replace e:=e.give hB
 refine gA U<|S<|gA U ?_
 obtain ⟨cb,cc,rfl,_⟩:=ju<|e.ow_rep 0 U
 let f2:=ow [sl aL L aK] O.2.2.2.2.2.2
 refine gBk<|gNg (λcy aQ a w=>∃ (bH bJ bK:Value),St 259 [(0,pV K),(2,sl aL L aK),(16,sl cb bM cc),(17,J cy)] w0 hz [blk K [J aQ.1,J aQ.2.1,bH,J aQ.2.2.2.1,J aQ.2.2.2.2.1,bJ,bK,J aQ.2.2.2.2.2.2.2] 141,ow [bH] aQ.2.2.1,ow [bJ] aQ.2.2.2.2.2.1,ow [bK] aQ.2.2.2.2.2.2.1,f2,os cb bM cc] a w) (λa hf=>⟨sl aJ H.O.b aF,sw aA aB H.f.b aI,sl aG H.h aH,hf.sb U,e.d [1,2,3,4,5,0] U⟩) ?_ ?_
 rintro _ _ cy aQ a w ⟨bH,bJ,bK,hf,e⟩ _ _ _ _
 refine gv hf<|gS<|S<|Y U<|Y U<|gY (yV kI U)<|gB U<|lT 247 U U<|gW (.p 0<|.p 1<|.p 2<|.p 3<|.p 6<|.q 4<|.e 5 (.e 7 (.e 8 .fin .nil) .nil) .nil) [5,7] [0,1,2,3,6] e [0,1,2,3,4,5] [blk K [J aQ.1,J aQ.2.1,bH,J aQ.2.2.2.1,J aQ.2.2.2.2.1,bJ,bK,J aQ.2.2.2.2.2.2.2] 141,ow [bH] aQ.2.2.1,ow [bJ] aQ.2.2.2.2.2.1,ow [bK] aQ.2.2.2.2.2.2.1,f2,os cb bM cc] U mxo (by kernel_rfl) (λ_ _ _ h=>h.2) λw e hS=>uM U U<|uM U U<|uM U U<|gg λcz eE cd=>?_
 obtain ⟨_,_,rfl⟩:=jA (e.ow_rep 5 U) cd
 refine tP U (λw=>yI kI eE (jx cd) U)<|uM U U<|tQ U hS (λw e=>yl isAgg3 ((kC (cs:=[J cz]) (e.ow_rep 5 U) cd U).cell (j:=0) U) U)<|tO<|tf U U (λa hf=>k5 (α:=Int) kg e U) ?_
 rintro _ w e
 refine tAk e [1,2,3,4,5,6] U λhS=>tO<|gb λeF eG=>?_
 obtain ⟨eH,eI⟩:=kP.1 eG
 refine tf U U (λa hf=>kz 0 kg hf e U (e.ow_rep 5 U) U U U eH) ?_
 rintro eJ w e
 rw [eI] at e
 refine tAk e [1,2,3,4,5,6] U λhS=>tO<|gb λ_ eK=>?_
 obtain ⟨eL,gQ,c6,f1,eM⟩:=e.take2 (L1:=[_,_,_,_,_]) (L2:=[_,_]) [1,2,3,4,0] [5,6] (dt U) U U
 refine tf U U (λa hf=>ki hf U call110 U<|N _ eL (⟨(⟨aQ.1,aQ.2.1,aQ.2.2.1⟩:jv),(⟨aQ.2.2.2.1,aQ.2.2.2.2.1,aQ.2.2.2.2.2.1⟩:jv),aQ.2.2.2.2.2.2.1,aQ.2.2.2.2.2.2.2⟩:l9) K bH bJ bK cz eF eJ c6  _ eK) ?_
 rintro _ w ⟨eN,eO,eP,rfl,hB⟩
 replace e:=eM _ _ hB;clear hB
 exact tAn U<|tE<|gR<|Y U<|gp U<|gA U<|gE<|gZe λa hf=>⟨eN,eO,eP,hf.sb U,e.d [0,1,2,3,5,6] U⟩
 rintro _ _ a w ⟨eQ,eR,eS,hf,e⟩ _ _
 exact gv hf<|gS<|S<|Y U<|Y U<|gY (yV kI U)<|gB U<|lF 247 U U<|gHh<|gre results110 ⟨eQ,eR,eS,U,e.d [0,1,2,3,4] U⟩
theorem uz (O:World) (hz:kR) (e:l9) (H:Nat) (L:Value) (N:Value) (M:Value) (b_:Int) (K:List Int) (W:Value) (a0:Mem O hz O [blk H [J e.O.P,J e.O.r,L,J e.f.P,J e.f.r,N,M,J e.n] 141,ow [L] e.O.b,ow [N] e.f.b,ow [M] e.h,ow [W] K]) (r:l9 × (List Int)) (hq:l6 e b_ K=some r):Con Tryz.prog 110 [pV H,J b_,W] O (λv w'=>∃ (x1:Value) (x2:Value) (x3:Value),v=(.tuple #[])/\Mem O hz w' [blk H [J r.1.O.P,J r.1.O.r,x1,J r.1.f.P,J r.1.f.r,x2,x3,J r.1.n] 141,ow [x1] r.1.O.b,ow [x2] r.1.f.b,ow [x3] r.1.h,ow [W] r.2]):=u9 e b_ K r hq O hz H L N M W a0
theorem zW (w0:World) (W:jv) (v1:Value) (h1:rp w0 v1 W.b) :
    k6 Tryz.prog 50 [.agg #[J W.P,J W.r,v1]] w0 (nI W) λr v w'=>∃ (x1:Value),v=(.agg #[J r.P,J r.r,x1])/\Mem w0 (hp w0) w' [ow [x1] r.b]:=by
 unfold nI
 refine k7 func50 U λr=>?_
 have e:=Mem.start w0
 refine S<|gBx e U λaN w e=>gAl e zeroValue41 U λaO w e=>S<|gY (yn (e.blk_at 1 U) isAgg41 sizeOf41 U)<|gCg U call107 (ac9 _ W v1<|e.now h1) ?_
 rintro aT _ _ w ⟨aV,rfl,H⟩
 replace e:=e.give H;clear H
 refine gCg U call106 (af5 _ aT aV<|e.ow_rep 0 U) ?_
 rintro K _ _ w ⟨aK,rfl,H⟩
 replace e:=e.give H;clear H
 let O:=J W.P
 let a5:=blk aN [O,J W.r,v1] 41
 let a4:=blk aO [J 0,J 0,nS] 41
 let a3:=J K.P
 refine gAl e zeroValue41 U λaa w e=>gSN e 0 sizeOf41 (Z U<|Z U<|Z (kF<|e.ow_rep 1 U) kE) U λw e=>gS<|gW (.p 6<|.q 0<|.q 1<|.q 3<|.q 7<|.e 2 (.e 4 (.e 5 (.p 8<|.e 9 (.p 10 .fin) .nil) .nil) .nil) .nil) [0,1,2,3,4,5,7] [6,8,10] e [0,1,2,3,4] [blk aa [a3,J K.r,aK] 41,ow [aK] K.b,ow [aV] aT.b,a4,a5] U mxo (by kernel_rfl) (λ_ _ _ h=>h.2) λw e hS=>uF nD U U<|tQ U hS (λw e=>yn (e.blk_at 0 U) isAgg41 sizeOf41 U)<|tQ U hS (λw e=>yn (e.blk_at 0 U) isAgg41 sizeOf41 U)<|tQ U hS (λw e=>yn (e.blk_at 0 U) isAgg41 sizeOf41 U)<|tQ U hS (λw e=>yL e 4 isAgg3 U)<|tO<|gb λaB ab=>tf U U (λa L=>ki L U call103 U<|xQ _ K aK (e.ow_rep 1 U) _ ab) ?_
 rintro _ w ⟨_,rfl,H⟩
 replace e:=e.give H;clear H
 refine tAk e [1,2,3,4,5] U λhS=>tO<|gb λac ae=>tf U U (λa L=>ki L U call109 U<|wg _ K aK (e.ow_rep 2 U) _ ae) ?_
 rintro af w ⟨_,rfl,H⟩
 replace e:=e.give H;clear H
 refine tAk e [2,3,4,5,6] U λhS=>tO<|gb λaC ah=>tf U U (λa L=>ki L U call108 U<|ac6 _ ac af (e.ow_rep 0 U) _ ah) ?_
 rintro _ w ⟨_,rfl,H⟩
 replace e:=e.give H;clear H
 refine tAk e [3,4,5,6,7] U λhS=>?_
 obtain ⟨aE,aF,rfl,_⟩:=ju<|e.ow_rep 4 U
 obtain ⟨aG,aH,rfl,_⟩:=ju<|e.ow_rep 2 U
 obtain ⟨aI,aJ,rfl,_⟩:=ju<|e.ow_rep 0 U
 let M:=sl aG aB.b aH
 let N:=sl aI aC aJ
 let a2:=J aB.P
 refine tP U (λw=>yG U<|mV (vs:=[(0,.agg #[a3,J K.r,sl aE K.b aF]),(1,.agg #[a2,J aB.r,M]),(2,N),(3,O)]) (cs:=#[a3,J K.r,sl aE K.b aF,a2,J aB.r,M,N,O]) U U (by kernel_rfl))<|tO<|tf U U (λa L=>br4 L e U U U) ?_
 rintro _ w ⟨aP,rfl,e⟩
 refine tAn U<|uA U U<|tE<|S<|gF mF U<|gL e 4 isAgg3 U<|gb λaL ai=>?_
 obtain ⟨⟨aj,ak⟩,aW⟩:=lU.1 ai
 refine gf U (λa L=>ni (x0:=(0:Int)) kg (λ_=>(Flat.own_iff.2 U)) L e U U U aj (Int.le_refl _) ak) ?_
 rintro _ w e
 rw [aW] at e
 have a7:(aL.length:Int)=K.r:=by rw [<- aW];simp only [List.length_replicate];omega
 refine gA U<|gS<|S<|gA U ?_
 obtain ⟨aQ,aR,rfl,_⟩:=ju<|e.ow_rep 0 U
 refine gBk<|gb λ_ aX=>?_
 replace aX:=sM.1 aX
 let a1:=sl aQ aL aR
 refine gNf e (λaD aS=>[(1,pV aN),(2,pV aO),(4,pV aP),(5,a1),(6,J aD)]) (λaD aS=>[a5,a4,blk aP [J K.P,J K.r,sl aE K.b aF,a2,J aB.r,M,N,O] 141,os aE K.b aF,os aG aB.b aH,os aI aC aJ,ow [a1] aS]) [9,8,1,6,4,2,0] U ?_ ?_
 intro _ _ aD aS w e _ _ _ _
 refine gS<|S<|Y U<|gF nD U<|gL e 0 isAgg3 U<|gB U<|lT 26 U U<|gR<|Y U<|Y U<|Y U<|gg λ_ al aM=>?_
 obtain ⟨_,_,_,he⟩:=kG (e.ow_rep 6 U) aM
 obtain ⟨rfl,_,rfl⟩:=sl3 he
 have a0:=kB<|e.ow_rep 6 U
 refine gI kI al (kL aM a0) U<|gf0 U (λa L=>lI (x1:=aD) (j:=0) (vs:=[J aD]) 6 L e U aM U sizeOf3 U U U (Z U kE) U U) ?_
 rintro _ w e
 have bM:=List.getElem?_set_self (a:=aD)<|jx aM
 exact gR<|Y U<|gp U<|gA U<|gE<|gze e [0,1,2,3,4,5,6] U
 intro _ am w e _ _
 refine gS<|S<|Y U<|gF nD U<|gL e 0 isAgg3 U<|gB U<|lF 26 U U<|gHh<|S<|Y U<|Y U ?_
 obtain ⟨an,_,a6,_,ao⟩:=e.take2 (L1:=[_,_,_,_,_]) (L2:=[_,_]) [2,3,4,5,6] [0,1] (dt U) U U
 refine gCg U call110 (uz _ an (⟨K,aB,aC,W.P⟩:l9) aP (sl aE K.b aF) M N 0 am a1 a6 ) ?_
 rintro aY _ _ w ⟨_,aZ,_,rfl,H⟩
 replace e:=ao _ _ H;clear H
 exact S<|Y U<|Y U<|gY (yG U<|kW U U)<|gF zF U<|gL e 0 isAgg3 U<|gY (yG U<|kW U U)<|gF zn U<|gF mF U<|gS1 e 0 sizeOf3 U U λw e=>S<|Y U<|gY (yG U<|kW U U)<|gF zn U<|gY (yn (cs:=[J aY.1.f.P,J aY.1.n,aZ]) (e.blk_part (i:=3) 0 U U) isAgg41 sizeOf41 U)<|gSN e 6 sizeOf41 (Z U<|Z U<|Z (kF<|e.ow_rep 2 U) kE) U λw e=>gRt<|grc 6 results50 e U isAgg41 sizeOf41 ⟨aZ,U,e.d [2] U⟩
theorem af8 (W:World) (K:jv) (L:Value) (O:rp W L K.b) (e:Str) :
    k6 Tryz.prog 23 [.agg #[J K.P,J K.r,L],(tV e)] W (pH K e) λr v w'=>∃ (x1:Value),v=(.agg #[J r.P,J r.r,x1])/\Mem W (hp W) w' [ow [x1] r.b]:=by
 unfold pH
 refine kQ func23 U λr H=>?_
 refine S<|gBx H U λaA w H=>gAl H zeroValue41 U λaB w H=>gS<|S<|Y U<|gBk<|S<|gY (yG U<|tu (p:=e) (q:=mkS [114,101,97,99,104]) U U U)<|gA U<|gsd 6 U (λaC=>?_) λaC=>?_
 refine gct U<|S<|gY (yn (H.blk_at 1 U) isAgg41 sizeOf41 U)<|gCg U call45 (wc _ K L<|H.now O) ?_
 rintro _ _ _ w ⟨aD,rfl,M⟩
 replace H:=H.give M
 exact gSN H 1 sizeOf41 (Z U<|Z U<|Z (kF<|H.ow_rep 0 U) kE) U λw H=>gRt<|grc 1 results23 H U isAgg41 sizeOf41 ⟨aD,U,H.d [0] U⟩
 refine gcf U<|S<|gY (yG U<|tu (p:=e) (q:=mkS [111,114,100,101,114]) U U U)<|gA U<|gsd 10 U (λaE=>?_) λaE=>?_
 refine gct U<|gS<|gW (.q 0<|.e 1 (.e 2 (.e 3 (.e 4 .fin .nil) .nil) .nil) .nil) [1,2] [] H [0,1] [blk aB [J 0,J 0,nS] 41,blk aA [J K.P,J K.r,L] 41] U mxo (by kernel_rfl) (λ_ _ _ h=>h.2) λw H hS=>tQ U hS (λw H=>yn (H.blk_at 1 U) isAgg41 sizeOf41 U)<|tO<|tY U (yn (H.blk_at 1 U) isAgg41 sizeOf41 U)<|tAs hS<|tO<|gb λaF aG=>tf U U (λa N=>ki N U call47 U<|vp _ K L (H.now O) _ aG) ?_
 rintro aH w ⟨_,rfl,M⟩
 replace H:=H.give M
 refine tAk H [1,2] U λhS=>tO<|gb λ_ aI=>tf U U (λa N=>ki N U call46 U<|wj _ K L (H.now O) aF aH (H.ow_rep 0 U) _ aI) ?_
 rintro _ w ⟨aJ,rfl,M⟩
 replace H:=H.give M
 refine tAn U<|tO<|tf0 U U (λa N=>rf 2 N H U sizeOf41 U U U (Z U<|Z U<|Z (kF<|H.ow_rep 0 U) kE) U U) ?_
 rintro _ w H
 exact tAn U<|tE<|gRt<|grc 2 results23 H U isAgg41 sizeOf41 ⟨aJ,U,H.d [0] U⟩
 refine gcf U<|S<|gY (yG U<|tu (p:=e) (q:=mkS [115,112,108,105,116]) U U U)<|gA U<|gsd 16 U (λaK=>?_) λaK=>?_
 exact gno
 refine gcf U<|S<|gY (yG U<|tu (p:=e) (q:=mkS [105,100,108,101]) U U U)<|gA U<|gsd 20 U (λaL=>?_) λaL=>?_
 exact gno
 refine gcf U<|S<|gY (yG U<|tu (p:=e) (q:=mkS [115,105,110,103,108,101]) U U U)<|gA U<|gsd 24 U (λaM=>?_) λaM=>?_
 refine gct U<|S<|gY (yn (H.blk_at 1 U) isAgg41 sizeOf41 U)<|gCg U call50 (zW _ K L<|H.now O) ?_
 rintro _ _ _ w ⟨aN,rfl,M⟩
 replace H:=H.give M
 exact gSN H 1 sizeOf41 (Z U<|Z U<|Z (kF<|H.ow_rep 0 U) kE) U λw H=>gRt<|grc 1 results23 H U isAgg41 sizeOf41 ⟨aN,U,H.d [0] U⟩
 refine gcf U<|S<|gY (yG U<|tu (p:=e) (q:=mkS [107,110,111,119,110]) U U U)<|gA U<|gsd 28 U (λaO=>?_) λaO=>?_
 exact gno
 refine gcf U<|S<|gY (yG U<|tu (p:=e) (q:=mkS [115,104,97,114,101]) U U U)<|gA U<|gsd 32 U (λaP=>?_) λaP=>?_
 exact gno
 refine gcf U<|S<|gY (yG U<|tu (p:=e) (q:=mkS [104,111,105,115,116]) U U U)<|gA U<|gsd 36 U (λaQ=>?_) λaQ=>?_
 exact gno
 refine gcf U<|S<|gY (yG U<|tu (p:=e) (q:=mkS [101,118,101,110]) U U U)<|gA U<|gsd 40 U (λaR=>?_) λaR=>?_
 exact gno
 refine gcf U<|S<|gY (yG U<|tu (p:=e) (q:=mkS [115,107,105,112]) U U U)<|gA U<|gsd 44 U (λaS=>?_) λaS=>?_
 exact gno
 refine gcf U<|S<|gY (yG U<|tu (p:=e) (q:=mkS [106,111,105,110]) U U U)<|gA U<|gsd 48 U (λaT=>?_) λaT=>?_
 exact gno
 exact gno
theorem af3 (N:World) (u:kU) (v1:Value) (h1:rp N v1 u.C) (K:Str) :
    k6 Tryz.prog 12 [.agg #[v1],(tV K)] N (tL u K) λr v w'=>∃ (x1:Value),v=(.tuple #[.agg #[x1],(.bool (r.2))])/\Mem N (hp N) w' [ow [x1] r.1.C]:=by
 unfold tL
 refine kQ func12 U λr e=>?_
 refine S<|gBx e U λaD w e=>gAl e zeroValue28 U λaE w e=>gA U<|gS<|S<|gY (yn (e.blk_at 1 U) isAgg28 sizeOf28 U)<|gC e U call22 (um _ u v1<|e.now h1) λ_ _ w e=>gN U<|gsn 10 U (λaL=>?_) λaL=>?_
 refine gct U<|S<|gY (yG U<|mV (vs :=[]) (cs :=#[nS]) U U (by kernel_rfl))<|gSN e 0 sizeOf28 (Z U kE) U λw e=>gA U<|gRt ?_
 replace e:=e.nilow (α:=jv)
 exact au6 1 results12 e U isAgg28 sizeOf28 ⟨nS,U,e.d [0] U⟩
 refine gcf U<|gSk<|S<|gY (yG U<|mV (vs:=[]) (cs:=#[nS]) U U (by kernel_rfl))<|gAl e zeroValue28 U λaF w e=>gSN e 0 sizeOf28 (Z U kE) U λw e=>gS<|S<|gA U<|gBk ?_
 replace e:=e.nilow (α:=jv)
 let O:=blk aE [nS] 28
 refine gNg (λaI aC a w=>∃ (W:Value),St 37 [(1,tV K),(2,pV aD),(4,pV aE),(6,pV aF),(7,J aI)] N (hp N) [blk aD [v1] 28,O,blk aF [W] 28,ow [W] aC] a w) (λa H=>⟨nS,H.sb U,e.d [3,2,1,0] U⟩) ?_ ?_
 rintro _ _ aI aC a w ⟨W,H,e⟩ _ _ _ _
 refine gv H<|gS<|S<|Y U<|gF mu U<|gL e 0 isAgg26 U ?_
 obtain ⟨aM,aJ,rfl,_⟩:=ju h1
 refine gY (yV nU U)<|gB U<|lT 17 U U<|gW (.p 0<|.p 2<|.p 4<|.p 7<|.q 1<|.e 3 (.p 5<|.e 6 (.e 8 (.e 9 (.e 10 (.p 11<|.e 12 .fin .nil) .nil) .nil) .nil) .nil) .nil) [3,6,8,9] [0,2,4,5,7,11] e [0,1,2,3] [blk aD [sl aM u.C aJ] 28,O,blk aF [W] 28,ow [W] aC] U mxo (by kernel_rfl) (λ_ _ _ h=>h.2) λw e hS=>uF mu U U<|uF mu U U<|uM U U<|uM U U<|tQ U hS (λw e=>yL e 2 isAgg26 U)<|tO<|tY U (yL e 0 isAgg26 U)<|tAs hS<|gg λaN aO aH=>?_
 obtain ⟨aP,aQ,rfl⟩:=jA h1 aH
 obtain ⟨aR,aS,aT⟩:=nQ h1 aH
 refine tP U (λw=>yI nU aO (jx aH) U)<|tO<|tY U (yn (aS.mono e.lez) isAgg41 sizeOf41 U)<|tAs hS<|tO<|gb λaA aV=>tf U U (λa H=>ki H U call23 U<|af8 _ aN aR (e.now aT) K _ aV) ?_
 rintro _ w ⟨aG,rfl,hB⟩
 replace e:=e.give hB
 let M:=J aA.P
 let L:=J aA.r
 refine tAk e [1,2,3,4] U λhS=>tO<|tf U U (λa H=>kj (vs:=#[(0,.agg #[M,L,aG])]) (cs:=[M,L,aG]) bh8 H e U U (by kernel_rfl) U U) ?_
 rintro _ w ⟨aW,rfl,e⟩
 replace e:=e.els_nil (α:=jv)
 replace e:Mem N (hp N) _ [els [] ([]:List jv),blk aW [M,L,aG] 41,ow [M,L,aG] (aA:jv),blk aD [sw aP aQ u.C aJ] 28,O,blk aF [W] 28,ow [W] aC]:=ak0 aA.P aA.r e 2 U
 replace e:=(e.els_cons 0 2 (dt U) U U).d [0,1,3,4,5,6] U
 replace e:=(e.lit_els 1 0 (dt U) U U U U).d [1,2,3,4,5] U
 refine tAk e [1,2,3,4] U λhS=>tO<|gb λ_ aX=>?_
 obtain ⟨aY,aZ⟩:=kP.1 aX
 replace e:=(e.both 4 0 (dt U) U U).d [1,2,3,4] U
 refine tf U U (λa H=>lW (xs:=aC) (ys:=([aA]:List jv)) 3 bh8 H e U U U U aY) ?_
 rintro aa w e
 rw [aZ] at e
 refine tAn U<|uF mu U U<|tO<|tf0 U U (λa H=>qm 2 H e U sizeOf26 U U U (kF<|e.ow_rep 3 U) U) ?_
 rintro _ w e
 exact tAn U<|tE<|gR<|Y U<|gp U<|gA U<|gE<|gZe λa H=>⟨aa,H.sb U,e.d [0,1,2,3] U⟩
 rintro _ ab a w ⟨aK,H,e⟩ _ _
 refine gv H<|gS<|S<|Y U<|gF mu U<|gL e 0 isAgg26 U ?_
 obtain ⟨_,_,rfl,_⟩:=ju h1
 refine gY (yV nU U)<|gB U<|lF 17 U U<|gHh<|gS<|S<|gY (yn (e.blk_at 2 U) isAgg28 sizeOf28 U)<|gC e U call22 (um _ (⟨ab⟩:kU) aK<|e.ow_rep 3 U) λ_ _ w e=>gN U<|gsn 34 U (λac=>?_) λac=>?_
 refine gct U<|S<|gY (yG U<|mV (vs :=[]) (cs :=#[nS]) U U (by kernel_rfl))<|gSN e 1 sizeOf28 (Z U kE) U λw e=>gA U<|gRt ?_
 replace e:=e.nilow (α:=jv)
 exact au6 2 results12 e U isAgg28 sizeOf28 ⟨nS,U,e.d [0] U⟩
 exact gcf U<|gSk<|S<|gY (yn (e.blk_at 2 U) isAgg28 sizeOf28 U)<|gSN e 1 sizeOf28 (Z (kF<|e.ow_rep 3 U) kE) U λw e=>gA U<|gRt<|au6 1 results12 e U isAgg28 sizeOf28 ⟨aK,U,e.d [3] U⟩
theorem yb (H:World) (u:kU) (K:Value) (L:rp H K u.C) :
    k6 Tryz.prog 5 [.agg #[K]] H (pT u) λr v w'=>∃ (x1:Value),v=(.tuple #[.agg #[x1],(.bool (r.2))])/\Mem H (hp H) w' [ow [x1] r.1.C]:=by
 unfold pT
 refine kQ func5 U λr e=>?_
 refine S<|gBx e U λ_ w e=>gAl e zeroValue28 U λ_ w e=>gA U<|S<|gY (yn (e.blk_at 1 U) isAgg28 sizeOf28 U)<|gCg U call12 (af3 _ u K (e.now L)<|mkS [115,105,110,103,108,101]) ?_
 rintro _ _ _ w ⟨N,rfl,M⟩
 replace e:=e.give M
 exact gX U<|gX U<|gSN e 1 sizeOf28 (Z (kF<|e.ow_rep 0 U) kE) U λw e=>gA U<|gRt<|au6 1 results5 e U isAgg28 sizeOf28 ⟨N,U,e.d [0] U⟩
theorem lu (M:World) (N:Int) (K:Int) (e:Int) :
    k6 Tryz.prog 78 [J N,J K,J e] M (mB N K e) λr v w'=>v=(.bool (r))/\Below M.heap.size M w':=by
 unfold mB
 refine kQ func78 U λr H=>?_
 refine S<|gA U<|gS<|gJ H (λL=>[(6,.bool L)]) (λL=>[]) (λL=>?_) ?_
 refine gR<|Y U<|Y U<|gB U<|Y U<|gsd 10 U (λO=>?_) λO=>?_
 exact Y U<|Y U<|gB U<|gKt U<|gA U<|gE<|gz H [] U
 exact gO U<|gO U<|gO U<|gKf U<|gA U<|gE<|gz H [] U
 intro L w H
 exact gy U U ⟨U,H.below⟩
theorem sP (H:World) (N:Int) (e:jv) (O:Value) (W:rp H O e.b) (L:Nat) (K:hc H L [J e.P,J e.r,O] 41) :
    k6 Tryz.prog 148 [J N,pV L] H (o5 N e) λr v w'=>v=(.bool (r))/\Below H.heap.size H w':=by
 unfold o5
 refine kQ func148 U λr M=>?_
 exact S<|gA U<|S<|Y U<|gF mF U<|gY (yl isAgg3 (M.old_cell K U) U)<|gB U<|gC M U call78 (lu _ N 0<|w64<|e.r - 1) λ_ _ w M=>gA U<|gq U U ⟨U,M.below⟩
theorem za (K:World) (e:Int) :
    k6 Tryz.prog 149 [J e] K (qO e) λr v w'=>v=(J r)/\Below K.heap.size K w':=by
 unfold qO
 refine kQ func149 U λr H=>?_
 refine S<|gA U<|gS<|S<|Y U<|gBk<|S<|gB U<|gA U<|gsd 4 U (λN=>?_) λN=>?_
 exact gct U<|S<|gA U<|gw U U U ⟨U,H.below⟩
 refine gcf U<|S<|gB U<|gA U<|gsd 6 U (λM=>?_) λM=>?_
 exact gct U<|S<|gA U<|gw U U U ⟨U,H.below⟩
 refine gcf U<|S<|gB U<|gA U<|gsd 8 U (λL=>?_) λL=>?_
 exact gct U<|S<|gA U<|gw U U U ⟨U,H.below⟩
 exact gcf U<|gSk<|S<|gA U<|gw U U U ⟨U,H.below⟩
theorem oy (L:World) (e:Int) :
    k6 Tryz.prog 77 [J e] L (nB e) λr v w'=>v=(.bool (r))/\Below L.heap.size L w':=by
 unfold nB
 refine kQ func77 U λr H=>?_
 refine S<|gA U<|gS<|gJ H (λK=>[(2,.bool K)]) (λK=>[]) (λK=>?_) ?_
 refine gR<|Y U<|gB U<|Y U<|gsd 5 U (λM=>?_) λM=>?_
 exact gO U<|gO U<|gKt U<|gA U<|gE<|gz H [] U
 exact Y U<|gB U<|gKf U<|gA U<|gE<|gz H [] U
 intro K w H
 exact gy U U ⟨U,H.below⟩
theorem ac4 (H:World) (N:Int) (e:jv) (O:Value) (W:rp H O e.b) (L:Nat) (K:hc H L [J e.P,J e.r,O] 41) :
    k6 Tryz.prog 150 [J N,pV L] H (pW N e) λr v w'=>v=(.bool (r))/\Below H.heap.size H w':=by
 unfold pW
 refine kQ func150 U λr M=>?_
 refine S<|gA U<|S<|Y U<|gF kM U<|gY (yl isAgg39 (M.old_cell K U) U) ?_
 obtain ⟨_,_,rfl,_⟩:=ju W
 exact gY (yV kZ U)<|gY (yS (by omega) (by omega) U)<|gC M U call78 (lu _ N 1<|((e.b.length:Int)) - 1) λ_ _ w M=>gN U<|gA U<|gq U U ⟨U,M.below⟩
theorem sx (K:World) (M:List Int) (v1:Value) (N:rp K v1 M) (f:Int->Option Bool) (H:Value) (L:∀ (w:World) (y0:Int) (r:Bool),Below K.heap.size K w->f y0=some r->w5 Tryz.prog H [J y0] w (λv w'=>v=(.bool (r))/\Below w.heap.size w w')) :
    k6 Tryz.prog 156 [v1,H] K (lv M f) λr v w'=>v=(J r)/\Below K.heap.size K w':=by
 unfold lv
 refine kQ func156 U λr e=>?_
 refine S<|gA U<|gS<|S<|Y U ?_
 obtain ⟨aE,aF,rfl,_⟩:=ju N
 refine gY (yV kI U)<|Y U<|gBk<|gNf e (λW aC=>[(0,sl aE M aF),(1,H),(7,J<|(M.length:Int)),(8,J W)]) (λW aC=>[]) [] U ?_ ?_
 intro _ aG W aC w e _ _ _ aH
 refine S<|gB U<|gS<|lT 9 U U<|S<|Y U<|gA U<|S<|Y U<|Y U<|Y U<|gg λaD aI O=>?_
 obtain ⟨_,_,rfl⟩:=jA N O
 refine gI kI aI (jx O) U<|gY (yl isAgg3 ((kC (cs:=[J aD]) (e.now N) O U).cell (j:=0) U) U)<|gb λ_ aJ=>gf U (λa hf=>nC hf U U U<|L _ aD _ e.below aJ) ?_
 rintro _ w ⟨rfl,hB⟩
 replace e:=e.below' hB
 refine gs 16 U (λaK=>?_) λaK=>?_
 exact gct U<|S<|Y U<|gA U<|gRt<|gLr aH aG<|gr1 results156 U ⟨U,e.below⟩
 exact gcf U<|gSk<|gR<|gp U<|Y U<|gE<|gze e [] U
 intro _ _ w e _ _
 exact S<|gB U<|gS<|lF 9 U U<|gHh<|S<|gA U<|gq U U ⟨U,e.below⟩
theorem lR (K:World) (O:List Int) (N:Value) (h1:rp K N O) (f:Int->Option Bool) (e:Value) (L:∀ (w:World) (M:Int) (r:Bool),Below K.heap.size K w->f M=some r->w5 Tryz.prog e [J M] w (λv w'=>v=(.bool (r))/\Below w.heap.size w w')) :
    k6 Tryz.prog 85 [N,e] K (kT O f) λr v w'=>v=(.bool (r))/\Below K.heap.size K w':=by
 unfold kT
 refine kQ func85 U λr H=>?_
 exact S<|gA U<|S<|Y U<|Y U<|gC H U call156 (sx _ O N (H.now h1) f e λw M r hB W=>L w M r (H.below.trans<|hB.mono H.below.size) W) λ_ _ w H=>gB U<|gA U<|gq U U ⟨U,H.below⟩
theorem we (H:World) (N:Int) (e:jv) (O:Value) (W:rp H O e.b) (L:Nat) (K:hc H L [J e.P,J e.r,O] 41) :
    k6 Tryz.prog 199 [J N,pV L] H (qX N e) λr v w'=>v=(.bool (r))/\Below H.heap.size H w':=by
 unfold qX
 refine kQ func199 U λr M=>?_
 exact S<|gA U<|S<|Y U<|gF mF U<|gY (yl isAgg3 (M.old_cell K U) U)<|gB U<|gC M U call78 (lu _ N 0<|w64<|e.r - 1) λ_ _ w M=>gA U<|gq U U ⟨U,M.below⟩
theorem y4 (K:World) (H:Int) :
    k6 Tryz.prog 147 [J H] K (sK H) λr v w'=>v=(.bool (r))/\Below K.heap.size K w':=by
 unfold sK
 refine kQ func147 U λr e=>?_
 exact S<|gA U<|S<|Y U<|gC e U call78 (lu _ H 1 14) λ_ _ w e=>gA U<|gq U U ⟨U,e.below⟩
theorem ah2 (K:World) (O:Int) (e:jv) (W:Value) (h1:rp K W e.b) (N:Nat) (aB:hc K N [J e.P,J e.r,W] 41) (M:Nat) (L:hc K M [(.func (.func 199) #[] #[pV N])] 103) :
    k6 Tryz.prog 200 [J O,pV M] K (qc O e) λr v w'=>v=(.bool (r))/\Below K.heap.size K w':=by
 unfold qc
 refine kQ func200 U λr H=>?_
 refine S<|gA U<|S<|gY (yl isAgg103 (H.old_cell L U) U)<|Y U<|gb λ_ aC=>gf U (λa hf=>nC hf U U U ⟨199,[pV N],U,call199,we _ O e W (kp (H.now h1)<|Below.refl _ _) N (H.old_later aB<|Below.refl _ _) _ aC⟩) ?_
 rintro _ w ⟨rfl,hB⟩
 replace H:=H.below' hB
 exact gN U<|gA U<|gq U U ⟨U,H.below⟩
theorem rV (L:World) (K:Int) :
    k6 Tryz.prog 76 [J K] L (oB K) λr v w'=>v=(.bool (r))/\Below L.heap.size L w':=by
 unfold oB
 refine kQ func76 U λr e=>?_
 refine S<|gA U<|gS<|gJ e (λH=>[(2,.bool H)]) (λH=>[]) (λH=>?_) ?_
 refine gR<|Y U<|gC e U call147 (y4 _ K) λ_ _ w e=>Y U<|gs 5 U (λN=>?_) λN=>?_
 refine Y U<|gB U<|gKt U<|Y U<|gsd 9 U (λM=>?_) λM=>?_
 exact Y U<|gB U<|gKt U<|gA U<|gE<|gz e [] U
 exact gO U<|gO U<|gKf U<|gA U<|gE<|gz e [] U
 exact gO U<|gO U<|gKf U<|Y U<|gO U<|gO U<|gKf U<|gA U<|gE<|gz e [] U
 intro H w e
 exact gy U U ⟨U,e.below⟩
theorem ap0 (K:World) (H:Int) :
    k6 Tryz.prog 201 [J H] K (sn H) λr v w'=>v=(.bool (r))/\Below K.heap.size K w':=by
 unfold sn
 refine kQ func201 U λr e=>?_
 exact S<|gA U<|S<|Y U<|gC e U call78 (lu _ H 0 255) λ_ _ w e=>gA U<|gq U U ⟨U,e.below⟩
theorem ag3 (M:World) (N:Int) :
    k6 Tryz.prog 202 [J N] M (rb N) λr v w'=>v=(J r)/\Below M.heap.size M w':=by
 unfold rb
 refine kQ func202 U λr e=>?_
 refine S<|gA U<|gS<|S<|Y U<|gBk<|S<|gB U<|gA U<|gsd 4 U (λaD=>?_) λaD=>?_
 exact gct U<|S<|gA U<|gw U U U ⟨U,e.below⟩
 refine gcf U<|gS<|S<|gB U<|gA U<|gJ e (λL=>[(6,.bool L)]) (λL=>[]) (λL=>?_) ?_
 refine gsd 6 U (λaE=>?_) λaE=>?_
 exact gct U<|gSk<|gz e [] U
 refine gcf U<|S<|gB U<|gA U<|gJ e (λK=>[(6,.bool K)]) (λK=>[]) (λK=>?_) ?_
 refine gsd 6 U (λW=>?_) λW=>?_
 exact gct U<|gSk<|gz e [] U
 refine gcf U<|S<|gB U<|gA U<|gJ e (λH=>[(6,.bool H)]) (λH=>[]) (λH=>?_) ?_
 refine gsd 6 U (λO=>?_) λO=>?_
 exact gct U<|gSk<|gz e [] U
 exact gcf U<|gR<|gB U<|gA U<|gE<|gz e [] U
 intro H w e
 exact gz e [] U
 intro K w e
 exact gz e [] U
 intro L w e
 refine gs 6 U (λaH=>?_) λaH=>?_
 exact gct U<|S<|gA U<|gw U U U ⟨U,e.below⟩
 exact gcf U<|gSk<|S<|gA U<|gw U U U ⟨U,e.below⟩
theorem as8 (w0:World) (u:kU) (v1:Value) (h1:rp w0 v1 u.C) (W:Int) (H:kD) (v2:Value) (h2:rp w0 v2 H.A) :
    k6 Tryz.prog 153 [.agg #[v1],J W,.agg #[J H.op,J H.to,v2,J H.N]] w0 (tq u W H) λr v w'=>v=(.bool (r))/\Below w0.heap.size w0 w':=by
 unfold tq
 refine kQ func153 U λr e=>?_
 refine S<|gBx e U λaD w e=>gBx e U λaE w e=>gA U<|S<|gF mu U<|gL e 1 isAgg26 U<|Y U<|gg λaA aR aK=>?_
 obtain ⟨aN,aO,aP,he⟩:=jy h1 aK
 subst he
 obtain ⟨aL,aS,aM⟩:=nQ h1 aK
 let O:=blk aE [J H.op,J H.to,v2,J H.N] 65
 let a0:=blk aD [sw aN aO u.C aP] 28
 refine gI nU aR (jx aK) U<|gY (yn (aS.mono e.lez) isAgg41 sizeOf41 U)<|gAl e zeroValue41 U λM w e=>gSN e 0 sizeOf41 (Z U<|Z U<|Z (kF aM) kE) U λw e=>S<|gY (yU U)<|gAl e zeroValue103 U λaC w e=>gS1 e 0 sizeOf103 U U λw e=>gS<|gS<|gJ e (λaF=>[(1,J W),(3,pV aD),(5,pV aE),(8,pV aC),(24,.bool aF)]) (λaF=>[a0,O,blk aC [.func (.func 199) #[] #[pV M]] 103,blk M [J aA.P,J aA.r,aL] 41]) (λaF=>?_) ?_
 refine gR<|gF nN U<|gL e 2 isAgg3 U<|gC e U call147 (y4 _ H.op) λ_ _ w e=>gN U<|Y U<|gsn 19 U (λaT=>?_) λaT=>?_
 exact gO U<|gO U<|gO U<|gO U<|gKt U<|gE<|gz e [3,2,0,1] U
 exact gF ml U<|gL e 2 isAgg54 U<|gY (yU U)<|gC e U call85 (lR _ H.A v2 (e.now h2) (λy0=>qc y0 aA) (.func (.func 200) #[] #[pV aC]) λw y0 r L hq=>⟨200,[pV aC],U,call200,ah2 w y0 aA aL (kp (e.now aM) L) M (e.blk_later 1 U L) aC (e.blk_later 0 U L) r hq⟩) λ_ _ w e=>gKf U<|gE<|gz e [3,2,0,1] U
 intro aF w e
 refine gs 24 U (λaV=>?_) λaV=>?_
 exact gct U<|S<|gA U<|gw U U U ⟨U,e.below⟩
 refine gcf U<|gSk<|gS<|gS<|gJ e (λaG=>[(1,J W),(3,pV aD),(5,pV aE),(45,.bool aG)]) (λaG=>[a0,O]) (λaG=>?_) ?_
 refine gR<|gF nN U<|gL e 1 isAgg3 U<|gC e U call76 (rV _ H.op) λ_ _ w e=>Y U<|gs 28 U (λaW=>?_) λaW=>?_
 refine gL e 2 isAgg103 U<|gF oa U<|gL e 1 isAgg3 U<|gb λ_ aX=>gf U (λa N=>nC N U U U ⟨199,[pV M],U,call199,we _ H.to aA aL (kp (e.now aM)<|Below.refl _ _) M (e.blk_later 3 U<|Below.refl _ _) _ aX⟩) ?_
 rintro _ w ⟨rfl,L⟩
 replace e:=e.below' L
 refine gN U<|gKt U<|Y U<|gsn 35 U (λaY=>?_) λaY=>?_
 exact gO U<|gO U<|gO U<|gO U<|gO U<|gO U<|gO U<|gO U<|gO U<|gKt U<|gE<|gz e [0,1] U
 refine gF nN U<|gL e 1 isAgg3 U<|gC e U call76 (rV _ H.op) λ_ _ w e=>gN U<|Y U<|gsn 40 U (λaZ=>?_) λaZ=>?_
 exact gF oa U<|gL e 1 isAgg3 U<|gB U<|gKt U<|gKf U<|gE<|gz e [0,1] U
 exact gO U<|gO U<|gO U<|gKf U<|gKf U<|gE<|gz e [0,1] U
 refine gO U<|gO U<|gO U<|gO U<|gO U<|gKf U<|Y U<|gF nN U<|gL e 1 isAgg3 U<|gC e U call76 (rV _ H.op) λ_ _ w e=>gN U<|Y U<|gsn 40 U (λaa=>?_) λaa=>?_
 exact gF oa U<|gL e 1 isAgg3 U<|gB U<|gKt U<|gKf U<|gE<|gz e [0,1] U
 exact gO U<|gO U<|gO U<|gKf U<|gKf U<|gE<|gz e [0,1] U
 intro aG w e
 refine gs 45 U (λab=>?_) λab=>?_
 exact gct U<|S<|gA U<|gw U U U ⟨U,e.below⟩
 refine gcf U<|gSk<|gS<|S<|gF nN U<|gL e 1 isAgg3 U<|gBk<|S<|gB U<|gA U<|gsd 48 U (λac=>?_) λac=>?_
 refine gct U<|gS<|gJ e (λaH=>[(6,.bool aH)]) (λaH=>[]) (λaH=>?_) ?_
 refine gR<|gF ml U<|gL e 1 isAgg54 U ?_
 obtain ⟨_,_,rfl,_⟩:=ju h2
 refine gY (yV kI U)<|gB U<|Y U<|gsd 54 U (λae=>?_) λae=>?_
 exact gF pj U<|gL e 1 isAgg3 U<|gC e U call201 (ap0 _ H.N) λ_ _ w e=>gKt U<|gA U<|gE<|gz e [] U
 exact gO U<|gO U<|gO U<|gKf U<|gA U<|gE<|gz e [] U
 intro aH w e
 exact gRt<|gr1 results153 U ⟨U,e.below⟩
 refine gcf U<|S<|gB U<|gA U<|gsd 59 U (λaf=>?_) λaf=>?_
 refine gct U<|gS<|gJ e (λaI=>[(6,.bool aI)]) (λaI=>[]) (λaI=>?_) ?_
 refine gW (.p 0<|.p 2<|.p 3<|.e 1 (.e 4 (.p 5<|.p 6<|.p 9<|.p 11<|.q 7<|.p 8<|.q 10<|.e 12 (.p 13<|.p 14<|.e 15 (.p 16<|.p 17<|.p 18 .fin) .nil) .nil) .nil) .nil) [7,10,12,15] [0,2,3,5,6,8,9,11,13,14,16,17,18] e [0,1] [_,_] U mxo (by kernel_rfl) (λ_ _ _ h=>h.2) λw e K=>uF pj U U<|uM U U<|uB U U<|tO<|tY U (yL e 1 isAgg3 U)<|tAn U<|tO<|gb λ_ ah=>tf U U (λa N=>ki N U call78 U<|lu _ H.N 0 (w64<|W - 1) _ ah) ?_
 rintro _ w ⟨rfl,L⟩
 replace e:=e.below' L
 refine tAk e [0,1] U λK=>uM U U<|gs 66 U (λai=>?_) λai=>?_
 refine uF ml U U<|uF mu U U<|uF pj U U<|tQ U K (λw e=>yL e 1 isAgg54 U) ?_
 obtain ⟨_,_,rfl,_⟩:=ju h2
 refine tP U (λw=>yV kI U)<|tQ U K (λw e=>yL e 0 isAgg26 U)<|tO<|tY U (yL e 1 isAgg3 U)<|tAs K<|gg λ_ aj aQ=>?_
 obtain ⟨_,ak,_⟩:=nQ h1 aQ
 exact tP U (λw=>yI nU aj (jx aQ) U)<|uF nD U U<|tO<|tY U (yl isAgg3 ((ak.mono e.lez).cell (j:=0) U) U)<|tAs K<|uB U U<|uT U U<|uA U U<|tE<|gz e [] U
 exact tPo U U<|tPo U U<|tPo U U<|tQo U K U<|tPo U U<|tQo U K U<|tO<|tEo U U<|tAs K<|tPo U U<|tPo U U<|tO<|tEo U U<|tAs K<|tPo U U<|uK U U<|uA U U<|tE<|gz e [] U
 intro aI w e
 exact gRt<|gr1 results153 U ⟨U,e.below⟩
 refine gcf U<|gSk<|gS<|gJ e (λaJ=>[(6,.bool aJ)]) (λaJ=>[]) (λaJ=>?_) ?_
 refine gW (.p 0<|.e 1 (.p 2<|.p 3<|.p 4<|.p 7<|.q 5<|.p 6<|.e 8 (.e 9 (.p 10<|.p 11<|.p 12 .fin) .nil) .nil) .nil) [8,9] [0,2,3,4,6,7,10,11,12] e [0,1] [_,_] U mxo (by kernel_rfl) (λ_ _ _ h=>h.2) λw e K=>uF pj U U<|tO<|tY U (yL e 1 isAgg3 U)<|tAn U<|uB U U<|uM U U<|gsd 82 U (λal=>?_) λal=>?_
 refine uF ml U U<|uF nN U U<|tQ U K (λw e=>yL e 1 isAgg54 U) ?_
 obtain ⟨_,_,rfl,_⟩:=ju h2
 refine tP U (λw=>yV kI U)<|tO<|tY U (yL e 1 isAgg3 U)<|tAs K<|tO<|gb λ_ am=>tf U U (λa N=>ki N U call202 U<|ag3 _ H.op _ am) ?_
 rintro _ w ⟨rfl,L⟩
 replace e:=e.below' L
 exact tAk e [0,1] U λK=>uB U U<|uT U U<|uA U U<|tE<|gz e [] U
 exact tPo U U<|tPo U U<|tQo U K U<|tPo U U<|tO<|tEo U U<|tAs K<|tO<|tEo U U<|tAs K<|tPo U U<|uK U U<|uA U U<|tE<|gz e [] U
 intro aJ w e
 exact gRt<|gr1 results153 U ⟨U,e.below⟩
theorem ad0 (K:World) (M:kD) (v1:Value) (h1:rp K v1 M.A) (L:kU) (v2:Value) (h2:rp K v2 L.C) (a0:Nat) (O:hc K a0 [v2] 28) (H:Int) (N:Nat) (W:hc K N [J H] 3) :
    k6 Tryz.prog 152 [.agg #[J M.op,J M.to,v1,J M.N],pV a0,pV N] K (pc M L H) λr v w'=>v=(.bool (r))/\Below K.heap.size K w':=by
 unfold pc
 refine kQ func152 U λr e=>?_
 exact S<|gBx e U λ_ w e=>gA U<|S<|gY (yn (e.old_at O) isAgg28 sizeOf28 U)<|gY (yl isAgg3 (e.old_cell W U) U)<|gY (yn (e.blk_at 0 U) isAgg65 sizeOf65 U)<|gC e U call153 (as8 _ L v2 (e.now h2) H M v1<|e.now h1) λ_ _ w e=>gN U<|gA U<|gq U U ⟨U,e.below⟩
theorem pv (K:World) (N:List kD) (v1:Value) (O:rp K v1 N) (f:kD->Option Bool) (H:Value) (L:∀ (w:World) (M:kD) (z1:Value) (_:GT.rep (hp w) [z1] M.A) (r:Bool),Below K.heap.size K w->f M=some r->w5 Tryz.prog H [.agg #[J M.op,J M.to,z1,J M.N]] w (λv w'=>v=(.bool (r))/\Below w.heap.size w w')) :
    k6 Tryz.prog 198 [v1,H] K (lV N f) λr v w'=>v=(J r)/\Below K.heap.size K w':=by
 unfold lV
 refine kQ func198 U λr e=>?_
 refine S<|gA U<|gS<|S<|Y U ?_
 obtain ⟨aD,aE,rfl,_⟩:=ju O
 refine gY (yV lh U)<|Y U<|gBk<|gNf e (λaA aC=>[(0,sl aD N aE),(1,H),(7,J<|(N.length:Int)),(8,J aA)]) (λaA aC=>[]) [] U ?_ ?_
 intro _ aF aA aC w e _ _ _ aG
 refine S<|gB U<|gS<|lT 9 U U<|S<|Y U<|gA U<|S<|Y U<|Y U<|Y U<|gg λaH aI W=>?_
 obtain ⟨_,_,rfl⟩:=jA O W
 obtain ⟨aJ,aK,aL⟩:=nO O W
 refine gI lh aI (jx W) U<|gY (yn (aK.mono e.lez) isAgg65 sizeOf65 U)<|gb λ_ aM=>gf U (λa hf=>nC hf U U U<|L _ aH aJ (e.now aL) _ e.below aM) ?_
 rintro _ w ⟨rfl,hB⟩
 replace e:=e.below' hB
 refine gs 16 U (λaN=>?_) λaN=>?_
 exact gct U<|S<|Y U<|gA U<|gRt<|gLr aG aF<|gr1 results198 U ⟨U,e.below⟩
 exact gcf U<|gSk<|gR<|gp U<|Y U<|gE<|gze e [] U
 intro _ _ w e _ _
 exact S<|gB U<|gS<|lF 9 U U<|gHh<|S<|gA U<|gq U U ⟨U,e.below⟩
theorem pN (L:World) (O:List kD) (N:Value) (h1:rp L N O) (f:kD->Option Bool) (H:Value) (M:∀ (w:World) (e:kD) (W:Value) (_:GT.rep (hp w) [W] e.A) (r:Bool),Below L.heap.size L w->f e=some r->w5 Tryz.prog H [.agg #[J e.op,J e.to,W,J e.N]] w (λv w'=>v=(.bool (r))/\Below w.heap.size w w')) :
    k6 Tryz.prog 151 [N,H] L (lK O f) λr v w'=>v=(.bool (r))/\Below L.heap.size L w':=by
 unfold lK
 refine kQ func151 U λr K=>?_
 exact S<|gA U<|S<|Y U<|Y U<|gC K U call198 (pv _ O N (K.now h1) f H λw e aA aB r hB hq=>M w e aA aB r (K.below.trans<|hB.mono K.below.size) hq) λ_ _ w K=>gB U<|gA U<|gq U U ⟨U,K.below⟩
theorem qe (H:World) (K:List Int) (W:Value) (L:rp H W K) (N:Int) :
    k6 Tryz.prog 196 [W,J N] H (mE K N) λr v w'=>v=(J r)/\Below H.heap.size H w':=by
 unfold mE
 refine kQ func196 U λr e=>?_
 refine S<|gA U<|gS<|S<|Y U ?_
 obtain ⟨aD,aE,rfl,_⟩:=ju L
 refine gY (yV kI U)<|Y U<|gBk<|gNf e (λO aC=>[(0,sl aD K aE),(1,J N),(7,J<|(K.length:Int)),(8,J O)]) (λO aC=>[]) [] U ?_ ?_
 intro _ aF O aC w e _ _ _ aG
 refine S<|gB U<|gS<|lT 9 U U<|S<|Y U<|gA U<|S<|Y U<|Y U<|Y U<|gg λaH aI M=>?_
 obtain ⟨_,_,rfl⟩:=jA L M
 refine gI kI aI (jx M) U<|gY (yl isAgg3 ((kC (cs:=[J aH]) (e.now L) M U).cell (j:=0) U) U)<|gB U<|gsd 16 U (λaJ=>?_) λaJ=>?_
 exact gct U<|S<|Y U<|gA U<|gRt<|gLr aG aF<|gr1 results196 U ⟨U,e.below⟩
 exact gcf U<|gSk<|gR<|gp U<|Y U<|gE<|gze e [] U
 intro _ _ w e _ _
 exact S<|gB U<|gS<|lF 9 U U<|gHh<|S<|gA U<|gq U U ⟨U,e.below⟩
theorem tG (H:World) (M:List Int) (L:Value) (N:rp H L M) (K:Int) :
    k6 Tryz.prog 131 [L,J K] H (mX M K) λr v w'=>v=(.bool (r))/\Below H.heap.size H w':=by
 unfold mX
 refine kQ func131 U λr e=>?_
 exact S<|gA U<|S<|Y U<|Y U<|gC e U call196 (qe _ M L (e.now N) K) λ_ _ w e=>gB U<|gA U<|gq U U ⟨U,e.below⟩
end Go.Proofs.YtkihhabnfheieaaGreat
