/- A part of the proof of FnTwoProgramsCardSaid. -/
import Derived.Test.YtdmoolhjchoifaaGreatDoorTpModels
import Derived.Test.YtdmoolhjchoifaaGreatDoorChecked
import Derived.Test.YtdmoolhjchoifaaGreatDoorTpLays
import Derived.Test.YtdmoolhjchoifaaGreatDoorWkAd
namespace Go.Proofs.YtdmoolhjchoifaaGreatDoor
open Go Go.Wk Go.RowKit
set_option maxRecDepth 4000
set_option maxHeartbeats 4000000
open Tryz
theorem mxo:Tryz.prog.follows .mixedOrders=true:=by kernel_rfl
theorem im:fh Tryz.prog 26 0 0:=by have h:=fh.mk (k:=0) underlying26 rfl sizeOf24;exact h
theorem mP:fh Tryz.prog 36 0 0:=by have h:=fh.mk (k:=0) underlying36 rfl sizeOf3;exact h
theorem jk:fh Tryz.prog 36 1 1:=by have h:=fh.mk (k:=1) underlying36 rfl sizeOf9;exact h
theorem oR:fh Tryz.prog 51 0 0:=by have h:=fh.mk (k:=0) underlying51 rfl sizeOf30;exact h
theorem mu:fh Tryz.prog 51 1 1:=by have h:=fh.mk (k:=1) underlying51 rfl sizeOf4;exact h
theorem oT:fh Tryz.prog 54 0 0:=by have h:=fh.mk (k:=0) underlying54 rfl sizeOf9;exact h
theorem kE:fh Tryz.prog 54 1 1:=by have h:=fh.mk (k:=1) underlying54 rfl sizeOf47;exact h
theorem l0:fh Tryz.prog 54 2 2:=by have h:=fh.mk (k:=2) underlying54 rfl sizeOf52;exact h
theorem qF:fh Tryz.prog 59 0 0:=by have h:=fh.mk (k:=0) underlying59 rfl sizeOf30;exact h
theorem jg:fh Tryz.prog 59 1 1:=by have h:=fh.mk (k:=1) underlying59 rfl sizeOf3;exact h
theorem jY:fh Tryz.prog 71 0 0:=by have h:=fh.mk (k:=0) underlying71 rfl sizeOf3;exact h
theorem lL:fh Tryz.prog 71 1 1:=by have h:=fh.mk (k:=1) underlying71 rfl sizeOf9;exact h
theorem je:fh Tryz.prog 71 2 2:=by have h:=fh.mk (k:=2) underlying71 rfl sizeOf69;exact h
theorem lB:fh Tryz.prog 71 3 3:=by have h:=fh.mk (k:=3) underlying71 rfl sizeOf52;exact h
theorem lH:fh Tryz.prog 71 4 4:=by have h:=fh.mk (k:=4) underlying71 rfl sizeOf52;exact h
theorem pJ:fh Tryz.prog 77 0 0:=by have h:=fh.mk (k:=0) underlying77 rfl sizeOf22;exact h
theorem xp:fh Tryz.prog 77 1 1:=by have h:=fh.mk (k:=1) underlying77 rfl sizeOf3;exact h
theorem lE:fh Tryz.prog 83 0 0:=by have h:=fh.mk (k:=0) underlying83 rfl sizeOf41;exact h
theorem oz:fh Tryz.prog 83 1 1:=by have h:=fh.mk (k:=1) underlying83 rfl sizeOf24;exact h
theorem mQ:fh Tryz.prog 83 2 2:=by have h:=fh.mk (k:=2) underlying83 rfl sizeOf47;exact h
theorem rv:fh Tryz.prog 83 3 3:=by have h:=fh.mk (k:=3) underlying83 rfl sizeOf3;exact h
theorem pM:fh Tryz.prog 83 4 4:=by have h:=fh.mk (k:=4) underlying83 rfl sizeOf3;exact h
theorem ik:fh Tryz.prog 86 0 0:=by have h:=fh.mk (k:=0) underlying86 rfl sizeOf3;exact h
theorem mC:fh Tryz.prog 86 1 1:=by have h:=fh.mk (k:=1) underlying86 rfl sizeOf3;exact h
theorem mB:fh Tryz.prog 86 2 2:=by have h:=fh.mk (k:=2) underlying86 rfl sizeOf9;exact h
theorem iT:fh Tryz.prog 86 3 3:=by have h:=fh.mk (k:=3) underlying86 rfl sizeOf69;exact h
theorem aj3:fh Tryz.prog 152 0 0:=by have h:=fh.mk (k:=0) underlying152 rfl sizeOf9;exact h
theorem ap0:fh Tryz.prog 152 1 1:=by have h:=fh.mk (k:=1) underlying152 rfl sizeOf3;exact h
theorem qS:mA Tryz.prog 22 5 1:=⟨underlying22,sizeOf5⟩
theorem jW:mA Tryz.prog 24 54 3:=⟨underlying24,sizeOf54⟩
theorem kq:mA Tryz.prog 30 36 2:=⟨underlying30,sizeOf36⟩
theorem jO:mA Tryz.prog 47 9 1:=⟨underlying47,sizeOf9⟩
theorem jN:mA Tryz.prog 52 71 5:=⟨underlying52,sizeOf71⟩
theorem iu:mA Tryz.prog 69 86 4:=⟨underlying69,sizeOf86⟩
theorem bc2:mA Tryz.prog 81 3 1:=⟨underlying81,sizeOf3⟩
theorem bb6:mv Tryz.prog 22 5 1 (.int .u8 (((0:UInt8)).toNat:Int)):=⟨underlying22,⟨_,(by kernel_rfl:Tryz.prog.info? 5=some t5),rfl,by decide,rfl⟩,rfl,by decide⟩
theorem jL:mv Tryz.prog 24 54 3 (.agg #[(tV (mkS [])),.slice none 0 0,.slice none 0 0]):=⟨underlying24,⟨_,(by kernel_rfl:Tryz.prog.info? 54=some t54),rfl,by decide,rfl⟩,rfl,by decide⟩
theorem iY:mv Tryz.prog 30 36 2 (.agg #[(.int .i64 (0)),(tV (mkS []))]):=⟨underlying30,⟨_,(by kernel_rfl:Tryz.prog.info? 36=some t36),rfl,by decide,rfl⟩,rfl,by decide⟩
theorem lK:mv Tryz.prog 47 9 1 (tV (mkS [])):=⟨underlying47,⟨_,(by kernel_rfl:Tryz.prog.info? 9=some t9),rfl,by decide,rfl⟩,rfl,by decide⟩
theorem lg:mv Tryz.prog 52 71 5 (.agg #[(.int .i64 (0)),(tV (mkS [])),.slice none 0 0,.slice none 0 0,.slice none 0 0]):=⟨underlying52,⟨_,(by kernel_rfl:Tryz.prog.info? 71=some t71),rfl,by decide,rfl⟩,rfl,by decide⟩
theorem jl:mv Tryz.prog 69 86 4 (.agg #[(.int .i64 (0)),(.int .i64 (0)),(tV (mkS [])),.slice none 0 0]):=⟨underlying69,⟨_,(by kernel_rfl:Tryz.prog.info? 86=some t86),rfl,by decide,rfl⟩,rfl,by decide⟩
theorem oh:mv Tryz.prog 81 3 1 (.int .i64 (0)):=⟨underlying81,⟨_,(by kernel_rfl:Tryz.prog.info? 3=some t3),rfl,by decide,rfl⟩,rfl,by decide⟩
theorem ur (w0:World) (hz:fU) (hle0:fU.le hz (hp w0)) (code:List UInt8) (v1:Value) (h1:GT.rep hz [v1] code) :
    iF Tryz.prog 15 [v1] w0 (nU code) λr v w'=>∃ (b1:Nat) (x2:Value) (hz2:fU),v=(pV b1)∧fU.le hz hz2∧GT.rep hz2 [x2] r.b∧Mem w0 hz2 w' [au1 w0 hz,blk b1 [x2,nV r.p] 77]:=by
  unfold nU
  refine iR func15 rfl λr=>?_
  have hm:=Mem.startA hle0
  refine gS (gR (gA rfl (gE (gS (gS (gR (gM rfl ?_)))))))
  obtain ⟨aE,aF,rfl,aQ⟩:=fE h1
  refine gY (yV qS rfl) (gB rfl (gE (gJg (λaA a w=>∃ (aB:Value),GT.rep hz [aB] (aA)∧St 11 [(0,aB)] w0 hz [au1 w0 hz] a w) (λaA=>?_) ?_)))
  ·refine gsd 5 rfl (λaH=>?_) λaH=>?_
   ·refine gct rfl (gR (gM rfl (gb λaI aJ=>?_)))
    obtain ⟨aK,aL⟩:=p9.1 aJ
    obtain ⟨aM,aN,aO⟩:∃ nv,nv=rJ (GT.sz (UInt8)) (.slice aE code.length aF) (0:Int).toNat (2000:Int).toNat∧GT.rep hz [nv] aI:=⟨_,rfl,by rw [← aL];exact y9 h1 (by omega) (by omega)⟩
    exact gY (yG rfl (aa6 aN (ai7 (α:=UInt8) qS h1 rfl rfl rfl aK _))) (gA rfl (gE (gZ λa hf=>⟨aM,aO,hf.sb rfl,hm.pk [0] rfl rfl⟩)))
   exact gcf rfl (gSk (gZ λa hf=>⟨.slice aE code.length aF,h1,hf.sb rfl,hm.pk [0] rfl rfl⟩))
  repeat clear hm
  rintro aA a w ⟨aB,aG,hf,hm⟩
  refine gv hf (gS (gR (gM rfl ?_)))
  obtain ⟨aC,aD,rfl,aR⟩:=fE aG
  exact gY (yG rfl (fY (vs:=[(0,(.slice aC aA.length aD))]) (cs:=#[.slice aC aA.length aD,nV 0]) rfl rfl (by kernel_rfl))) (gBx hm rfl λaP w hm=>gA rfl (gE (gRt (gr1 results15 rfl ⟨aP,.slice aC aA.length aD,hz,rfl,(fU.le_refl _),aG,hm.pk [1,0] rfl rfl⟩))))
theorem fR (w0:World) (hz:fU) (r_:fG) (bp0:Nat) (v1p:Value) (h1p:GT.rep hz [v1p] r_.b) (n_:Int) (hm0:Mem w0 hz w0 [blk bp0 [v1p,nV r_.p] 77]) :
    iF Tryz.prog 18 [(pV bp0),nV n_] w0 (fe r_ n_) λr v w'=>v=(nV r.1)∧Mem w0 hz w' [blk bp0 [v1p,nV r.2.p] 77]:=by
  unfold fe
  refine iR func18 rfl λr=>?_
  have hm:=hm0
  refine gS (gR (gA rfl (gE (gS (gR (gM rfl (gM rfl (gY (yG rfl (fI rfl rfl)) (gF xp rfl (gL hm 0 isAgg3 rfl (gB rfl (gY (yG rfl (fI rfl rfl)) (gF xp rfl (gS1 hm 0 sizeOf3 rfl rfl λw hm=>gE (gS (gS (gJ hm (λaA=>[(0,(pV bp0)),(1,(nV n_)),(24,(.bool (aA)))]) (λaA=>[blk bp0 [v1p,nV (w64 (r_.p+1))] 77]) (λaA=>?_) ?_)))))))))))))))))
  ·refine gR (gM rfl (gB rfl (gM rfl (gsd 17 rfl (λaH=>?_) λaH=>?_))))
   ·exact gO rfl (gO rfl (gO rfl (gO rfl (gO rfl (gO rfl (gKt rfl (gE (gz hm [0] rfl))))))))
   refine gM rfl (gY (yG rfl (fI rfl rfl)) (gF pJ rfl (gL hm 0 isAgg22 rfl ?_)))
   obtain ⟨a8,aa,rfl,ab⟩:=fE h1p
   exact gY (yV qS rfl) (gB rfl (gKf rfl (gE (gz hm [0] rfl))))
  repeat clear hm
  intro aA w hm
  refine gs 24 rfl (λaI=>?_) λaI=>?_
  ·exact gct rfl (gS (gR (gA rfl (gE (gRt (gr1 results18 rfl ⟨rfl,hm.pk [0] rfl rfl⟩))))))
  refine gcf rfl (gSk (gS (gR (gM rfl (gY (yG rfl (fI rfl rfl)) (gF xp rfl (gL hm 0 isAgg3 rfl (gB rfl (gA rfl (gE (gS (gS (gR (gM rfl (gM rfl (gY (yG rfl (fI rfl rfl)) (gF pJ rfl (gL hm 0 isAgg22 rfl ?_))))))))))))))))))
  obtain ⟨aJ,aK,rfl,ac⟩:=fE h1p
  refine gY (yV qS rfl) (gB rfl (gE (gsd 36 rfl (λaL=>?_) λaL=>?_)))
  ·refine gct rfl (gS (gR (gM rfl (gY (yG rfl (fI rfl rfl)) (gF pJ rfl (gL hm 0 isAgg22 rfl (gM rfl (gg λaB aM aC=>?_))))))))
   obtain ⟨ae,af,ag,he⟩:=iS h1p aC
   obtain ⟨rfl,_,rfl⟩:=sl3 he
   refine gI qS aM (ff aC) rfl (gY (yl isAgg5 ((gK (cs:=[(.int .u8 ((aB).toNat:Int))]) (hm.now h1p) aC rfl).cell (j:=0) rfl) rfl) (gY (yG rfl (sO (b:=aB) underlying5 underlying3 rfl rfl)) ?_))
   have ah:=UInt8.toNat_lt (aB)
   refine gM rfl (gb λai aN=>?_)
   obtain ⟨aO,rfl⟩:=rI.1 aN
   exact gY (yG rfl (u9 rfl rfl rfl aO)) (gA rfl (gE (gRt (gr1 results18 rfl ⟨rfl,hm.pk [0] rfl rfl⟩))))
  refine gcf rfl (gSk (gS (gW (.p 0 (.p 1 (.p 2 (.p 4 (.p 5 (.p 6 (.p 7 (.p 15 (.p 16 (.p 17 (.p 19 (.p 20 (.p 21 (.p 22 (.p 23 (.p 24 (.p 33 (.p 34 (.p 36 (.p 37 (.p 38 (.p 39 (.q 3 (.q 8 (.p 9 (.p 10 (.p 11 (.q 12 (.p 13 (.p 14 (.q 18 (.q 25 (.p 26 (.p 27 (.p 28 (.q 29 (.p 30 (.p 31 (.p 32 (.p 35 (.e 40 (.p 41 (.p 42 (.p 43 (.p 44 (.p 45 .fin))))) .nil))))))))))))))))))))))))))))))))))))))))) [3,8,12,18,25,29,40] [0,1,2,4,5,6,7,9,10,11,13,14,15,16,17,19,20,21,22,23,24,26,27,28,30,31,32,33,34,35,36,37,38,39,41,42,43,44,45] hm [0] [blk bp0 [.slice aJ r_.b.length aK,nV (w64 (r_.p+1))] 77] rfl mxo (by kernel_rfl) (λ_ _ _ h=>h.2) λw hm hS=>tP rfl (λw=>yM rfl) (tP rfl (λw=>yG rfl (fI rfl rfl)) (tP rfl (λw=>yF pJ rfl) (tP rfl (λw=>yM rfl) (tP rfl (λw=>yM rfl) (tP rfl (λw=>yG rfl (fI rfl rfl)) (tP rfl (λw=>yF pJ rfl) (tP rfl (λw=>yM rfl) (tP rfl (λw=>yG rfl (fI rfl rfl)) (tP rfl (λw=>yF pJ rfl) (tP rfl (λw=>yM rfl) (tP rfl (λw=>yB rfl) (tP rfl (λw=>yB rfl) (tP rfl (λw=>yM rfl) (tP rfl (λw=>yG rfl (fI rfl rfl)) (tP rfl (λw=>yF pJ rfl) (tP rfl (λw=>yM rfl) (tP rfl (λw=>yB rfl) (tP rfl (λw=>yM rfl) (tP rfl (λw=>yM rfl) (tP rfl (λw=>yG rfl (fI rfl rfl)) (tP rfl (λw=>yF pJ rfl) (tQ rfl hS (λw hm=>yL hm 0 isAgg22 rfl) (tQ rfl hS (λw hm=>yL hm 0 isAgg22 rfl) (tP rfl (λw=>yV qS rfl) (gb λaj aP=>?_))))))))))))))))))))))))))))
  obtain ⟨aQ,rfl⟩:=rI.1 aP
  refine tP rfl (λw=>yG rfl (u9 rfl rfl rfl aQ)) (gg λaD aR aE=>?_)
  obtain ⟨ak,al,am,he⟩:=iS h1p aE
  obtain ⟨rfl,_,rfl⟩:=sl3 he
  refine tP rfl (λw=>yI qS aR (ff aE) rfl) (tQ rfl hS (λw hm=>yl isAgg5 ((gK (cs:=[(.int .u8 ((aD).toNat:Int))]) (hm.now h1p) aE rfl).cell (j:=0) rfl) rfl) (tP rfl (λw=>yG rfl (sO (b:=aD) underlying5 underlying3 rfl rfl)) ?_))
  have an:=UInt8.toNat_lt (aD)
  refine tP rfl (λw=>yB rfl) (tQ rfl hS (λw hm=>yL hm 0 isAgg22 rfl) (tQ rfl hS (λw hm=>yL hm 0 isAgg22 rfl) (tP rfl (λw=>yV qS rfl) (gb λao aS=>?_))))
  obtain ⟨aT,rfl⟩:=rI.1 aS
  refine tP rfl (λw=>yG rfl (u9 rfl rfl rfl aT)) (gg λaF aU aG=>tP rfl (λw=>yI qS aU (ff aG) rfl) (tQ rfl hS (λw hm=>yl isAgg5 ((gK (cs:=[(.int .u8 ((aF).toNat:Int))]) (hm.now h1p) aG rfl).cell (j:=0) rfl) rfl) (tP rfl (λw=>yG rfl (sO (b:=aF) underlying5 underlying3 rfl rfl)) ?_)))
  have aq:=UInt8.toNat_lt (aF)
  refine tP rfl (λw=>yB rfl) (tP rfl (λw=>yB rfl) (tP rfl (λw=>yB rfl) (tO (tY rfl (yL hm 0 isAgg22 rfl) (tAs hS (tP rfl (λw=>yV qS rfl) (gb λar aV=>?_)))))))
  obtain ⟨aX,rfl⟩:=ai2.1 aV
  refine tP rfl (λw=>yG rfl (ae7 rfl rfl rfl aX)) (tP rfl (λw=>yB rfl) (tP rfl (λw=>yB rfl) (tP rfl (λw=>yA rfl) (tE (gS (gR (gM rfl (gM rfl (gY (yG rfl (ae7 rfl rfl rfl (by decide))) (gB rfl (gA rfl (gE (gS (gR (gM rfl (gM rfl (gb λau aY=>?_)))))))))))))))))
  obtain ⟨aZ,rfl⟩:=rI.1 aY
  exact gY (yG rfl (u9 rfl rfl rfl aZ)) (gA rfl (gE (gRt (gr1 results18 rfl ⟨rfl,hm.pk [0] rfl rfl⟩))))
theorem gV (w0:World) (hz:fU) (r_:fG) (bp0:Nat) (v1p:Value) (h1p:GT.rep hz [v1p] r_.b) (list:List Int) (v1:Value) (h1:GT.rep hz [v1] list) (hm0:Mem w0 hz w0 [blk bp0 [v1p,nV r_.p] 77]) :
    iF Tryz.prog 45 [(pV bp0),v1] w0 (gT r_ list) λr v w'=>v=(nV r.1)∧Mem w0 hz w' [blk bp0 [v1p,nV r.2.p] 77]:=by
  unfold gT
  refine iR func45 rfl λr=>?_
  have hm:=hm0
  refine gS (gR (gA rfl (gE (gS (gR (gM rfl (gM rfl (gM rfl ?_))))))))
  obtain ⟨aF,aG,rfl,aH⟩:=fE h1
  refine gY (yV bc2 rfl) ?_
  obtain ⟨aB,hle,hm1,hsub,aC⟩:=hm.take2 (L1:=[_]) (L2:=[]) [0] [] (by decide) rfl rfl
  refine gCg rfl call18 (fR _ aB r_ bp0 v1p (GT.mono hle h1p) (list.length:Int) hm1 ) ?_
  rintro aI aJ aK w ⟨rfl,hB⟩
  replace hm:=aC _ _ hB;clear hB
  refine gg λaD aE aA=>?_
  obtain ⟨aL,aM,aN,he⟩:=iS h1 aA
  obtain ⟨rfl,_,rfl⟩:=sl3 he
  exact gI bc2 aE (ff aA) rfl (gY (yl isAgg3 ((gK (cs:=[nV aD]) (hm.now h1) aA rfl).cell (j:=0) rfl) rfl) (gA rfl (gE (gRt (gr1 results45 rfl ⟨rfl,hm.pk [0] rfl rfl⟩)))))
theorem ig (w0:World) (hz:fU) (r_:fG) (bp0:Nat) (v1p:Value) (h1p:GT.rep hz [v1p] r_.b) (list:List Str) (v1:Value) (h1:GT.rep hz [v1] list) (hm0:Mem w0 hz w0 [blk bp0 [v1p,nV r_.p] 77]) :
    iF Tryz.prog 19 [(pV bp0),v1] w0 (iI r_ list) λr v w'=>v=(tV r.1)∧Mem w0 hz w' [blk bp0 [v1p,nV r.2.p] 77]:=by
  unfold iI
  refine iR func19 rfl λr=>?_
  have hm:=hm0
  refine gS (gR (gA rfl (gE (gS (gR (gM rfl (gM rfl (gM rfl ?_))))))))
  obtain ⟨aF,aG,rfl,aH⟩:=fE h1
  refine gY (yV jO rfl) ?_
  obtain ⟨aB,hle,hm1,hsub,aC⟩:=hm.take2 (L1:=[_]) (L2:=[]) [0] [] (by decide) rfl rfl
  refine gCg rfl call18 (fR _ aB r_ bp0 v1p (GT.mono hle h1p) (list.length:Int) hm1 ) ?_
  rintro aI aJ aK w ⟨rfl,hB⟩
  replace hm:=aC _ _ hB;clear hB
  refine gg λaD aE aA=>?_
  obtain ⟨aL,aM,aN,he⟩:=iS h1 aA
  obtain ⟨rfl,_,rfl⟩:=sl3 he
  exact gI jO aE (ff aA) rfl (gY (yl isAgg9 ((gK (cs:=[(tV aD)]) (hm.now h1) aA rfl).cell (j:=0) rfl) rfl) (gA rfl (gE (gRt (gr1 results19 rfl ⟨rfl,hm.pk [0] rfl rfl⟩)))))
theorem vv (w0:World) (hz:fU) (r_:fG) (bp0:Nat) (v1p:Value) (h1p:GT.rep hz [v1p] r_.b) (names:List Str) (v1:Value) (h1:GT.rep hz [v1] names) (hm0:Mem w0 hz w0 [blk bp0 [v1p,nV r_.p] 77]) :
    iF Tryz.prog 133 [(pV bp0),v1] w0 (oC r_ names) λr v w'=>∃ (x1:Value),v=(.agg #[nV r.1.op,nV r.1.n_,(tV r.1.name),x1])∧Mem w0 hz w' [blk bp0 [v1p,nV r.2.p] 77,ow [x1] r.1.kids]:=by
  unfold oC
  refine iR func133 rfl λr=>?_
  have hm:=hm0
  refine gS (gR (gAl hm zeroValue86 rfl λaB w hm=>gE (gS (gS (gJ hm (λaA=>[(0,(pV bp0)),(1,v1),(4,(pV aB)),(12,(.bool (aA.2)))]) (λaA=>[blk bp0 [v1p,nV aA.1] 77,blk aB [nV 0,nV 0,(tV (mkS [])),.slice none 0 0] 86]) (λaA=>?_) ?_)))))
  ·refine gR (gM rfl ?_)
   obtain ⟨aN,aO,rfl,aP⟩:=fE h1
   refine gY (yV jO rfl) (gB rfl (gM rfl (gsd 8 rfl (λaE=>?_) λaE=>?_)))
   ·exact gO rfl (gO rfl (gO rfl (gKt rfl (gE (gz hm [1,0] rfl)))))
   refine gM rfl ?_
   obtain ⟨aF,hle,hm1,hsub,aG⟩:=hm.take2 (L1:=[_]) (L2:=[_]) [1] [0] (by decide) rfl rfl
   refine gCg rfl call18 (fR _ aF r_ bp0 v1p (GT.mono hle h1p) 3 hm1 ) ?_
   rintro aQ aR aS w ⟨rfl,hB⟩
   replace hm:=aG _ _ hB;clear hB
   exact gB rfl (gKf rfl (gE (gz hm [0,1] rfl)))
  repeat clear hm
  intro aA w hm
  refine gs 12 rfl (λaH=>?_) λaH=>?_
  ·refine gct rfl (gS (gR (gM rfl (gf rfl (fun a hf => fL (vs := #[(0, (nV 0)), (1, (nV 1)), (2, (nV 2)), (3, (nV 3)), (4, (nV 5)), (5, (nV 7)), (6, (nV 15)), (7, (nV 16)), (8, (nV 100)), (9, (nV 255))]) (cs := [nV 0, nV 1, nV 2, nV 3, nV 5, nV 7, nV 15, nV 16, nV 100, nV 255]) oh hf hm rfl rfl (by kernel_rfl) rfl rfl) ?_))))
   rintro _ w ⟨aI,rfl,hm⟩
   replace hm:=hm.lit (xs:=([0,1,2,3,5,7,15,16,100,255]:List Int)) 0 rfl rfl rfl rfl
   obtain ⟨aJ,hle,hm1,hsub,aK⟩:=hm.take2 (L1:=[_]) (L2:=[_,_]) [1] [0,2] (by decide) rfl rfl
   refine gCg rfl call45 (gV _ aJ (⟨r_.b,aA.1⟩:fG) bp0 v1p (GT.mono hle h1p) ([0,1,2,3,5,7,15,16,100,255]:List Int) (sV aI 0 10 10) (kZ (hsub 0 _ rfl)) hm1 ) ?_
   rintro aC aT aU w ⟨rfl,hB⟩
   replace hm:=aK _ _ hB;clear hB
   refine gY (yG rfl (fY (vs:=[(0,(nV 1)),(1,(nV aC.1))]) (cs:=#[nV 1,nV aC.1,(tV (mkS [])),.slice none 0 0]) rfl rfl (by kernel_rfl))) (gSN hm 2 sizeOf86 (et rfl (et rfl (et rfl (et rfl fK)))) rfl λw hm=>gE (gRt ?_))
   replace hm:=hm.nilow (α:=ey)
   exact grc 3 results133 hm rfl isAgg86 sizeOf86 ⟨.slice none 0 0,rfl,hm.pk [1,0] rfl rfl⟩
  refine gcf rfl (gSk (gS (gR (gM rfl (gM rfl ?_)))))
  obtain ⟨aL,hle,hm1,hsub,aM⟩:=hm.take2 (L1:=[_]) (L2:=[_]) [0] [1] (by decide) rfl rfl
  refine gCg rfl call19 (ig _ aL (⟨r_.b,aA.1⟩:fG) bp0 v1p (GT.mono hle h1p) names v1 (GT.mono hle h1) hm1 ) ?_
  rintro aD aV aX w ⟨rfl,hB⟩
  replace hm:=aM _ _ hB;clear hB
  refine gY (yG rfl (fY (vs:=[(0,(nV 2)),(2,(tV aD.1))]) (cs:=#[nV 2,nV 0,(tV aD.1),.slice none 0 0]) rfl rfl (by kernel_rfl))) (gSN hm 1 sizeOf86 (et rfl (et rfl (et rfl (et rfl fK)))) rfl λw hm=>gE (gRt ?_))
  replace hm:=hm.nilow (α:=ey)
  exact grc 2 results133 hm rfl isAgg86 sizeOf86 ⟨.slice none 0 0,rfl,hm.pk [1,0] rfl rfl⟩
theorem um (names:List Str):∀ (r_:fG) (deep:Int) (r:ey × fG),jZ r_ names deep=some r→∀ (w0:World) (hz:fU) (bp0:Nat) (v1p:Value) (h1p:GT.rep hz [v1p] r_.b) (v1:Value) (h1:GT.rep hz [v1] names) (hm0:Mem w0 hz w0 [blk bp0 [v1p,nV r_.p] 77]),Con Tryz.prog 111 [(pV bp0),v1,nV deep] w0 (λv w'=>∃ (x1:Value),v=(.agg #[nV r.1.op,nV r.1.n_,(tV r.1.name),x1])∧Mem w0 hz w' [blk bp0 [v1p,nV r.2.p] 77,ow [x1] r.1.kids]):=by
  refine jZ.partial_correctness names (motive:=λr_ deep r=>∀ (w0:World) (hz:fU) (bp0:Nat) (v1p:Value) (h1p:GT.rep hz [v1p] r_.b) (v1:Value) (h1:GT.rep hz [v1] names) (hm0:Mem w0 hz w0 [blk bp0 [v1p,nV r_.p] 77]),Con Tryz.prog 111 [(pV bp0),v1,nV deep] w0 (λv w'=>∃ (x1:Value),v=(.agg #[nV r.1.op,nV r.1.n_,(tV r.1.name),x1])∧Mem w0 hz w' [blk bp0 [v1p,nV r.2.p] 77,ow [x1] r.1.kids])) ?_
  intro rec_ ih_ r_ deep r hq w0 hz bp0 v1p h1p v1 h1 hm0
  have spec_l2Expr_rec:∀ (w0:World) (hz:fU) (r_:fG) (bp0:Nat) (v1p:Value) (h1p:GT.rep hz [v1p] r_.b) (_:List Str) (v1:Value) (h1:GT.rep hz [v1] names) (deep:Int) (hm0:Mem w0 hz w0 [blk bp0 [v1p,nV r_.p] 77]) (r:ey × fG) (hq:rec_ r_ deep=some r),Con Tryz.prog 111 [(pV bp0),v1,nV deep] w0 (λv w'=>∃ (x1:Value),v=(.agg #[nV r.1.op,nV r.1.n_,(tV r.1.name),x1])∧Mem w0 hz w' [blk bp0 [v1p,nV r.2.p] 77,ow [x1] r.1.kids]):=λw0 hz r_ bp0 v1p h1p _ v1 h1 deep hm0 r hq=>ih_ r_ deep r hq w0 hz bp0 v1p h1p v1 h1 hm0
  refine kI (ρ:=ey × fG) (R:=λr v w'=>∃ (x1:Value),v=(.agg #[nV r.1.op,nV r.1.n_,(tV r.1.name),x1])∧Mem w0 hz w' [blk bp0 [v1p,nV r.2.p] 77,ow [x1] r.1.kids]) func111 rfl hq ?_
  have hm:=hm0
  refine gS (gR (gAl hm zeroValue86 rfl λaG w hm=>gE (gS (gS (gJ hm (λaD=>[(0,(pV bp0)),(1,v1),(2,(nV deep)),(6,(pV aG)),(14,(.bool (aD.2)))]) (λaD=>[blk bp0 [v1p,nV aD.1] 77,blk aG [nV 0,nV 0,(tV (mkS [])),.slice none 0 0] 86]) (λaD=>?_) ?_)))))
  ·refine gR (gM rfl (gB rfl (gM rfl (gsd 10 rfl (λaP=>?_) λaP=>?_))))
   ·exact gO rfl (gO rfl (gO rfl (gKt rfl (gE (gz hm [1,0] rfl)))))
   refine gM rfl ?_
   obtain ⟨aQ,hle,hm1,hsub,aR⟩:=hm.take2 (L1:=[_]) (L2:=[_]) [1] [0] (by decide) rfl rfl
   refine gCg rfl call18 (fR _ aQ r_ bp0 v1p (GT.mono hle h1p) 4 hm1 ) ?_
   rintro ak al am w ⟨rfl,hB⟩
   replace hm:=aR _ _ hB;clear hB
   exact gB rfl (gKf rfl (gE (gz hm [0,1] rfl)))
  repeat clear hm
  intro aD w hm
  refine gs 14 rfl (λaS=>?_) λaS=>?_
  ·refine gct rfl (gS (gR (gM rfl (gM rfl ?_))))
   obtain ⟨aT,hle,hm1,hsub,aU⟩:=hm.take2 (L1:=[_]) (L2:=[_]) [0] [1] (by decide) rfl rfl
   refine gCg rfl call133 (vv _ aT (⟨r_.b,aD.1⟩:fG) bp0 v1p (GT.mono hle h1p) names v1 (GT.mono hle h1) hm1 ) ?_
   rintro an ao aq w ⟨aV,rfl,hB⟩
   replace hm:=aU _ _ hB;clear hB
   exact gSN hm 2 sizeOf86 (et rfl (et rfl (et rfl (et (fS (hm.ow_rep 1 rfl)) fK)))) rfl λw hm=>gE (gRt (grc 2 results111 hm rfl isAgg86 sizeOf86 ⟨aV,rfl,hm.pk [0,1] rfl rfl⟩))
  refine gcf rfl (gSk (gS (gS (gR (gM rfl ?_)))))
  obtain ⟨aX,hle,hm1,hsub,aY⟩:=hm.take2 (L1:=[_]) (L2:=[_]) [0] [1] (by decide) rfl rfl
  refine gCg rfl call18 (fR _ aX (⟨r_.b,aD.1⟩:fG) bp0 v1p (GT.mono hle h1p) 7 hm1 ) ?_
  rintro aN ar au w ⟨rfl,hB⟩
  replace hm:=aY _ _ hB;clear hB
  refine gB rfl (gE (gsd 20 rfl (λaZ=>?_) λaZ=>?_))
  ·refine gct rfl (gS (gR (gM rfl (gf rfl (fun a hf => fL (vs := #[(0, (nV 11)), (1, (nV 12)), (2, (nV 11))]) (cs := [nV 11, nV 12, nV 11]) oh hf hm rfl rfl (by kernel_rfl) rfl rfl) ?_))))
   rintro _ w ⟨aO,rfl,hm⟩
   replace hm:=hm.lit (xs:=([11,12,11]:List Int)) 0 rfl rfl rfl rfl
   obtain ⟨a8,hle,hm1,hsub,aa⟩:=hm.take2 (L1:=[_]) (L2:=[_,_]) [1] [0,2] (by decide) rfl rfl
   refine gCg rfl call45 (gV _ a8 (⟨r_.b,aN.2.p⟩:fG) bp0 v1p (GT.mono hle h1p) ([11,12,11]:List Int) (sV aO 0 3 3) (kZ (hsub 0 _ rfl)) hm1 ) ?_
   rintro aK av aw w ⟨rfl,hB⟩
   replace hm:=aa _ _ hB;clear hB
   refine gM rfl (gM rfl (gM rfl (gB rfl ?_)))
   obtain ⟨ab,hle,hm1,hsub,ac⟩:=hm.take2 (L1:=[_]) (L2:=[_,_]) [0] [1,2] (by decide) rfl rfl
   refine gCg rfl call111 (spec_l2Expr_rec _ ab (⟨r_.b,aK.2.p⟩:fG) bp0 v1p (GT.mono hle h1p) names v1 (GT.mono hle h1) (w64 (deep - 1)) hm1 ) ?_
   rintro aC ax ay w ⟨aI,rfl,hB⟩
   replace hm:=ac _ _ hB;clear hB
   refine gf rfl (λa hf=>fL (vs:=#[(0,(.agg #[nV aC.1.op,nV aC.1.n_,(tV aC.1.name),aI]))]) (cs:=[nV aC.1.op,nV aC.1.n_,(tV aC.1.name),aI]) jl hf hm rfl rfl (by kernel_rfl) rfl rfl) ?_
   rintro _ w ⟨aJ,rfl,hm⟩
   replace hm:=hm.els_nil (α:=ey)
   replace hm:Mem w0 hz _ [els [] ([]:List ey),blk aJ [nV aC.1.op,nV aC.1.n_,(tV aC.1.name),aI] 86,blk bp0 [v1p,nV aC.2.p] 77,ow [nV aC.1.op,nV aC.1.n_,(tV aC.1.name),aI] (aC.1:ey),ow [sV aO 0 3 3] ([11,12,11]:List Int),blk aG [nV 0,nV 0,(tV (mkS [])),.slice none 0 0] 86]:=iM aC.1 hm 3 rfl
   replace hm:=(hm.els_cons 0 3 (by decide) rfl rfl).pk (L':=[_,_,_,_,_]) [0,1,2,4,5] rfl rfl
   replace hm:=(hm.lit_els 1 0 (by decide) rfl rfl rfl rfl).pk (L':=[_,_,_,_]) [1,2,3,4] rfl rfl
   exact gY (yG rfl (fY (vs:=[(0,(nV aK.1)),(3,(sV aJ 0 1 1))]) (cs:=#[nV aK.1,nV 0,(tV (mkS [])),sV aJ 0 1 1]) rfl rfl (by kernel_rfl))) (gSN hm 3 sizeOf86 (et rfl (et rfl (et rfl (et rfl fK)))) rfl λw hm=>gE (gRt (grc 3 results111 hm rfl isAgg86 sizeOf86 ⟨sV aJ 0 1 1,rfl,hm.pk [1,0] rfl rfl⟩)))
  refine gcf rfl (gSk (gS (gR (gM rfl (gf rfl (λa hf=>fL (vs:=#[(0,(nV 3)),(1,(nV 3)),(2,(nV 4)),(3,(nV 5)),(4,(nV 6)),(5,(nV 7)),(6,(nV 8)),(7,(nV 9)),(8,(nV 10))]) (cs:=[nV 3,nV 3,nV 4,nV 5,nV 6,nV 7,nV 8,nV 9,nV 10]) oh hf hm rfl rfl (by kernel_rfl) rfl rfl) ?_)))))
  rintro _ w ⟨aL,rfl,hm⟩
  replace hm:=hm.lit (xs:=([3,3,4,5,6,7,8,9,10]:List Int)) 0 rfl rfl rfl rfl
  obtain ⟨ae,hle,hm1,hsub,af⟩:=hm.take2 (L1:=[_]) (L2:=[_,_]) [1] [0,2] (by decide) rfl rfl
  refine gCg rfl call45 (gV _ ae (⟨r_.b,aN.2.p⟩:fG) bp0 v1p (GT.mono hle h1p) ([3,3,4,5,6,7,8,9,10]:List Int) (sV aL 0 9 9) (kZ (hsub 0 _ rfl)) hm1 ) ?_
  rintro aM az bA w ⟨rfl,hB⟩
  replace hm:=af _ _ hB;clear hB
  refine gA rfl (gE (gS (gR (gM rfl (gM rfl (gM rfl (gM rfl (gB rfl ?_))))))))
  obtain ⟨ag,hle,hm1,hsub,ah⟩:=hm.take2 (L1:=[_]) (L2:=[_,_]) [0] [1,2] (by decide) rfl rfl
  refine gCg rfl call111 (spec_l2Expr_rec _ ag (⟨r_.b,aM.2.p⟩:fG) bp0 v1p (GT.mono hle h1p) names v1 (GT.mono hle h1) (w64 (deep - 1)) hm1 ) ?_
  rintro aB bB bC w ⟨aE,rfl,hB⟩
  replace hm:=ah _ _ hB;clear hB
  refine gM rfl (gM rfl (gM rfl (gB rfl ?_)))
  obtain ⟨ai,hle,hm1,hsub,aj⟩:=hm.take2 (L1:=[_]) (L2:=[_,_,_]) [0] [1,2,3] (by decide) rfl rfl
  refine gCg rfl call111 (spec_l2Expr_rec _ ai (⟨r_.b,aB.2.p⟩:fG) bp0 v1p (GT.mono hle h1p) names v1 (GT.mono hle h1) (w64 (deep - 1)) hm1 ) ?_
  rintro aA bD bE w ⟨aF,rfl,hB⟩
  replace hm:=aj _ _ hB;clear hB
  refine gf rfl (λa hf=>fL (vs:=#[(0,(.agg #[nV aB.1.op,nV aB.1.n_,(tV aB.1.name),aE])),(1,(.agg #[nV aA.1.op,nV aA.1.n_,(tV aA.1.name),aF]))]) (cs:=[nV aB.1.op,nV aB.1.n_,(tV aB.1.name),aE,nV aA.1.op,nV aA.1.n_,(tV aA.1.name),aF]) jl hf hm rfl rfl (by kernel_rfl) rfl rfl) ?_
  rintro _ w ⟨aH,rfl,hm⟩
  replace hm:=hm.els_nil (α:=ey)
  replace hm:Mem w0 hz _ [els [] ([]:List ey),blk aH [nV aB.1.op,nV aB.1.n_,(tV aB.1.name),aE,nV aA.1.op,nV aA.1.n_,(tV aA.1.name),aF] 86,blk bp0 [v1p,nV aA.2.p] 77,ow [nV aA.1.op,nV aA.1.n_,(tV aA.1.name),aF] (aA.1:ey),ow [aE] aB.1.kids,ow [sV aL 0 9 9] ([3,3,4,5,6,7,8,9,10]:List Int),blk aG [nV 0,nV 0,(tV (mkS [])),.slice none 0 0] 86]:=iM aA.1 hm 3 rfl
  replace hm:=(hm.els_cons 0 3 (by decide) rfl rfl).pk (L':=[_,_,_,_,_,_]) [0,1,2,4,5,6] rfl rfl
  replace hm:Mem w0 hz _ [els [nV aA.1.op,nV aA.1.n_,(tV aA.1.name),aF] ([aA.1]:List ey),blk aH [nV aB.1.op,nV aB.1.n_,(tV aB.1.name),aE,nV aA.1.op,nV aA.1.n_,(tV aA.1.name),aF] 86,blk bp0 [v1p,nV aA.2.p] 77,ow [nV aB.1.op,nV aB.1.n_,(tV aB.1.name),aE] (aB.1:ey),ow [sV aL 0 9 9] ([3,3,4,5,6,7,8,9,10]:List Int),blk aG [nV 0,nV 0,(tV (mkS [])),.slice none 0 0] 86]:=iM aB.1 hm 3 rfl
  replace hm:=(hm.els_cons 0 3 (by decide) rfl rfl).pk (L':=[_,_,_,_,_]) [0,1,2,4,5] rfl rfl
  replace hm:=(hm.lit_els 1 0 (by decide) rfl rfl rfl rfl).pk (L':=[_,_,_,_]) [1,2,3,4] rfl rfl
  exact gY (yG rfl (fY (vs:=[(0,(nV aM.1)),(3,(sV aH 0 2 2))]) (cs:=#[nV aM.1,nV 0,(tV (mkS [])),sV aH 0 2 2]) rfl rfl (by kernel_rfl))) (gSN hm 3 sizeOf86 (et rfl (et rfl (et rfl (et rfl fK)))) rfl λw hm=>gE (gRt (grc 3 results111 hm rfl isAgg86 sizeOf86 ⟨sV aH 0 2 2,rfl,hm.pk [1,0] rfl rfl⟩)))
theorem nX (w0:World) (hz:fU) (r_:fG) (bp0:Nat) (v1p:Value) (h1p:GT.rep hz [v1p] r_.b) (names:List Str) (v1:Value) (h1:GT.rep hz [v1] names) (deep:Int) (hm0:Mem w0 hz w0 [blk bp0 [v1p,nV r_.p] 77]) (r:ey × fG) (hq:jZ r_ names deep=some r):Con Tryz.prog 111 [(pV bp0),v1,nV deep] w0 (λv w'=>∃ (x1:Value),v=(.agg #[nV r.1.op,nV r.1.n_,(tV r.1.name),x1])∧Mem w0 hz w' [blk bp0 [v1p,nV r.2.p] 77,ow [x1] r.1.kids]):=um names r_ deep r hq w0 hz bp0 v1p h1p v1 h1 hm0
theorem iV (w0:World) (hz:fU) (g:ft) (bp100:Nat) (bp0:Nat) (v1p:Value) (h1p:GT.rep hz [v1p] g.fns) (v2p:Value) (h2p:GT.rep hz [v2p] g.vars) (hbbp0:hz bp0=some (.cells ([(pV bp100),v1p,v2p,nV g.next_,nV g.left]:List Value).toArray 83 (0,0))) (gRd:fG) (v3p:Value) (h3p:GT.rep hz [v3p] gRd.b) (deep:Int) (hm0:Mem w0 hz w0 [blk bp100 [v3p,nV gRd.p] 77]) :
    iF Tryz.prog 83 [(pV bp0),nV deep] w0 (iD g gRd deep) λr v w'=>∃ (x1:Value),v=(.agg #[nV r.1.op,nV r.1.n_,(tV r.1.name),x1])∧Mem w0 hz w' [blk bp100 [v3p,nV r.2.p] 77,ow [x1] r.1.kids]:=by
  unfold iD
  refine iR func83 rfl λr=>?_
  have hm:=hm0
  refine gS (gR (gAl hm zeroValue86 rfl λaD w hm=>gE (gS (gJg (λaE a w=>∃ (aO:Nat) (aM:Value),St 99 [(0,(pV bp0)),(4,(pV aD)),(5,(pV aO))] w0 hz [blk aD [nV 0,nV 0,(tV (mkS [])),.slice none 0 0] 86,blk aO [nV aE.1,nV aE.2.1,(tV aE.2.2.1),aM] 86,ow [aM] aE.2.2.2.1,blk bp100 [v3p,nV aE.2.2.2.2] 77] a w) (λaE=>?_) ?_))))
  ·refine gW (.p 0 (.p 1 (.p 2 (.p 4 (.p 5 (.p 6 (.p 8 (.q 3 (.q 7 (.e 9 (.e 10 (.e 11 .fin .nil) .nil) (.e 10 (.e 9 (.e 11 .fin .nil) .nil) .nil))))))))))) [3, 7, 10] [0, 1, 2, 4, 5, 6, 8] hm [0] [_] rfl mxo (by kernel_rfl) (fun _ _ _ h => h.2) fun w hm hS => tP rfl (fun w => yM rfl) (tP rfl (fun w => yG rfl (fI rfl rfl)) (tP rfl (fun w => yF lE rfl) (tP rfl (fun w => yM rfl) (tP rfl (fun w => yG rfl (fI rfl rfl)) (tP rfl (fun w => yF mQ rfl) (tP rfl (fun w => yM rfl) (tQ rfl hS (fun w hm => yl isAgg41 (hm.hz_cell hbbp0 rfl) rfl) (tQ rfl hS (fun w hm => yl isAgg47 (hm.hz_cell hbbp0 rfl) rfl) (gb fun bg ab => tMo ?_ ?_)))))))))
   ·obtain ⟨ao, hle, hm1, hsub, aq⟩ := hm.take2 (L1 := [_]) (L2 := [_]) [1] [0] (by decide) rfl rfl
    refine tf rfl rfl (λa hf=>fo hf rfl call111 rfl (nX _ ao gRd bp100 v3p (GT.mono hle h3p) g.vars v2p (GT.mono hle h2p) deep hm1  _ ab)) ?_
    rintro bh w ⟨ar,rfl,hB⟩
    replace hm:=aq _ _ hB;clear hB
    refine tAn rfl (tO (tf rfl rfl (λa hf=>iQ hm zeroValue86 rfl rfl) ?_))
    rintro _ w ⟨au,rfl,hm⟩
    refine tAk hm [3] rfl λhS=>tO (tf0 rfl rfl (λa hf=>j7 0 hf hm rfl sizeOf86 rfl rfl rfl (et rfl (et rfl (et rfl (et (fS (hm.ow_rep 2 rfl)) fK)))) rfl rfl) ?_)
    rintro _ w hm
    exact tAn rfl (tE (gZ λa hf=>⟨au,ar,hf.sb rfl,hm.pk [3,0,2,1] rfl rfl⟩))
   refine tO (tf rfl rfl (λa hf=>iQ hm zeroValue86 rfl rfl) ?_)
   rintro _ w ⟨av,rfl,hm⟩
   refine tAk hm [1] rfl λhS=>tO ?_
   obtain ⟨aw,hle,hm1,hsub,ax⟩:=hm.take2 (L1:=[_]) (L2:=[_,_]) [2] [0,1] (by decide) rfl rfl
   refine tf rfl rfl (λa hf=>fo hf rfl call111 rfl (nX _ aw gRd bp100 v3p (GT.mono hle h3p) g.vars v2p (GT.mono hle h2p) deep hm1  _ ab)) ?_
   rintro bi w ⟨ay,rfl,hB⟩
   replace hm:=ax _ _ hB;clear hB
   refine tAn rfl (tO (tf0 rfl rfl (λa hf=>j7 2 hf hm rfl sizeOf86 rfl rfl rfl (et rfl (et rfl (et rfl (et (fS (hm.ow_rep 1 rfl)) fK)))) rfl rfl) ?_))
   rintro _ w hm
   exact tAn rfl (tE (gZ λa hf=>⟨av,ay,hf.sb rfl,hm.pk [3,2,1,0] rfl rfl⟩))
  repeat clear hm
  rintro aE a w ⟨aO,aM,hf,hm⟩
  refine gv hf (gS (gS (gJ hm (λaI=>[(0,(pV bp0)),(4,(pV aD)),(5,(pV aO)),(32,(.bool (aI.1)))]) (λaI=>[blk aD [nV 0,nV 0,(tV (mkS [])),.slice none 0 0] 86,blk aO [nV aE.1,nV aE.2.1,(tV aE.2.2.1),aM] 86,ow [aM] aE.2.2.2.1,blk bp100 [v3p,nV aI.2] 77]) (λaI=>?_) ?_)))
  ·refine gR (gM rfl (gY (yG rfl (fI rfl rfl)) (gF oz rfl (gY (yl isAgg24 (hm.hz_cell hbbp0 rfl) rfl) ?_))))
   obtain ⟨bj,bk,rfl,bl⟩:=fE h1p
   refine gY (yV jW rfl) (gB rfl (gM rfl (gsd 25 rfl (λaz=>?_) λaz=>?_)))
   ·exact gO rfl (gO rfl (gO rfl (gO rfl (gO rfl (gO rfl (gKt rfl (gE (gz hm [0,1,2,3] rfl))))))))
   refine gM rfl (gY (yG rfl (fI rfl rfl)) (gF lE rfl (gY (yl isAgg41 (hm.hz_cell hbbp0 rfl) rfl) ?_)))
   obtain ⟨bA,hle,hm1,hsub,bB⟩:=hm.take2 (L1:=[_]) (L2:=[_,_,_]) [3] [0,1,2] (by decide) rfl rfl
   refine gCg rfl call18 (fR _ bA (⟨gRd.b,aE.2.2.2.2⟩:fG) bp100 v3p (GT.mono hle h3p) 4 hm1 ) ?_
   rintro bm bo bp w ⟨rfl,hB⟩
   replace hm:=bB _ _ hB;clear hB
   exact gB rfl (gKf rfl (gE (gz hm [1,2,3,0] rfl)))
  repeat clear hm
  intro aI w hm
  refine gs 32 rfl (λbC=>?_) λbC=>?_
  ·exact gct rfl (gS (gR (gY (yn (hm.blk_at 1 rfl) isAgg86 sizeOf86 rfl) (gSN hm 0 sizeOf86 (et rfl (et rfl (et rfl (et (fS (hm.ow_rep 2 rfl)) fK)))) rfl λw hm=>gE (gRt (grc 0 results83 hm rfl isAgg86 sizeOf86 ⟨aM,rfl,hm.pk [3,2] rfl rfl⟩))))))
  refine gcf rfl (gSk (gS (gJg (λaA a w=>∃ (aG:Nat) (aQ aH:Value),GT.rep hz [aQ] (aA.2.1)∧GT.rep hz [aH] (aA.2.2.1)∧St 99 [(0,(pV bp0)),(4,(pV aD)),(6,(pV aG))] w0 hz [blk aD [nV 0,nV 0,(tV (mkS [])),.slice none 0 0] 86,blk aG [(tV aA.1),aQ,aH] 54,blk bp100 [v3p,nV aA.2.2.2] 77] a w) (λaA=>?_) ?_)))
  ·refine gW (.p 0 (.p 1 (.p 2 (.p 4 (.p 5 (.p 6 (.p 8 (.p 9 (.p 10 (.q 3 (.q 7 (.q 11 (.p 12 (.e 13 (.p 14 (.e 15 (.e 16 (.e 17 .fin .nil) .nil) (.e 16 (.e 15 (.e 17 .fin .nil) .nil) .nil))) (.e 16 (.e 13 (.p 14 (.e 15 (.e 17 .fin .nil) .nil)) .nil) .nil))))))))))))))) [3, 7, 11, 13, 16] [0, 1, 2, 4, 5, 6, 8, 9, 10, 12, 14] hm [0, 1, 2] [_, _, _] rfl mxo (by kernel_rfl) (fun _ _ _ h => h.2) fun w hm hS => tP rfl (fun w => yM rfl) (tP rfl (fun w => yG rfl (fI rfl rfl)) (tP rfl (fun w => yF oz rfl) (tP rfl (fun w => yM rfl) (tP rfl (fun w => yG rfl (fI rfl rfl)) (tP rfl (fun w => yF lE rfl) (tP rfl (fun w => yM rfl) (tP rfl (fun w => yG rfl (fI rfl rfl)) (tP rfl (fun w => yF oz rfl) (tQ rfl hS (fun w hm => yl isAgg24 (hm.hz_cell hbbp0 rfl) rfl) (tQ rfl hS (fun w hm => yl isAgg41 (hm.hz_cell hbbp0 rfl) rfl) (tQ rfl hS (fun w hm => yl isAgg24 (hm.hz_cell hbbp0 rfl) rfl) ?_)))))))))))
   obtain ⟨bq,br,rfl,bs⟩:=fE h1p
   refine tP rfl (λw=>yV jW rfl) (gb λbt ac=>gb λbu ae=>tMo ?_ ?_)
   ·obtain ⟨bD, hle, hm1, hsub, bE⟩ := hm.take2 (L1 := [_]) (L2 := [_, _, _]) [3] [0, 1, 2] (by decide) rfl rfl
    refine tf rfl rfl (λa hf=>fo hf rfl call18 rfl (fR _ bD (⟨gRd.b,aI.2⟩:fG) bp100 v3p (GT.mono hle h3p) (g.fns.length:Int) hm1  _ ac)) ?_
    rintro bv w ⟨rfl,hB⟩
    replace hm:=bE _ _ hB;clear hB
    refine tAk hm [1,2,3] rfl λhS=>?_
    obtain ⟨bF,aV⟩:=nL.1 ae
    obtain ⟨bw,bz,cA,he⟩:=fp h1p aV
    obtain ⟨rfl,_,rfl⟩:=sl3 he
    obtain ⟨af,ag,ah,aR,aS⟩:=oK h1p aV
    refine tP rfl (λw=>yI jW bF (ff aV) rfl) (tMo ?_ ?_)
    ·refine tY rfl (yn (ah.mono hm.lez) isAgg54 sizeOf54 rfl) (tAn rfl (tO (tf rfl rfl (λa hf=>iQ hm zeroValue54 rfl rfl) ?_)))
     rintro _ w ⟨bG,rfl,hm⟩
     refine tAk hm [2,3,4] rfl λhS=>tO (tf0 rfl rfl (λa hf=>j7 0 hf hm rfl sizeOf54 rfl rfl rfl (et rfl (et (fS aR) (et (fS aS) fK))) rfl rfl) ?_)
     rintro _ w hm
     exact tAn rfl (tE (gZ λa hf=>⟨bG,af,ag,aR,aS,hf.sb rfl,hm.pk [2,0,1] rfl rfl⟩))
    refine tO (tf rfl rfl (λa hf=>iQ hm zeroValue54 rfl rfl) ?_)
    rintro _ w ⟨bH,rfl,hm⟩
    refine tAk hm [2,3,4] rfl λhS=>tO (tY rfl (yn (ah.mono hm.lez) isAgg54 sizeOf54 rfl) (tAn rfl (tO (tf0 rfl rfl (λa hf=>j7 0 hf hm rfl sizeOf54 rfl rfl rfl (et rfl (et (fS aR) (et (fS aS) fK))) rfl rfl) ?_))))
    rintro _ w hm
    exact tAn rfl (tE (gZ λa hf=>⟨bH,af,ag,aR,aS,hf.sb rfl,hm.pk [2,0,1] rfl rfl⟩))
   refine tO (tf rfl rfl (λa hf=>iQ hm zeroValue54 rfl rfl) ?_)
   rintro _ w ⟨bJ,rfl,hm⟩
   refine tAk hm [1,2,3] rfl λhS=>tO ?_
   obtain ⟨bK,hle,hm1,hsub,bL⟩:=hm.take2 (L1:=[_]) (L2:=[_,_,_,_]) [4] [0,1,2,3] (by decide) rfl rfl
   refine tf rfl rfl (λa hf=>fo hf rfl call18 rfl (fR _ bK (⟨gRd.b,aI.2⟩:fG) bp100 v3p (GT.mono hle h3p) (g.fns.length:Int) hm1  _ ac)) ?_
   rintro cC w ⟨rfl,hB⟩
   replace hm:=bL _ _ hB;clear hB
   refine tAk hm [2,3,4] rfl λhS=>?_
   obtain ⟨bM,aX⟩:=nL.1 ae
   obtain ⟨cD,cE,cF,he⟩:=fp h1p aX
   obtain ⟨rfl,_,rfl⟩:=sl3 he
   obtain ⟨bN,bO,bP,ai,aj⟩:=oK h1p aX
   refine tP rfl (λw=>yI jW bM (ff aX) rfl) (tO (tY rfl (yn (bP.mono hm.lez) isAgg54 sizeOf54 rfl) (tAn rfl (tO (tf0 rfl rfl (λa hf=>j7 1 hf hm rfl sizeOf54 rfl rfl rfl (et rfl (et (fS ai) (et (fS aj) fK))) rfl rfl) ?_)))))
   rintro _ w hm
   exact tAn rfl (tE (gZ λa hf=>⟨bJ,bN,bO,ai,aj,hf.sb rfl,hm.pk [2,1,0] rfl rfl⟩))
  repeat clear hm
  rintro aA a w ⟨aG,aQ,aH,ak,cG,hf,hm⟩
  refine gv hf (gS (gR (gF oT rfl (gL hm 1 isAgg9 rfl (gY (yG rfl (fY (vs:=[(0,(nV 13)),(2,(tV aA.1))]) (cs:=#[nV 13,nV 0,(tV aA.1),.slice none 0 0]) rfl rfl (by kernel_rfl))) (gAl hm zeroValue86 rfl λaJ w hm=>gSN hm 0 sizeOf86 (et rfl (et rfl (et rfl (et rfl fK)))) rfl λw hm=>gE (gS (gS (gR (gA rfl (gE (gBk ?_))))))))))))
  replace hm:=hm.nilow (α:=ey)
  refine gNg (λal aK a w=>∃ (aL:Value),St 99 [(0,(pV bp0)),(4,(pV aD)),(6,(pV aG)),(7,(pV aJ)),(8,(nV al))] w0 hz [blk aD [nV 0,nV 0,(tV (mkS [])),.slice none 0 0] 86,blk aG [(tV aA.1),aQ,aH] 54,blk aJ [nV 13,nV 0,(tV aA.1),aL] 86,ow [aL] aK.1,blk bp100 [v3p,nV aK.2] 77] a w) (λa hf=>⟨.slice none 0 0,hf.sb rfl,hm.pk [2,3,1,0,4] rfl rfl⟩) ?_ ?_
  ·repeat clear hm
   rintro _ _ al aK a w ⟨aL,hf,hm⟩ cH cI cJ _
   refine gv hf (gS (gS (gR (gM rfl (gF kE rfl (gL hm 1 isAgg47 rfl ?_))))))
   obtain ⟨am,an,rfl,cK⟩:=fE ak
   refine gY (yV jO rfl) (gB rfl (gE (go _ 57 rfl (decide_eq_true (by omega)) (gct rfl (gSk (gS (gBk (gW (.p 0 (.p 2 (.p 3 (.p 4 (.p 6 (.p 7 (.p 8 (.q 1 (.q 5 (.e 9 (.e 10 (.e 11 (.e 12 (.p 13 (.e 14 .fin .nil)) .nil) .nil) .nil) .nil)))))))))) [1,5,9,10,11] [0,2,3,4,6,7,8,13] hm [0,1,2,3] [blk aD [nV 0,nV 0,(tV (mkS [])),.slice none 0 0] 86,blk aG [(tV aA.1),.slice am aA.2.1.length an,aH] 54,blk aJ [nV 13,nV 0,(tV aA.1),aL] 86,ow [aL] aK.1] rfl mxo (by kernel_rfl) (λ_ _ _ h=>h.2) λw hm hS=>tP rfl (λw=>yF iT rfl) (tP rfl (λw=>yM rfl) (tP rfl (λw=>yG rfl (fI rfl rfl)) (tP rfl (λw=>yF lE rfl) (tP rfl (λw=>yM rfl) (tP rfl (λw=>yG rfl (fI rfl rfl)) (tP rfl (λw=>yF mQ rfl) (tQ rfl hS (λw hm=>yL hm 2 isAgg69 rfl) (tQ rfl hS (λw hm=>yl isAgg41 (hm.hz_cell hbbp0 rfl) rfl) (tO (tY rfl (yl isAgg47 (hm.hz_cell hbbp0 rfl) rfl) (tAs hS (tO (gb λaC bQ=>?_)))))))))))))))))))))
   obtain ⟨bR,hle,hm1,hsub,bS⟩:=hm.take2 (L1:=[_]) (L2:=[_,_,_,_]) [4] [0,1,2,3] (by decide) rfl rfl
   refine tf rfl rfl (λa hf=>fo hf rfl call111 rfl (nX _ bR (⟨gRd.b,aK.2⟩:fG) bp100 v3p (GT.mono hle h3p) g.vars v2p (GT.mono hle h2p) 2 hm1  _ bQ)) ?_
   rintro cL w ⟨aT,rfl,hB⟩
   replace hm:=bS _ _ hB;clear hB
   refine tAk hm [2,3,4,5] rfl λhS=>tO (tf rfl rfl (λa hf=>fL (vs:=#[(0,(.agg #[nV aC.1.op,nV aC.1.n_,(tV aC.1.name),aT]))]) (cs:=[nV aC.1.op,nV aC.1.n_,(tV aC.1.name),aT]) jl hf hm rfl rfl (by kernel_rfl) rfl rfl) ?_)
   rintro _ w ⟨bT,rfl,hm⟩
   replace hm:=hm.els_nil (α:=ey)
   replace hm:Mem w0 hz _ [els [] ([]:List ey),blk bT [nV aC.1.op,nV aC.1.n_,(tV aC.1.name),aT] 86,blk bp100 [v3p,nV aC.2.p] 77,ow [nV aC.1.op,nV aC.1.n_,(tV aC.1.name),aT] (aC.1:ey),blk aD [nV 0,nV 0,(tV (mkS [])),.slice none 0 0] 86,blk aG [(tV aA.1),.slice am aA.2.1.length an,aH] 54,blk aJ [nV 13,nV 0,(tV aA.1),aL] 86,ow [aL] aK.1]:=iM aC.1 hm 3 rfl
   replace hm:=(hm.els_cons 0 3 (by decide) rfl rfl).pk (L':=[_,_,_,_,_,_,_]) [0,1,2,4,5,6,7] rfl rfl
   replace hm:=(hm.lit_els 1 0 (by decide) rfl rfl rfl rfl).pk (L':=[_,_,_,_,_,_]) [1,2,3,4,5,6] rfl rfl
   refine tAk hm [2,3,4,5] rfl λhS=>tO (gb λcN bU=>?_)
   obtain ⟨bV,bW⟩:=fV.1 bU
   replace hm:=(hm.both 5 0 (by decide) rfl rfl).pk (L':=[_,_,_,_,_]) [1,2,3,4,5] rfl rfl
   refine tf rfl rfl (λa hf=>hZ (xs:=aK.1) (ys:=([aC.1]:List ey)) 4 jl hf hm rfl rfl rfl rfl bV) ?_
   rintro bX w hm
   rw [bW] at hm
   refine tAn rfl (tP rfl (λw=>yF iT rfl) (tO (tf0 rfl rfl (λa hf=>jw 3 hf hm rfl sizeOf69 rfl rfl rfl (fS (hm.ow_rep 4 rfl)) rfl) ?_)))
   rintro _ w hm
   exact tAn rfl (tE (gR (gM rfl (gP (by omega) (by omega) rfl (gA rfl (gE (gZe λa hf=>⟨bX,hf.sb rfl,hm.pk [1,2,3,4,0] rfl rfl⟩)))))))
  repeat clear hm
  rintro cO aU a w ⟨aF,hf,hm⟩ cP cQ
  refine gv hf (gS (gS (gR (gM rfl (gF kE rfl (gL hm 1 isAgg47 rfl ?_))))))
  obtain ⟨aY,aZ,rfl,cR⟩:=fE ak
  refine gY (yV jO rfl) (gB rfl (gE (go _ 57 rfl (decide_eq_false (by omega)) (gcf rfl (gXt (gHh (gS (gS (gR (gM rfl (gY (yG rfl (fI rfl rfl)) (gF lE rfl (gY (yl isAgg41 (hm.hz_cell hbbp0 rfl) rfl) ?_)))))))))))))
  obtain ⟨bY,hle,hm1,hsub,bZ⟩:=hm.take2 (L1:=[_]) (L2:=[_,_,_,_]) [4] [0,1,2,3] (by decide) rfl rfl
  refine gCg rfl call18 (fR _ bY (⟨gRd.b,aU.2⟩:fG) bp100 v3p (GT.mono hle h3p) 2 hm1 ) ?_
  rintro b8 cS cT w ⟨rfl,hB⟩
  replace hm:=bZ _ _ hB;clear hB
  refine gB rfl (gE (gsd 79 rfl (λb9=>?_) λb9=>?_))
  ·exact gct rfl (gS (gR (gY (yn (hm.blk_at 3 rfl) isAgg86 sizeOf86 rfl) (gSN hm 1 sizeOf86 (et rfl (et rfl (et rfl (et (fS (hm.ow_rep 4 rfl)) fK)))) rfl λw hm=>gE (gRt (grc 1 results83 hm rfl isAgg86 sizeOf86 ⟨aF,rfl,hm.pk [0,4] rfl rfl⟩))))))
  refine gcf rfl (gSk (gS (gW (.p 0 (.p 1 (.p 2 (.p 7 (.p 8 (.p 9 (.p 11 (.p 12 (.p 13 (.q 3 (.q 6 (.q 10 (.q 14 (.e 4 (.e 5 (.e 15 (.e 16 (.p 17 (.e 18 .fin .nil)) .nil) .nil) .nil) .nil)))))))))))))) [3,4,5,6,10,14,15] [0,1,2,7,8,9,11,12,13,17] hm [1,2,3,4] [blk aD [nV 0,nV 0,(tV (mkS [])),.slice none 0 0] 86,blk aG [(tV aA.1),.slice aY aA.2.1.length aZ,aH] 54,blk aJ [nV 13,nV 0,(tV aA.1),aF] 86,ow [aF] aU.1] rfl mxo (by kernel_rfl) (λ_ _ _ h=>h.2) λw hm hS=>tP rfl (λw=>yM rfl) (tP rfl (λw=>yG rfl (fI rfl rfl)) (tP rfl (λw=>yF lE rfl) (tP rfl (λw=>yM rfl) (tP rfl (λw=>yG rfl (fI rfl rfl)) (tP rfl (λw=>yF lE rfl) (tP rfl (λw=>yM rfl) (tP rfl (λw=>yG rfl (fI rfl rfl)) (tP rfl (λw=>yF mQ rfl) (tQ rfl hS (λw hm=>yl isAgg41 (hm.hz_cell hbbp0 rfl) rfl) (tQ rfl hS (λw hm=>yn (hm.blk_at 2 rfl) isAgg86 sizeOf86 rfl) (tQ rfl hS (λw hm=>yl isAgg41 (hm.hz_cell hbbp0 rfl) rfl) (tQ rfl hS (λw hm=>yl isAgg47 (hm.hz_cell hbbp0 rfl) rfl) (tO (tf rfl rfl (λa hf=>fL (vs:=#[(0,(nV 3)),(1,(nV 4)),(2,(nV 8)),(3,(nV 10))]) (cs:=[nV 3,nV 4,nV 8,nV 10]) oh hf hm rfl rfl (by kernel_rfl) rfl rfl) ?_)))))))))))))))))
  rintro _ w ⟨a8,rfl,hm⟩
  replace hm:=hm.lit (xs:=([3,4,8,10]:List Int)) 0 rfl rfl rfl rfl
  refine tAk hm [2,3,4,5] rfl λhS=>tO (gb λaa ba=>?_)
  obtain ⟨bb,hle,hm1,hsub,bc⟩:=hm.take2 (L1:=[_]) (L2:=[_,_,_,_,_]) [1] [0,2,3,4,5] (by decide) rfl rfl
  refine tf rfl rfl (λa hf=>fo hf rfl call45 rfl (gV _ bb (⟨gRd.b,b8.2.p⟩:fG) bp100 v3p (GT.mono hle h3p) ([3,4,8,10]:List Int) (sV a8 0 4 4) (kZ (hsub 0 _ rfl)) hm1  _ ba)) ?_
  rintro cU w ⟨rfl,hB⟩
  replace hm:=bc _ _ hB;clear hB
  refine tAk hm [2,3,4,5] rfl λhS=>tO (gb λaB bd=>?_)
  obtain ⟨be,hle,hm1,hsub,bf⟩:=hm.take2 (L1:=[_]) (L2:=[_,_,_,_,_]) [0] [1,2,3,4,5] (by decide) rfl rfl
  refine tf rfl rfl (λa hf=>fo hf rfl call111 rfl (nX _ be (⟨gRd.b,aa.2.p⟩:fG) bp100 v3p (GT.mono hle h3p) g.vars v2p (GT.mono hle h2p) 2 hm1  _ bd)) ?_
  rintro cV w ⟨aN,rfl,hB⟩
  replace hm:=bf _ _ hB;clear hB
  refine tAk hm [3,4,5,6] rfl λhS=>tO (tf rfl rfl (λa hf=>fL (vs:=#[(0,(.agg #[nV 13,nV 0,(tV aA.1),aF])),(1,(.agg #[nV aB.1.op,nV aB.1.n_,(tV aB.1.name),aN]))]) (cs:=[nV 13,nV 0,(tV aA.1),aF,nV aB.1.op,nV aB.1.n_,(tV aB.1.name),aN]) jl hf hm rfl rfl (by kernel_rfl) rfl rfl) ?_)
  rintro _ w ⟨aP,rfl,hm⟩
  replace hm:=hm.els_nil (α:=ey)
  replace hm:Mem w0 hz _ [els [] ([]:List ey),blk aP [nV 13,nV 0,(tV aA.1),aF,nV aB.1.op,nV aB.1.n_,(tV aB.1.name),aN] 86,blk bp100 [v3p,nV aB.2.p] 77,ow [nV aB.1.op,nV aB.1.n_,(tV aB.1.name),aN] (aB.1:ey),ow [sV a8 0 4 4] ([3,4,8,10]:List Int),blk aD [nV 0,nV 0,(tV (mkS [])),.slice none 0 0] 86,blk aG [(tV aA.1),.slice aY aA.2.1.length aZ,aH] 54,blk aJ [nV 13,nV 0,(tV aA.1),aF] 86,ow [aF] aU.1]:=iM aB.1 hm 3 rfl
  replace hm:=(hm.els_cons 0 3 (by decide) rfl rfl).pk (L':=[_,_,_,_,_,_,_,_]) [0,1,2,4,5,6,7,8] rfl rfl
  replace hm:Mem w0 hz _ [els [nV aB.1.op,nV aB.1.n_,(tV aB.1.name),aN] ([aB.1]:List ey),blk aP [nV 13,nV 0,(tV aA.1),aF,nV aB.1.op,nV aB.1.n_,(tV aB.1.name),aN] 86,blk bp100 [v3p,nV aB.2.p] 77,ow [sV a8 0 4 4] ([3,4,8,10]:List Int),blk aD [nV 0,nV 0,(tV (mkS [])),.slice none 0 0] 86,blk aG [(tV aA.1),.slice aY aA.2.1.length aZ,aH] 54,blk aJ [nV 13,nV 0,(tV aA.1),aF] 86,ow [nV 13,nV 0,(tV aA.1),aF] ((⟨13,0,aA.1,aU.1⟩:ey):ey)]:=lC 13 0 aA.1 hm 7 rfl
  replace hm:=(hm.els_cons 0 7 (by decide) rfl rfl).pk (L':=[_,_,_,_,_,_,_]) [0,1,2,3,4,5,6] rfl rfl
  replace hm:=(hm.lit_els 1 0 (by decide) rfl rfl rfl rfl).pk (L':=[_,_,_,_,_,_]) [1,2,3,4,5,6] rfl rfl
  refine tAn rfl (tP rfl (λw=>yG rfl (fY (vs:=[(0,(nV aa.1)),(3,(sV aP 0 2 2))]) (cs:=#[nV aa.1,nV 0,(tV (mkS [])),sV aP 0 2 2]) rfl rfl (by kernel_rfl))) (tO (tf0 rfl rfl (λa hf=>j7 3 hf hm rfl sizeOf86 rfl rfl rfl (et rfl (et rfl (et rfl (et rfl fK)))) rfl rfl) ?_)))
  rintro _ w hm
  exact tAn rfl (tE (gRt (grc 3 results83 hm rfl isAgg86 sizeOf86 ⟨sV aP 0 2 2,rfl,hm.pk [1,0] rfl rfl⟩)))
theorem qW (w0:World) (hz:fU) (g:ft) (bp100:Nat) (bp0:Nat) (v1p:Value) (h1p:GT.rep hz [v1p] g.fns) (v2p:Value) (h2p:GT.rep hz [v2p] g.vars) (gRd:fG) (v3p:Value) (h3p:GT.rep hz [v3p] gRd.b) (hm0:Mem w0 hz w0 [blk bp0 [(pV bp100),v1p,v2p,nV g.next_,nV g.left] 83,blk bp100 [v3p,nV gRd.p] 77]) :
    iF Tryz.prog 149 [(pV bp0)] w0 (kn g gRd) λr v w'=>v=(tV r.1)∧Mem w0 hz w' [blk bp0 [(pV bp100),v1p,v2p,nV r.2.1.next_,nV r.2.1.left] 83,blk bp100 [v3p,nV r.2.2.p] 77]:=by
  unfold kn
  refine iR func149 rfl λr=>?_
  have hm:=hm0
  refine gS (gR (gA rfl (gE (gS (gR (gM rfl (gM rfl (gY (yG rfl (fI rfl rfl)) (gF rv rfl (gL hm 0 isAgg3 rfl (gB rfl (gY (yG rfl (fI rfl rfl)) (gF rv rfl (gS1 hm 0 sizeOf3 rfl rfl λw hm=>gE (gS (gS (gJ hm (λaA=>[(0,(pV bp0)),(24,(.bool (aA.2)))]) (λaA=>[blk bp0 [(pV bp100),v1p,v2p,nV (w64 (g.next_+1)),nV g.left] 83,blk bp100 [v3p,nV aA.1] 77]) (λaA=>?_) ?_)))))))))))))))))
  ·refine gR (gM rfl (gY (yG rfl (fI rfl rfl)) (gF lE rfl (gL hm 0 isAgg41 rfl ?_))))
   obtain ⟨aB,hle,hm1,hsub,aC⟩:=hm.take2 (L1:=[_]) (L2:=[_]) [1] [0] (by decide) rfl rfl
   refine gCg rfl call18 (fR _ aB gRd bp100 v3p (GT.mono hle h3p) 9 hm1 ) ?_
   rintro aL aM aN w ⟨rfl,hB⟩
   replace hm:=aC _ _ hB;clear hB
   refine gB rfl (gM rfl (gsd 17 rfl (λaD=>?_) λaD=>?_))
   ·refine gM rfl (gY (yG rfl (fI rfl rfl)) (gF mQ rfl (gL hm 1 isAgg47 rfl ?_)))
    obtain ⟨aO,aP,rfl,aQ⟩:=fE h2p
    exact gY (yV jO rfl) (gB rfl (gKt rfl (gE (gz hm [1,0] rfl))))
   exact gO rfl (gO rfl (gO rfl (gO rfl (gO rfl (gO rfl (gKf rfl (gE (gz hm [1,0] rfl))))))))
  repeat clear hm
  intro aA w hm
  refine gs 24 rfl (λaE=>?_) λaE=>?_
  ·refine gct rfl (gS (gW (.p 0 (.p 1 (.p 2 (.p 4 (.p 5 (.p 6 (.q 3 (.e 7 (.e 8 (.p 9 .fin) .nil) .nil)))))))) [7] [0, 1, 2, 4, 5, 6, 9] hm [0, 1] [blk bp0 [(pV bp100), v1p, v2p, nV (w64 (g.next_ + 1)), nV g.left] 83, blk bp100 [v3p, nV aA.1] 77] rfl mxo (by kernel_rfl) (fun _ _ _ h => h.2) fun w hm hS => tP rfl (fun w => yM rfl) (tP rfl (fun w => yG rfl (fI rfl rfl)) (tP rfl (fun w => yF lE rfl) (tP rfl (fun w => yM rfl) (tP rfl (fun w => yG rfl (fI rfl rfl)) (tP rfl (fun w => yF mQ rfl) (tQ rfl hS (fun w hm => yL hm 0 isAgg41 rfl) (tO (tY rfl (yL hm 0 isAgg47 rfl) (tAs hS (tO (gb fun aR aF => ?_)))))))))))))
   obtain ⟨aG,hle,hm1,hsub,aH⟩:=hm.take2 (L1:=[_]) (L2:=[_]) [1] [0] (by decide) rfl rfl
   refine tf rfl rfl (λa hf=>fo hf rfl call19 rfl (ig _ aG (⟨gRd.b,aA.1⟩:fG) bp100 v3p (GT.mono hle h3p) g.vars v2p (GT.mono hle h2p) hm1  _ aF)) ?_
   rintro aS w ⟨rfl,hB⟩
   replace hm:=aH _ _ hB;clear hB
   exact tAn rfl (tP rfl (λw=>yA rfl) (tE (gRt (gr1 results149 rfl ⟨rfl,hm.pk [1,0] rfl rfl⟩))))
  refine gcf rfl (gSk (gS (gW (.p 0 (.p 1 (.p 2 (.p 5 (.p 6 (.p 7 (.q 3 (.p 4 (.e 8 (.p 9 (.p 10 (.p 11 (.p 12 .fin)))) .nil))))))))) [8] [0,1,2,4,5,6,7,9,10,11,12] hm [0,1] [blk bp0 [(pV bp100),v1p,v2p,nV (w64 (g.next_+1)),nV g.left] 83,blk bp100 [v3p,nV aA.1] 77] rfl mxo (by kernel_rfl) (λ_ _ _ h=>h.2) λw hm hS=>tP rfl (λw=>yM rfl) (tP rfl (λw=>yG rfl (fI rfl rfl)) (tP rfl (λw=>yF rv rfl) (tP rfl (λw=>yM rfl) (tP rfl (λw=>yG rfl (fI rfl rfl)) (tP rfl (λw=>yF rv rfl) (tQ rfl hS (λw hm=>yL hm 0 isAgg3 rfl) (tP rfl (λw=>yG rfl (u9 rfl rfl rfl (by decide))) (tO (tY rfl (yL hm 0 isAgg3 rfl) (tAs hS (tP rfl (λw=>yG rfl (u9 rfl rfl rfl (by decide))) (tP rfl (λw=>yB rfl) (gb λaT aI=>?_))))))))))))))))
  obtain ⟨aJ,aK⟩:=ky.1 aI
  refine tP rfl (λw=>yG rfl (vu (s:=(mkS [97,98,99,100,101,103,104,105,106,107,108,109,110,112,113,114,115,116,117,118,119,120,121,122])) underlying9 rfl rfl rfl rfl aJ _)) ?_
  rw [aK]
  exact tP rfl (λw=>yA rfl) (tE (gRt (gr1 results149 rfl ⟨rfl,hm.pk [0,1] rfl rfl⟩)))
theorem oN (w0:World) (hz:fU) (g:ft) (bp100:Nat) (bp0:Nat) (v1p:Value) (h1p:GT.rep hz [v1p] g.fns) (v2p:Value) (h2p:GT.rep hz [v2p] g.vars) (gRd:fG) (v3p:Value) (h3p:GT.rep hz [v3p] gRd.b) (e:ey) (v1:Value) (hm0:Mem w0 hz w0 [blk bp0 [(pV bp100),v1p,v2p,nV g.next_,nV g.left] 83,blk bp100 [v3p,nV gRd.p] 77,ow [v1] e.kids]) :
    iF Tryz.prog 130 [(pV bp0),(.agg #[nV e.op,nV e.n_,(tV e.name),v1])] w0 (ki g gRd e) λr v w'=>∃ (x1:Value) (x2:Value) (x3:Value) (x5:Value),v=(.agg #[nV r.1.op,(tV r.1.name),x1,x2,x3])∧Mem w0 hz w' [blk bp0 [(pV bp100),v1p,x5,nV r.2.1.next_,nV r.2.1.left] 83,blk bp100 [v3p,nV r.2.2.p] 77,ow [x1] r.1.args,ow [x2] r.1.body,ow [x3] r.1.else_,opt v2p g.vars x5 r.2.1.vars]:=by
  unfold ki
  refine iR func130 rfl λr=>?_
  have hm:=hm0
  replace hm:=hm.opt_new v2p g.vars
  refine gS (gR (gBx hm rfl λaD w hm=>gAl hm zeroValue71 rfl λaE w hm=>gE (gS (gR (gM rfl ?_)))))
  obtain ⟨aF,hle,hm1,hsub,aG⟩:=hm.take2 (L1:=[_,_]) (L2:=[_,_,_,_]) [3,4] [0,1,2,5] (by decide) rfl rfl
  refine gCg rfl call149 (qW _ aF g bp100 bp0 v1p (GT.mono hle h1p) v2p (GT.mono hle h2p) gRd v3p (GT.mono hle h3p) hm1 ) ?_
  rintro aA aP aQ w ⟨rfl,hB⟩
  replace hm:=aG _ _ hB;clear hB
  refine gA rfl (gE (gS (gR (gM rfl (gf rfl (λa hf=>ko (α:=Str) lK hm rfl) ?_)))))
  rintro aR w hm
  refine gM rfl (gY (yG rfl (fI rfl rfl)) (gF mQ rfl (gL hm 1 isAgg47 rfl (gb λaS aH=>?_))))
  obtain ⟨aI,aJ⟩:=fV.1 aH
  refine gf rfl (λa hf=>iL 0 lK hf hm rfl (hm.now h2p) rfl rfl rfl aI) ?_
  rintro aT w hm
  rw [aJ] at hm
  refine gM rfl (gf rfl (λa hf=>fL (vs:=#[(0,(tV aA.1))]) (cs:=[(tV aA.1)]) lK hf hm rfl rfl (by kernel_rfl) rfl rfl) ?_)
  rintro _ w ⟨aK,rfl,hm⟩
  replace hm:=hm.lit (xs:=([aA.1]:List Str)) 0 rfl rfl rfl rfl
  refine gb λaL aM=>?_
  obtain ⟨aN,aO⟩:=fV.1 aM
  refine gf rfl (λa hf=>iL 1 lK hf hm rfl (hm.ow_rep 0 rfl) rfl rfl rfl aN) ?_
  rintro aC w hm
  rw [aO] at hm
  refine gY (yG rfl (fI rfl rfl)) (gF mQ rfl ?_)
  replace hm:=(hm.opt_own 6 1 (by decide) rfl rfl).pk (L':=[_,_,_,_,_,_,_]) [0,2,3,4,5,6,7] rfl rfl
  refine gS1 hm 1 sizeOf47 (fS (hm.opt_rep 5 rfl h2p)) rfl λw hm=>gE (gS (gR (gM rfl (gY (yn (hm.blk_at 4 rfl) isAgg86 sizeOf86 rfl) (gf rfl (λa hf=>fL (vs:=#[(0,(.agg #[nV e.op,nV e.n_,(tV e.name),v1]))]) (cs:=[nV e.op,nV e.n_,(tV e.name),v1]) jl hf hm rfl rfl (by kernel_rfl) rfl rfl) ?_)))))
  rintro _ w ⟨aB,rfl,hm⟩
  replace hm:=hm.els_nil (α:=ey)
  replace hm:Mem w0 hz _ [els [] ([]:List ey),blk aB [nV e.op,nV e.n_,(tV e.name),v1] 86,ow [sV aK 0 1 1] ([aA.1]:List Str),blk bp0 [(pV bp100),v1p,aC,nV aA.2.1.next_,nV aA.2.1.left] 83,blk bp100 [v3p,nV aA.2.2.p] 77,blk aE [nV 0,(tV (mkS [])),.slice none 0 0,.slice none 0 0,.slice none 0 0] 71,blk aD [nV e.op,nV e.n_,(tV e.name),v1] 86,opt v2p g.vars aC aL,ow [nV e.op,nV e.n_,(tV e.name),v1] (e:ey)]:=iM e hm 8 rfl
  replace hm:=(hm.els_cons 0 8 (by decide) rfl rfl).pk (L':=[_,_,_,_,_,_,_,_]) [0,1,2,3,4,5,6,7] rfl rfl
  replace hm:=(hm.lit_els 1 0 (by decide) rfl rfl rfl rfl).pk (L':=[_,_,_,_,_,_,_]) [1,2,3,4,5,6,7] rfl rfl
  refine gY (yG rfl (fY (vs:=[(0,(nV 1)),(1,(tV aA.1)),(2,(sV aB 0 1 1))]) (cs:=#[nV 1,(tV aA.1),sV aB 0 1 1,.slice none 0 0,.slice none 0 0]) rfl rfl (by kernel_rfl))) (gSN hm 4 sizeOf71 (et rfl (et rfl (et rfl (et rfl (et rfl fK))))) rfl λw hm=>gE (gRt ?_))
  replace hm:=hm.nilow (α:=fB)
  replace hm:=hm.nilow (α:=fB)
  exact grc 6 results130 hm rfl isAgg71 sizeOf71 ⟨sV aB 0 1 1,.slice none 0 0,.slice none 0 0,aC,rfl,hm.pk [4,5,2,1,0,8] rfl rfl⟩
theorem oD (w0:World) (hz:fU) (g:ft) (bp100:Nat) (bp0:Nat) (v1p:Value) (h1p:GT.rep hz [v1p] g.fns) (v2p:Value) (h2p:GT.rep hz [v2p] g.vars) (hbbp0:hz bp0=some (.cells ([(pV bp100),v1p,v2p,nV g.next_,nV g.left]:List Value).toArray 83 (0,0))) (gRd:fG) (v3p:Value) (h3p:GT.rep hz [v3p] gRd.b) (hm0:Mem w0 hz w0 [blk bp100 [v3p,nV gRd.p] 77]) :
    iF Tryz.prog 131 [(pV bp0)] w0 (kO g gRd) λr v w'=>∃ (x1:Value),v=(.agg #[nV r.1.op,nV r.1.n_,(tV r.1.name),x1])∧Mem w0 hz w' [blk bp100 [v3p,nV r.2.p] 77,ow [x1] r.1.kids]:=by
  unfold kO
  refine iR func131 rfl λr=>?_
  have hm:=hm0
  refine gS (gR (gAl hm zeroValue86 rfl λaC w hm=>gE (gS (gJg (λaH a w=>∃ (aI:Value),St 14 [(2,(pV aC))] w0 hz [blk aC [nV 7,nV 0,(tV (mkS [])),aI] 86,ow [aI] aH.1,blk bp100 [v3p,nV aH.2] 77] a w) (λaH=>?_) ?_))))
  ·refine gW (.p 0 (.p 2 (.p 3 (.p 4 (.q 5 (.e 1 (.e 6 (.e 7 (.p 8 (.e 9 (.p 10 (.e 11 .fin .nil)) .nil)) .nil) .nil) (.e 6 (.e 1 (.e 7 (.p 8 (.e 9 (.p 10 (.e 11 .fin .nil)) .nil)) .nil) .nil) .nil))))))) [1, 6] [0, 2, 3, 4, 8, 10] hm [0] [_] rfl mxo (by kernel_rfl) (fun _ _ _ h => h.2) fun w hm hS => tP rfl (fun w => yM rfl) (tP rfl (fun w => yM rfl) (tP rfl (fun w => yG rfl (fI rfl rfl)) (tP rfl (fun w => yF lE rfl) (tQ rfl hS (fun w hm => yl isAgg41 (hm.hz_cell hbbp0 rfl) rfl) (gb fun aA aL => gb fun aB aM => tMo ?_ ?_)))))
   ·obtain ⟨aN, hle, hm1, hsub, aO⟩ := hm.take2 (L1 := [_]) (L2 := [_]) [1] [0] (by decide) rfl rfl
    refine tf rfl rfl (λa hf=>fo hf rfl call83 rfl (iV _ aN g bp100 bp0 v1p (GT.mono hle h1p) v2p (GT.mono hle h2p) (hle _ _ ((fU.le_refl _) _ _ hbbp0)) gRd v3p (GT.mono hle h3p) 2 hm1  _ aL)) ?_
    rintro aV w ⟨aD,rfl,hB⟩
    replace hm:=aO _ _ hB;clear hB
    refine tAk hm [2] rfl λhS=>tO (tf rfl rfl (λa hf=>fL (vs:=#[(0,(nV 16)),(1,(nV 16)),(2,(nV 16)),(3,(nV 8)),(4,(nV 17)),(5,(nV 0))]) (cs:=[nV 16,nV 16,nV 16,nV 8,nV 17,nV 0]) oh hf hm rfl rfl (by kernel_rfl) rfl rfl) ?_)
    rintro _ w ⟨aJ,rfl,hm⟩
    replace hm:=hm.lit (xs:=([16,16,16,8,17,0]:List Int)) 0 rfl rfl rfl rfl
    refine tAk hm [3] rfl λhS=>tO ?_
    obtain ⟨aP,hle,hm1,hsub,aQ⟩:=hm.take2 (L1:=[_]) (L2:=[_,_,_]) [1] [0,2,3] (by decide) rfl rfl
    refine tf rfl rfl (λa hf=>fo hf rfl call45 rfl (gV _ aP (⟨gRd.b,aA.2.p⟩:fG) bp100 v3p (GT.mono hle h3p) ([16,16,16,8,17,0]:List Int) (sV aJ 0 6 6) (kZ (hsub 0 _ rfl)) hm1  _ aM)) ?_
    rintro aX w ⟨rfl,hB⟩
    replace hm:=aQ _ _ hB;clear hB
    refine tAn rfl (tP rfl (λw=>yG rfl (fY (vs:=[(0,(nV 1)),(1,(nV aB.1))]) (cs:=#[nV 1,nV aB.1,(tV (mkS [])),.slice none 0 0]) rfl rfl (by kernel_rfl))) (tO (tf rfl rfl (λa hf=>fL (vs:=#[(0,(.agg #[nV aA.1.op,nV aA.1.n_,(tV aA.1.name),aD])),(1,(.agg #[nV 1,nV aB.1,(tV (mkS [])),.slice none 0 0]))]) (cs:=[nV aA.1.op,nV aA.1.n_,(tV aA.1.name),aD,nV 1,nV aB.1,(tV (mkS [])),.slice none 0 0]) jl hf hm rfl rfl (by kernel_rfl) rfl rfl) ?_)))
    rintro _ w ⟨aF,rfl,hm⟩
    replace hm:=hm.els_nil (α:=ey)
    replace hm:=hm.nilow (α:=ey)
    replace hm:Mem w0 hz _ [ow [nV 1,nV aB.1,(tV (mkS [])),.slice none 0 0] ((⟨1,aB.1,(mkS []),[]⟩:ey):ey),els [] ([]:List ey),blk aF [nV aA.1.op,nV aA.1.n_,(tV aA.1.name),aD,nV 1,nV aB.1,(tV (mkS [])),.slice none 0 0] 86,blk bp100 [v3p,nV aB.2.p] 77,ow [sV aJ 0 6 6] ([16,16,16,8,17,0]:List Int),ow [aD] aA.1.kids,blk aC [nV 0,nV 0,(tV (mkS [])),.slice none 0 0] 86]:=lC 1 aB.1 (mkS []) hm 0 rfl
    replace hm:=(hm.els_cons 1 0 (by decide) rfl rfl).pk (L':=[_,_,_,_,_,_]) [1,2,3,4,5,6] rfl rfl
    replace hm:Mem w0 hz _ [els [nV 1,nV aB.1,(tV (mkS [])),.slice none 0 0] ([(⟨1,aB.1,(mkS []),[]⟩:ey)]:List ey),blk aF [nV aA.1.op,nV aA.1.n_,(tV aA.1.name),aD,nV 1,nV aB.1,(tV (mkS [])),.slice none 0 0] 86,blk bp100 [v3p,nV aB.2.p] 77,ow [sV aJ 0 6 6] ([16,16,16,8,17,0]:List Int),ow [nV aA.1.op,nV aA.1.n_,(tV aA.1.name),aD] (aA.1:ey),blk aC [nV 0,nV 0,(tV (mkS [])),.slice none 0 0] 86]:=iM aA.1 hm 4 rfl
    replace hm:=(hm.els_cons 0 4 (by decide) rfl rfl).pk (L':=[_,_,_,_,_]) [0,1,2,3,5] rfl rfl
    replace hm:=(hm.lit_els 1 0 (by decide) rfl rfl rfl rfl).pk (L':=[_,_,_,_]) [1,2,3,4] rfl rfl
    refine tAn rfl (tP rfl (λw=>yG rfl (fY (vs:=[(0,(nV 7)),(3,(sV aF 0 2 2))]) (cs:=#[nV 7,nV 0,(tV (mkS [])),sV aF 0 2 2]) rfl rfl (by kernel_rfl))) (tO (tf0 rfl rfl (λa hf=>j7 3 hf hm rfl sizeOf86 rfl rfl rfl (et rfl (et rfl (et rfl (et rfl fK)))) rfl rfl) ?_)))
    rintro _ w hm
    exact tAn rfl (tE (gZ λa hf=>⟨sV aF 0 2 2,hf.sb rfl,hm.pk [3,0,1] rfl rfl⟩))
   refine tO (tf rfl rfl (λa hf=>fL (vs:=#[(0,(nV 16)),(1,(nV 16)),(2,(nV 16)),(3,(nV 8)),(4,(nV 17)),(5,(nV 0))]) (cs:=[nV 16,nV 16,nV 16,nV 8,nV 17,nV 0]) oh hf hm rfl rfl (by kernel_rfl) rfl rfl) ?_)
   rintro _ w ⟨aK,rfl,hm⟩
   replace hm:=hm.lit (xs:=([16,16,16,8,17,0]:List Int)) 0 rfl rfl rfl rfl
   refine tAk hm [1] rfl λhS=>tO ?_
   obtain ⟨aR,hle,hm1,hsub,aS⟩:=hm.take2 (L1:=[_]) (L2:=[_,_]) [2] [0,1] (by decide) rfl rfl
   refine tf rfl rfl (λa hf=>fo hf rfl call83 rfl (iV _ aR g bp100 bp0 v1p (GT.mono hle h1p) v2p (GT.mono hle h2p) (hle _ _ ((fU.le_refl _) _ _ hbbp0)) gRd v3p (GT.mono hle h3p) 2 hm1  _ aL)) ?_
   rintro aY w ⟨aE,rfl,hB⟩
   replace hm:=aS _ _ hB;clear hB
   refine tAk hm [3] rfl λhS=>tO ?_
   obtain ⟨aT,hle,hm1,hsub,aU⟩:=hm.take2 (L1:=[_]) (L2:=[_,_,_]) [0] [1,2,3] (by decide) rfl rfl
   refine tf rfl rfl (λa hf=>fo hf rfl call45 rfl (gV _ aT (⟨gRd.b,aA.2.p⟩:fG) bp100 v3p (GT.mono hle h3p) ([16,16,16,8,17,0]:List Int) (sV aK 0 6 6) (kZ (hsub 1 _ rfl)) hm1  _ aM)) ?_
   rintro aZ w ⟨rfl,hB⟩
   replace hm:=aU _ _ hB;clear hB
   refine tAn rfl (tP rfl (λw=>yG rfl (fY (vs:=[(0,(nV 1)),(1,(nV aB.1))]) (cs:=#[nV 1,nV aB.1,(tV (mkS [])),.slice none 0 0]) rfl rfl (by kernel_rfl))) (tO (tf rfl rfl (λa hf=>fL (vs:=#[(0,(.agg #[nV aA.1.op,nV aA.1.n_,(tV aA.1.name),aE])),(1,(.agg #[nV 1,nV aB.1,(tV (mkS [])),.slice none 0 0]))]) (cs:=[nV aA.1.op,nV aA.1.n_,(tV aA.1.name),aE,nV 1,nV aB.1,(tV (mkS [])),.slice none 0 0]) jl hf hm rfl rfl (by kernel_rfl) rfl rfl) ?_)))
   rintro _ w ⟨aG,rfl,hm⟩
   replace hm:=hm.els_nil (α:=ey)
   replace hm:=hm.nilow (α:=ey)
   replace hm:Mem w0 hz _ [ow [nV 1,nV aB.1,(tV (mkS [])),.slice none 0 0] ((⟨1,aB.1,(mkS []),[]⟩:ey):ey),els [] ([]:List ey),blk aG [nV aA.1.op,nV aA.1.n_,(tV aA.1.name),aE,nV 1,nV aB.1,(tV (mkS [])),.slice none 0 0] 86,blk bp100 [v3p,nV aB.2.p] 77,ow [aE] aA.1.kids,ow [sV aK 0 6 6] ([16,16,16,8,17,0]:List Int),blk aC [nV 0,nV 0,(tV (mkS [])),.slice none 0 0] 86]:=lC 1 aB.1 (mkS []) hm 0 rfl
   replace hm:=(hm.els_cons 1 0 (by decide) rfl rfl).pk (L':=[_,_,_,_,_,_]) [1,2,3,4,5,6] rfl rfl
   replace hm:Mem w0 hz _ [els [nV 1,nV aB.1,(tV (mkS [])),.slice none 0 0] ([(⟨1,aB.1,(mkS []),[]⟩:ey)]:List ey),blk aG [nV aA.1.op,nV aA.1.n_,(tV aA.1.name),aE,nV 1,nV aB.1,(tV (mkS [])),.slice none 0 0] 86,blk bp100 [v3p,nV aB.2.p] 77,ow [nV aA.1.op,nV aA.1.n_,(tV aA.1.name),aE] (aA.1:ey),ow [sV aK 0 6 6] ([16,16,16,8,17,0]:List Int),blk aC [nV 0,nV 0,(tV (mkS [])),.slice none 0 0] 86]:=iM aA.1 hm 3 rfl
   replace hm:=(hm.els_cons 0 3 (by decide) rfl rfl).pk (L':=[_,_,_,_,_]) [0,1,2,4,5] rfl rfl
   replace hm:=(hm.lit_els 1 0 (by decide) rfl rfl rfl rfl).pk (L':=[_,_,_,_]) [1,2,3,4] rfl rfl
   refine tAn rfl (tP rfl (λw=>yG rfl (fY (vs:=[(0,(nV 7)),(3,(sV aG 0 2 2))]) (cs:=#[nV 7,nV 0,(tV (mkS [])),sV aG 0 2 2]) rfl rfl (by kernel_rfl))) (tO (tf0 rfl rfl (λa hf=>j7 3 hf hm rfl sizeOf86 rfl rfl rfl (et rfl (et rfl (et rfl (et rfl fK)))) rfl rfl) ?_)))
   rintro _ w hm
   exact tAn rfl (tE (gZ λa hf=>⟨sV aG 0 2 2,hf.sb rfl,hm.pk [3,0,1] rfl rfl⟩))
  repeat clear hm
  rintro aH a w ⟨aI,hf,hm⟩
  exact gv hf (gRt (grc 0 results131 hm rfl isAgg86 sizeOf86 ⟨aI,rfl,hm.pk [2,1] rfl rfl⟩))
theorem qA  : (∀ (g:ft) (gRd:fG) (deep:Int) (r:(List fB) × ft × fG),jB g gRd deep=some r→∀ (w0:World) (hz:fU) (bp100:Nat) (bp0:Nat) (v1p:Value) (h1p:GT.rep hz [v1p] g.fns) (v2p:Value) (h2p:GT.rep hz [v2p] g.vars) (v3p:Value) (h3p:GT.rep hz [v3p] gRd.b) (hm0:Mem w0 hz w0 [blk bp0 [(pV bp100),v1p,v2p,nV g.next_,nV g.left] 83,blk bp100 [v3p,nV gRd.p] 77]),Con Tryz.prog 82 [(pV bp0),nV deep] w0 (λv w'=>∃ (x1:Value) (x3:Value),v=x1∧Mem w0 hz w' [blk bp0 [(pV bp100),v1p,x3,nV r.2.1.next_,nV r.2.1.left] 83,blk bp100 [v3p,nV r.2.2.p] 77,ow [x1] r.1,opt v2p g.vars x3 r.2.1.vars])) ∧
    (∀ (g:ft) (gRd:fG) (deep:Int) (r:(List fB) × ft × fG),ly g gRd deep=some r→∀ (w0:World) (hz:fU) (bp100:Nat) (bp0:Nat) (v1p:Value) (h1p:GT.rep hz [v1p] g.fns) (v2p:Value) (h2p:GT.rep hz [v2p] g.vars) (v3p:Value) (h3p:GT.rep hz [v3p] gRd.b) (hm0:Mem w0 hz w0 [blk bp0 [(pV bp100),v1p,v2p,nV g.next_,nV g.left] 83,blk bp100 [v3p,nV gRd.p] 77]),Con Tryz.prog 110 [(pV bp0),nV deep] w0 (λv w'=>∃ (x1:Value) (x3:Value),v=x1∧Mem w0 hz w' [blk bp0 [(pV bp100),v1p,x3,nV r.2.1.next_,nV r.2.1.left] 83,blk bp100 [v3p,nV r.2.2.p] 77,ow [x1] r.1,opt v2p g.vars x3 r.2.1.vars])) ∧
    (∀ (g:ft) (gRd:fG) (deep:Int) (r:(List fB) × ft × fG),lz g gRd deep=some r→∀ (w0:World) (hz:fU) (bp100:Nat) (bp0:Nat) (v1p:Value) (h1p:GT.rep hz [v1p] g.fns) (v2p:Value) (h2p:GT.rep hz [v2p] g.vars) (v3p:Value) (h3p:GT.rep hz [v3p] gRd.b) (hm0:Mem w0 hz w0 [blk bp0 [(pV bp100),v1p,v2p,nV g.next_,nV g.left] 83,blk bp100 [v3p,nV gRd.p] 77]),Con Tryz.prog 132 [(pV bp0),nV deep] w0 (λv w'=>∃ (x1:Value) (x3:Value),v=x1∧Mem w0 hz w' [blk bp0 [(pV bp100),v1p,x3,nV r.2.1.next_,nV r.2.1.left] 83,blk bp100 [v3p,nV r.2.2.p] 77,ow [x1] r.1,opt v2p g.vars x3 r.2.1.vars])):=by
  refine jB.mutual_partial_correctness  (motive_1:=λg gRd deep r=>∀ (w0:World) (hz:fU) (bp100:Nat) (bp0:Nat) (v1p:Value) (h1p:GT.rep hz [v1p] g.fns) (v2p:Value) (h2p:GT.rep hz [v2p] g.vars) (v3p:Value) (h3p:GT.rep hz [v3p] gRd.b) (hm0:Mem w0 hz w0 [blk bp0 [(pV bp100),v1p,v2p,nV g.next_,nV g.left] 83,blk bp100 [v3p,nV gRd.p] 77]),Con Tryz.prog 82 [(pV bp0),nV deep] w0 (λv w'=>∃ (x1:Value) (x3:Value),v=x1∧Mem w0 hz w' [blk bp0 [(pV bp100),v1p,x3,nV r.2.1.next_,nV r.2.1.left] 83,blk bp100 [v3p,nV r.2.2.p] 77,ow [x1] r.1,opt v2p g.vars x3 r.2.1.vars])) (motive_2:=λg gRd deep r=>∀ (w0:World) (hz:fU) (bp100:Nat) (bp0:Nat) (v1p:Value) (h1p:GT.rep hz [v1p] g.fns) (v2p:Value) (h2p:GT.rep hz [v2p] g.vars) (v3p:Value) (h3p:GT.rep hz [v3p] gRd.b) (hm0:Mem w0 hz w0 [blk bp0 [(pV bp100),v1p,v2p,nV g.next_,nV g.left] 83,blk bp100 [v3p,nV gRd.p] 77]),Con Tryz.prog 110 [(pV bp0),nV deep] w0 (λv w'=>∃ (x1:Value) (x3:Value),v=x1∧Mem w0 hz w' [blk bp0 [(pV bp100),v1p,x3,nV r.2.1.next_,nV r.2.1.left] 83,blk bp100 [v3p,nV r.2.2.p] 77,ow [x1] r.1,opt v2p g.vars x3 r.2.1.vars])) (motive_3:=λg gRd deep r=>∀ (w0:World) (hz:fU) (bp100:Nat) (bp0:Nat) (v1p:Value) (h1p:GT.rep hz [v1p] g.fns) (v2p:Value) (h2p:GT.rep hz [v2p] g.vars) (v3p:Value) (h3p:GT.rep hz [v3p] gRd.b) (hm0:Mem w0 hz w0 [blk bp0 [(pV bp100),v1p,v2p,nV g.next_,nV g.left] 83,blk bp100 [v3p,nV gRd.p] 77]),Con Tryz.prog 132 [(pV bp0),nV deep] w0 (λv w'=>∃ (x1:Value) (x3:Value),v=x1∧Mem w0 hz w' [blk bp0 [(pV bp100),v1p,x3,nV r.2.1.next_,nV r.2.1.left] 83,blk bp100 [v3p,nV r.2.2.p] 77,ow [x1] r.1,opt v2p g.vars x3 r.2.1.vars])) ?_ ?_ ?_
  · intro rec_ ih_ g gRd deep r hq w0 hz bp100 bp0 v1p h1p v2p h2p v3p h3p hm0
    have pspec_l3Gen__some_rec:∀ (w0:World) (hz:fU) (g:ft) (bp100:Nat) (bp0:Nat) (v1p:Value) (h1p:GT.rep hz [v1p] g.fns) (v2p:Value) (h2p:GT.rep hz [v2p] g.vars) (gRd:fG) (v3p:Value) (h3p:GT.rep hz [v3p] gRd.b) (deep:Int) (hm0:Mem w0 hz w0 [blk bp0 [(pV bp100),v1p,v2p,nV g.next_,nV g.left] 83,blk bp100 [v3p,nV gRd.p] 77]) (r:(List fB) × ft × fG) (hq:rec_ g gRd deep=some r),Con Tryz.prog 110 [(pV bp0),nV deep] w0 (λv w'=>∃ (x1:Value) (x3:Value),v=x1∧Mem w0 hz w' [blk bp0 [(pV bp100),v1p,x3,nV r.2.1.next_,nV r.2.1.left] 83,blk bp100 [v3p,nV r.2.2.p] 77,ow [x1] r.1,opt v2p g.vars x3 r.2.1.vars]):=λw0 hz g bp100 bp0 v1p h1p v2p h2p gRd v3p h3p deep hm0 r hq=>ih_ g gRd deep r hq w0 hz bp100 bp0 v1p h1p v2p h2p v3p h3p hm0
    refine kI (ρ:=(List fB) × ft × fG) (R:=λr v w'=>∃ (x1:Value) (x3:Value),v=x1∧Mem w0 hz w' [blk bp0 [(pV bp100),v1p,x3,nV r.2.1.next_,nV r.2.1.left] 83,blk bp100 [v3p,nV r.2.2.p] 77,ow [x1] r.1,opt v2p g.vars x3 r.2.1.vars]) func82 rfl hq ?_
    have hm:=hm0
    replace hm:=hm.opt_new v2p g.vars
    refine gS (gR (gA rfl (gE (gS (gR (gM rfl (gY (yG rfl (fI rfl rfl)) (gF mQ rfl (gL hm 1 isAgg47 rfl (gA rfl (gE (gS (gR (gf rfl (λa hf=>ko (α:=fB) lg hm rfl) ?_))))))))))))))
    rintro bU w hm
    refine gA rfl (gE (gS (gS (gR (gM rfl (gY (yG rfl (fI rfl rfl)) (gF lE rfl (gL hm 2 isAgg41 rfl (gf rfl (λa hf=>fL (vs:=#[(0,(nV 2)),(1,(nV 3)),(2,(nV 1)),(3,(nV 4))]) (cs:=[nV 2,nV 3,nV 1,nV 4]) oh hf hm rfl rfl (by kernel_rfl) rfl rfl) ?_)))))))))
    rintro _ w ⟨aN,rfl,hm⟩
    replace hm:=hm.lit (xs:=([2,3,1,4]:List Int)) 0 rfl rfl rfl rfl
    obtain ⟨ak,hle,hm1,hsub,al⟩:=hm.take2 (L1:=[_]) (L2:=[_,_,_,_]) [4] [0,1,2,3] (by decide) rfl rfl
    refine gCg rfl call45 (gV _ ak gRd bp100 v3p (GT.mono hle h3p) ([2,3,1,4]:List Int) (sV aN 0 4 4) (kZ (hsub 0 _ rfl)) hm1 ) ?_
    rintro aH bV bW w ⟨rfl,hB⟩
    replace hm:=al _ _ hB;clear hB
    refine gA rfl (gE ?_)
    obtain ⟨aV,aX,rfl,bc⟩:=fE (hm.ow_rep 2 rfl)
    refine gJg (λaM a w=>∃ (aD aC:Value),St 40 [(0,(pV bp0)),(5,v2p),(6,aC)] w0 hz [blk bp0 [(pV bp100),v1p,aD,nV aM.2.2.1,nV aM.2.2.2.1] 83,blk bp100 [v3p,nV aM.1] 77,opt v2p g.vars aD aM.2.1,ow [aC] aM.2.2.2.2] a w) (λaM=>?_) ?_
    ·refine gBk (gMg (λaI a w=>∃ (a8 ag:Value),St 40 [(0,(pV bp0)),(1,(nV deep)),(5,v2p),(6,ag),(7,(nV aI.2.2.2.2.2))] w0 hz [blk bp0 [(pV bp100),v1p,a8,nV aI.2.2.1,nV aI.2.2.2.1] 83,blk bp100 [v3p,nV aI.1] 77,opt v2p g.vars a8 aI.2.1,ow [ag] aI.2.2.2.2.1] a w) (λa hf=>⟨v2p,.slice aV ([]:List fB).length aX,hf.sb rfl,hm.pk [4,0,3,2] rfl rfl⟩) ?_)
     repeat clear hm
     rintro bd be aI a w ⟨a8,ag,hf,hm⟩ cv bf
     refine gv hf (gS (gS (gJ hm (λay=>[(0,(pV bp0)),(1,(nV deep)),(5,v2p),(6,ag),(7,(nV aI.2.2.2.2.2)),(27,(.bool (ay)))]) (λay=>[blk bp0 [(pV bp100),v1p,a8,nV aI.2.2.1,nV aI.2.2.2.1] 83,blk bp100 [v3p,nV aI.1] 77,opt v2p g.vars a8 aI.2.1,ow [ag] aI.2.2.2.2.1]) (λay=>?_) ?_)))
     ·refine gR (gM rfl (gB rfl (gM rfl (gsd 21 rfl (λbg=>?_) λbg=>?_))))
      ·exact gM rfl (gY (yG rfl (fI rfl rfl)) (gF pM rfl (gL hm 0 isAgg3 rfl (gB rfl (gKt rfl (gE (gz hm [0,1,2,3] rfl)))))))
      exact gO rfl (gO rfl (gO rfl (gO rfl (gO rfl (gKf rfl (gE (gz hm [0,1,2,3] rfl)))))))
     repeat clear hm
     intro ay w hm
     refine gs 27 rfl (λbh=>?_) λbh=>?_
     ·refine gct rfl (gSk (gS (gBk (gR (gM rfl (gM rfl (gM rfl ?_)))))))
      obtain ⟨bi,hle,hm1,hsub,bj⟩:=hm.take2 (L1:=[_,_]) (L2:=[_,_]) [0,1] [2,3] (by decide) rfl rfl
      refine gCg rfl call110 (pspec_l3Gen__some_rec _ bi (⟨g.fns,aI.2.1,aI.2.2.1,aI.2.2.2.1⟩:ft) bp100 bp0 v1p (GT.mono hle h1p) a8 (qC hle h2p (hsub 0 _ rfl)) (⟨gRd.b,aI.1⟩:fG) v3p (GT.mono hle h3p) deep hm1 ) ?_
      rintro bk cw cx w ⟨_,bl,rfl,hB⟩
      replace hm:=bj _ _ hB;clear hB
      replace hm:=(hm.opt_comp 4 3 (by decide) rfl rfl).pk (L':=[_,_,_,_,_]) [0,1,2,4,5] rfl rfl
      refine gb λcy bm=>?_
      obtain ⟨bo,bp⟩:=fV.1 bm
      replace hm:=(hm.both 4 2 (by decide) rfl rfl).pk (L':=[_,_,_,_]) [0,1,3,4] rfl rfl
      refine gf rfl (λa hf=>hZ (xs:=aI.2.2.2.2.1) (ys:=bk.1) 3 lg hf hm rfl rfl rfl rfl bo) ?_
      rintro bq w hm
      rw [bp] at hm
      exact gA rfl (gE (gR (gM rfl (gB rfl (gA rfl (gE (gZe λa hf=>⟨bl,bq,hf.sb rfl,hm.pk [0,1,2,3] rfl rfl⟩)))))))
     exact gcf rfl (gXt (gHh (gLp bf be (gZ λa hf=>⟨a8,ag,hf.sb rfl,hm.pk [0,1,2,3] rfl rfl⟩))))
    repeat clear hm
    rintro aM a w ⟨aD,aC,hf,hm⟩
    refine gv hf (gS (gR (gM rfl (gM rfl (gY (yG rfl (fI rfl rfl)) (gF mQ rfl ?_))))))
    replace hm:=hm.opt_base 2 rfl
    exact gS1 hm 0 sizeOf47 (fS h2p) rfl λw hm=>gE (gS (gR (gM rfl (gA rfl (gE (gRt (gr1 results82 rfl ⟨aC,v2p,rfl,hm.pk [0,1,3,2] rfl rfl⟩)))))))
  · intro rec_1 rec_2 ih_1 ih_2 g gRd deep r hq w0 hz bp100 bp0 v1p h1p v2p h2p v3p h3p hm0
    have pspec_l3Gen__block_rec:∀ (w0:World) (hz:fU) (g:ft) (bp100:Nat) (bp0:Nat) (v1p:Value) (h1p:GT.rep hz [v1p] g.fns) (v2p:Value) (h2p:GT.rep hz [v2p] g.vars) (gRd:fG) (v3p:Value) (h3p:GT.rep hz [v3p] gRd.b) (deep:Int) (hm0:Mem w0 hz w0 [blk bp0 [(pV bp100),v1p,v2p,nV g.next_,nV g.left] 83,blk bp100 [v3p,nV gRd.p] 77]) (r:(List fB) × ft × fG) (hq:rec_1 g gRd deep=some r),Con Tryz.prog 82 [(pV bp0),nV deep] w0 (λv w'=>∃ (x1:Value) (x3:Value),v=x1∧Mem w0 hz w' [blk bp0 [(pV bp100),v1p,x3,nV r.2.1.next_,nV r.2.1.left] 83,blk bp100 [v3p,nV r.2.2.p] 77,ow [x1] r.1,opt v2p g.vars x3 r.2.1.vars]):=λw0 hz g bp100 bp0 v1p h1p v2p h2p gRd v3p h3p deep hm0 r hq=>ih_1 g gRd deep r hq w0 hz bp100 bp0 v1p h1p v2p h2p v3p h3p hm0
    have pspec_l3Gen__loop_rec:∀ (w0:World) (hz:fU) (g:ft) (bp100:Nat) (bp0:Nat) (v1p:Value) (h1p:GT.rep hz [v1p] g.fns) (v2p:Value) (h2p:GT.rep hz [v2p] g.vars) (gRd:fG) (v3p:Value) (h3p:GT.rep hz [v3p] gRd.b) (deep:Int) (hm0:Mem w0 hz w0 [blk bp0 [(pV bp100),v1p,v2p,nV g.next_,nV g.left] 83,blk bp100 [v3p,nV gRd.p] 77]) (r:(List fB) × ft × fG) (hq:rec_2 g gRd deep=some r),Con Tryz.prog 132 [(pV bp0),nV deep] w0 (λv w'=>∃ (x1:Value) (x3:Value),v=x1∧Mem w0 hz w' [blk bp0 [(pV bp100),v1p,x3,nV r.2.1.next_,nV r.2.1.left] 83,blk bp100 [v3p,nV r.2.2.p] 77,ow [x1] r.1,opt v2p g.vars x3 r.2.1.vars]):=λw0 hz g bp100 bp0 v1p h1p v2p h2p gRd v3p h3p deep hm0 r hq=>ih_2 g gRd deep r hq w0 hz bp100 bp0 v1p h1p v2p h2p v3p h3p hm0
    refine kI (ρ:=(List fB) × ft × fG) (R:=λr v w'=>∃ (x1:Value) (x3:Value),v=x1∧Mem w0 hz w' [blk bp0 [(pV bp100),v1p,x3,nV r.2.1.next_,nV r.2.1.left] 83,blk bp100 [v3p,nV r.2.2.p] 77,ow [x1] r.1,opt v2p g.vars x3 r.2.1.vars]) func110 rfl hq ?_
    have hm:=hm0
    replace hm:=hm.opt_new v2p g.vars
    refine gS (gR (gA rfl (gE (gS (gR (gM rfl (gM rfl (gY (yG rfl (fI rfl rfl)) (gF pM rfl (gL hm 1 isAgg3 rfl (gB rfl (gY (yG rfl (fI rfl rfl)) (gF pM rfl (gS1 hm 1 sizeOf3 rfl rfl λw hm=>gE (gS (gR (gM rfl (gY (yG rfl (fI rfl rfl)) (gF lE rfl (gL hm 1 isAgg41 rfl ?_))))))))))))))))))))
    obtain ⟨ak,hle,hm1,hsub,al⟩:=hm.take2 (L1:=[_]) (L2:=[_,_]) [2] [0,1] (by decide) rfl rfl
    refine gCg rfl call18 (fR _ ak gRd bp100 v3p (GT.mono hle h3p) 13 hm1 ) ?_
    rintro aH bV bU w ⟨rfl,hB⟩
    replace hm:=al _ _ hB;clear hB
    refine gA rfl (gE (gS (gBk (gS (gJ hm (λaM=>[(0,(pV bp0)),(1,(nV deep)),(5,(nV aH.1)),(20,(.bool (aM)))]) (λaM=>[blk bp0 [(pV bp100),v1p,v2p,nV g.next_,nV (w64 (g.left - 1))] 83,blk bp100 [v3p,nV aH.2.p] 77,opt v2p g.vars v2p g.vars]) (λaM=>?_) ?_)))))
    ·refine gR (gM rfl (gB rfl (gM rfl (gsd 23 rfl (λbK=>?_) λbK=>?_))))
     ·refine gM rfl (gY (yG rfl (fI rfl rfl)) (gF mQ rfl (gL hm 2 isAgg47 rfl ?_)))
      obtain ⟨am,an,rfl,br⟩:=fE h2p
      exact gY (yV jO rfl) (gB rfl (gKt rfl (gA rfl (gE (gz hm [2,0,1] rfl)))))
     exact gO rfl (gO rfl (gO rfl (gO rfl (gO rfl (gO rfl (gKf rfl (gA rfl (gE (gz hm [2,0,1] rfl)))))))))
    repeat clear hm
    intro aM w hm
    refine gs 20 rfl (λbs=>?_) λbs=>?_
    ·refine gct rfl (gS (gW (.p 0 (.p 1 (.p 2 (.p 4 (.p 5 (.p 6 (.p 9 (.q 3 (.e 7 (.e 8 (.e 10 (.e 11 (.p 12 (.e 13 (.p 14 .fin) .nil)) .nil) .nil) .nil) .nil))))))))) [7] [0, 1, 2, 4, 5, 6, 9, 12, 14] hm [0, 1, 2] [blk bp0 [(pV bp100), v1p, v2p, nV g.next_, nV (w64 (g.left - 1))] 83, blk bp100 [v3p, nV aH.2.p] 77, opt v2p g.vars v2p g.vars] rfl mxo (by kernel_rfl) (fun _ _ _ h => h.2) fun w hm hS => tP rfl (fun w => yM rfl) (tP rfl (fun w => yG rfl (fI rfl rfl)) (tP rfl (fun w => yF lE rfl) (tP rfl (fun w => yM rfl) (tP rfl (fun w => yG rfl (fI rfl rfl)) (tP rfl (fun w => yF mQ rfl) (tP rfl (fun w => yM rfl) (tQ rfl hS (fun w hm => yL hm 0 isAgg41 rfl) (tO (tY rfl (yL hm 0 isAgg47 rfl) (tAs hS (tO (gb fun aA bX => ?_))))))))))))))
     obtain ⟨bL,hle,hm1,hsub,bM⟩:=hm.take2 (L1:=[_]) (L2:=[_,_]) [1] [0,2] (by decide) rfl rfl
     refine tf rfl rfl (λa hf=>fo hf rfl call19 rfl (ig _ bL (⟨gRd.b,aH.2.p⟩:fG) bp100 v3p (GT.mono hle h3p) g.vars v2p (GT.mono hle h2p) hm1  _ bX)) ?_
     rintro bW w ⟨rfl,hB⟩
     replace hm:=bM _ _ hB;clear hB
     refine tAn rfl (tO (gb λaB bY=>?_))
     obtain ⟨bN,hle,hm1,hsub,bO⟩:=hm.take2 (L1:=[_]) (L2:=[_,_]) [0] [1,2] (by decide) rfl rfl
     refine tf rfl rfl (λa hf=>fo hf rfl call83 rfl (iV _ bN (⟨g.fns,g.vars,g.next_,w64 (g.left - 1)⟩:ft) bp100 bp0 v1p (GT.mono hle h1p) v2p (GT.mono hle h2p) (pj (hsub 0 _ rfl)) (⟨gRd.b,aA.2.p⟩:fG) v3p (GT.mono hle h3p) 3 hm1  _ bY)) ?_
     rintro aD w ⟨aC,rfl,hB⟩
     replace hm:=bO _ _ hB;clear hB
     refine tAn rfl (tO (tf rfl rfl (λa hf=>fL (vs:=#[(0,(.agg #[nV aB.1.op,nV aB.1.n_,(tV aB.1.name),aC]))]) (cs:=[nV aB.1.op,nV aB.1.n_,(tV aB.1.name),aC]) jl hf hm rfl rfl (by kernel_rfl) rfl rfl) ?_))
     rintro _ w ⟨aN,rfl,hm⟩
     replace hm:=hm.els_nil (α:=ey)
     replace hm:Mem w0 hz _ [els [] ([]:List ey),blk aN [nV aB.1.op,nV aB.1.n_,(tV aB.1.name),aC] 86,blk bp100 [v3p,nV aB.2.p] 77,ow [nV aB.1.op,nV aB.1.n_,(tV aB.1.name),aC] (aB.1:ey),blk bp0 [(pV bp100),v1p,v2p,nV g.next_,nV (w64 (g.left - 1))] 83,opt v2p g.vars v2p g.vars]:=iM aB.1 hm 3 rfl
     replace hm:=(hm.els_cons 0 3 (by decide) rfl rfl).pk (L':=[_,_,_,_,_]) [0,1,2,4,5] rfl rfl
     replace hm:=(hm.lit_els 1 0 (by decide) rfl rfl rfl rfl).pk (L':=[_,_,_,_]) [1,2,3,4] rfl rfl
     refine tAn rfl (tP rfl (λw=>yG rfl (fY (vs:=[(0,(nV 2)),(1,(tV aA.1)),(2,(sV aN 0 1 1))]) (cs:=#[nV 2,(tV aA.1),sV aN 0 1 1,.slice none 0 0,.slice none 0 0]) rfl rfl (by kernel_rfl))) (tO (tf rfl rfl (λa hf=>fL (vs:=#[(0,(.agg #[nV 2,(tV aA.1),sV aN 0 1 1,.slice none 0 0,.slice none 0 0]))]) (cs:=[nV 2,(tV aA.1),sV aN 0 1 1,.slice none 0 0,.slice none 0 0]) lg hf hm rfl rfl (by kernel_rfl) rfl rfl) ?_)))
     rintro _ w ⟨aY,rfl,hm⟩
     replace hm:=hm.els_nil (α:=fB)
     replace hm:=hm.nilow (α:=fB)
     replace hm:=hm.nilow (α:=fB)
     replace hm:=(lO 2 aA.1 hm 4 1 0 rfl).pk (L':=[_,_,_,_,_,_]) [2,3,4,5,6,7] rfl rfl
     replace hm:=(hm.els_cons 0 2 (by decide) rfl rfl).pk (L':=[_,_,_,_,_]) [0,1,3,4,5] rfl rfl
     replace hm:=(hm.lit_els 1 0 (by decide) rfl rfl rfl rfl).pk (L':=[_,_,_,_]) [1,2,3,4] rfl rfl
     exact tAn rfl (tP rfl (λw=>yA rfl) (tE (gRt (gr1 results110 rfl ⟨sV aY 0 1 1,v2p,rfl,hm.pk [2,1,0,3] rfl rfl⟩))))
    refine gcf rfl (gS (gR (gM rfl (gB rfl (gA rfl (gE (gsd 45 rfl (λbt=>?_) λbt=>?_)))))))
    ·refine gct rfl (gS (gR (gM rfl (gM rfl ?_))))
     obtain ⟨bu,hle,hm1,hsub,bv⟩:=hm.take2 (L1:=[_]) (L2:=[_,_]) [1] [0,2] (by decide) rfl rfl
     refine gCg rfl call83 (iV _ bu (⟨g.fns,g.vars,g.next_,w64 (g.left - 1)⟩:ft) bp100 bp0 v1p (GT.mono hle h1p) v2p (GT.mono hle h2p) (pj (hsub 0 _ rfl)) (⟨gRd.b,aH.2.p⟩:fG) v3p (GT.mono hle h3p) 3 hm1 ) ?_
     rintro bZ cz aF w ⟨bP,rfl,hB⟩
     replace hm:=bv _ _ hB;clear hB
     obtain ⟨bw,hle,hm1,hsub,bz⟩:=hm.take2 (L1:=[_,_,_]) (L2:=[_]) [2,0,1] [3] (by decide) rfl rfl
     refine gCg rfl call130 (oN _ bw (⟨g.fns,g.vars,g.next_,w64 (g.left - 1)⟩:ft) bp100 bp0 v1p (GT.mono hle h1p) v2p (GT.mono hle h2p) (⟨gRd.b,bZ.2.p⟩:fG) v3p (GT.mono hle h3p) bZ.1 bP hm1 ) ?_
     rintro ao dA ah w ⟨b8,aJ,aa,cA,rfl,hB⟩
     replace hm:=bz _ _ hB;clear hB
     replace hm:=(hm.opt_comp 6 5 (by decide) rfl rfl).pk (L':=[_,_,_,_,_,_]) [0,1,2,3,4,6] rfl rfl
     refine gf rfl (λa hf=>fL (vs:=#[(0,(.agg #[nV ao.1.op,(tV ao.1.name),b8,aJ,aa]))]) (cs:=[nV ao.1.op,(tV ao.1.name),b8,aJ,aa]) lg hf hm rfl rfl (by kernel_rfl) rfl rfl) ?_
     rintro _ w ⟨aZ,rfl,hm⟩
     replace hm:=hm.els_nil (α:=fB)
     replace hm:=(o0 ao.1 hm 4 5 6 rfl).pk (L':=[_,_,_,_,_,_]) [0,1,2,3,4,7] rfl rfl
     replace hm:=(hm.els_cons 0 4 (by decide) rfl rfl).pk (L':=[_,_,_,_,_]) [0,1,2,3,5] rfl rfl
     replace hm:=(hm.lit_els 1 0 (by decide) rfl rfl rfl rfl).pk (L':=[_,_,_,_]) [1,2,3,4] rfl rfl
     exact gA rfl (gE (gRt (gr1 results110 rfl ⟨sV aZ 0 1 1,cA,rfl,hm.pk [1,2,0,3] rfl rfl⟩)))
    refine gcf rfl (gS (gJ hm (λaz=>[(0,(pV bp0)),(1,(nV deep)),(5,(nV aH.1)),(53,(.bool (az)))]) (λaz=>[blk bp0 [(pV bp100),v1p,v2p,nV g.next_,nV (w64 (g.left - 1))] 83,blk bp100 [v3p,nV aH.2.p] 77,opt v2p g.vars v2p g.vars]) (λaz=>?_) ?_))
    ·refine gR (gM rfl (gB rfl (gM rfl (gsd 56 rfl (λbQ=>?_) λbQ=>?_))))
     ·exact gO rfl (gO rfl (gKt rfl (gA rfl (gE (gz hm [0,1,2] rfl)))))
     exact gM rfl (gB rfl (gKf rfl (gA rfl (gE (gz hm [0,1,2] rfl)))))
    repeat clear hm
    intro az w hm
    refine gs 53 rfl (λcC=>?_) λcC=>?_
    ·refine gct rfl (gS (gR (gM rfl ?_)))
     obtain ⟨cD,hle,hm1,hsub,cE⟩:=hm.take2 (L1:=[_]) (L2:=[_,_]) [1] [0,2] (by decide) rfl rfl
     refine gCg rfl call83 (iV _ cD (⟨g.fns,g.vars,g.next_,w64 (g.left - 1)⟩:ft) bp100 bp0 v1p (GT.mono hle h1p) v2p (GT.mono hle h2p) (pj (hsub 0 _ rfl)) (⟨gRd.b,aH.2.p⟩:fG) v3p (GT.mono hle h3p) 3 hm1 ) ?_
     rintro aO dB dC w ⟨bA,rfl,hB⟩
     replace hm:=cE _ _ hB;clear hB
     refine gf rfl (λa hf=>fL (vs:=#[(0,(.agg #[nV aO.1.op,nV aO.1.n_,(tV aO.1.name),bA]))]) (cs:=[nV aO.1.op,nV aO.1.n_,(tV aO.1.name),bA]) jl hf hm rfl rfl (by kernel_rfl) rfl rfl) ?_
     rintro _ w ⟨aQ,rfl,hm⟩
     replace hm:=hm.els_nil (α:=ey)
     replace hm:Mem w0 hz _ [els [] ([]:List ey),blk aQ [nV aO.1.op,nV aO.1.n_,(tV aO.1.name),bA] 86,blk bp100 [v3p,nV aO.2.p] 77,ow [nV aO.1.op,nV aO.1.n_,(tV aO.1.name),bA] (aO.1:ey),blk bp0 [(pV bp100),v1p,v2p,nV g.next_,nV (w64 (g.left - 1))] 83,opt v2p g.vars v2p g.vars]:=iM aO.1 hm 3 rfl
     replace hm:=(hm.els_cons 0 3 (by decide) rfl rfl).pk (L':=[_,_,_,_,_]) [0,1,2,4,5] rfl rfl
     replace hm:=(hm.lit_els 1 0 (by decide) rfl rfl rfl rfl).pk (L':=[_,_,_,_]) [1,2,3,4] rfl rfl
     refine gY (yG rfl (fY (vs:=[(0,(nV 3)),(2,(sV aQ 0 1 1))]) (cs:=#[nV 3,(tV (mkS [])),sV aQ 0 1 1,.slice none 0 0,.slice none 0 0]) rfl rfl (by kernel_rfl))) (gf rfl (λa hf=>fL (vs:=#[(0,(.agg #[nV 3,(tV (mkS [])),sV aQ 0 1 1,.slice none 0 0,.slice none 0 0]))]) (cs:=[nV 3,(tV (mkS [])),sV aQ 0 1 1,.slice none 0 0,.slice none 0 0]) lg hf hm rfl rfl (by kernel_rfl) rfl rfl) ?_)
     rintro _ w ⟨aR,rfl,hm⟩
     replace hm:=hm.els_nil (α:=fB)
     replace hm:=hm.nilow (α:=fB)
     replace hm:=hm.nilow (α:=fB)
     replace hm:=(lO 3 (mkS []) hm 4 1 0 rfl).pk (L':=[_,_,_,_,_,_]) [2,3,4,5,6,7] rfl rfl
     replace hm:=(hm.els_cons 0 2 (by decide) rfl rfl).pk (L':=[_,_,_,_,_]) [0,1,3,4,5] rfl rfl
     replace hm:=(hm.lit_els 1 0 (by decide) rfl rfl rfl rfl).pk (L':=[_,_,_,_]) [1,2,3,4] rfl rfl
     exact gA rfl (gE (gRt (gr1 results110 rfl ⟨sV aR 0 1 1,v2p,rfl,hm.pk [2,1,0,3] rfl rfl⟩)))
    refine gcf rfl (gS (gR (gM rfl (gB rfl (gA rfl (gE (gsd 65 rfl (λcF=>?_) λcF=>?_)))))))
    ·refine gct rfl (gS (gR (gM rfl ?_)))
     obtain ⟨cG,hle,hm1,hsub,cH⟩:=hm.take2 (L1:=[_]) (L2:=[_,_]) [1] [0,2] (by decide) rfl rfl
     refine gCg rfl call131 (oD _ cG (⟨g.fns,g.vars,g.next_,w64 (g.left - 1)⟩:ft) bp100 bp0 v1p (GT.mono hle h1p) v2p (GT.mono hle h2p) (pj (hsub 0 _ rfl)) (⟨gRd.b,aH.2.p⟩:fG) v3p (GT.mono hle h3p) hm1 ) ?_
     rintro aG dD dE w ⟨ai,rfl,hB⟩
     replace hm:=cH _ _ hB;clear hB
     refine gM rfl ?_
     obtain ⟨cI,hle,hm1,hsub,cJ⟩:=hm.take2 (L1:=[_]) (L2:=[_,_,_]) [0] [1,2,3] (by decide) rfl rfl
     refine gCg rfl call83 (iV _ cI (⟨g.fns,g.vars,g.next_,w64 (g.left - 1)⟩:ft) bp100 bp0 v1p (GT.mono hle h1p) v2p (GT.mono hle h2p) (pj (hsub 1 _ rfl)) (⟨gRd.b,aG.2.p⟩:fG) v3p (GT.mono hle h3p) 2 hm1 ) ?_
     rintro aE dF dG w ⟨aj,rfl,hB⟩
     replace hm:=cJ _ _ hB;clear hB
     refine gf rfl (λa hf=>fL (vs:=#[(0,(.agg #[nV aG.1.op,nV aG.1.n_,(tV aG.1.name),ai])),(1,(.agg #[nV aE.1.op,nV aE.1.n_,(tV aE.1.name),aj]))]) (cs:=[nV aG.1.op,nV aG.1.n_,(tV aG.1.name),ai,nV aE.1.op,nV aE.1.n_,(tV aE.1.name),aj]) jl hf hm rfl rfl (by kernel_rfl) rfl rfl) ?_
     rintro _ w ⟨aU,rfl,hm⟩
     replace hm:=hm.els_nil (α:=ey)
     replace hm:Mem w0 hz _ [els [] ([]:List ey),blk aU [nV aG.1.op,nV aG.1.n_,(tV aG.1.name),ai,nV aE.1.op,nV aE.1.n_,(tV aE.1.name),aj] 86,blk bp100 [v3p,nV aE.2.p] 77,ow [nV aE.1.op,nV aE.1.n_,(tV aE.1.name),aj] (aE.1:ey),ow [ai] aG.1.kids,blk bp0 [(pV bp100),v1p,v2p,nV g.next_,nV (w64 (g.left - 1))] 83,opt v2p g.vars v2p g.vars]:=iM aE.1 hm 3 rfl
     replace hm:=(hm.els_cons 0 3 (by decide) rfl rfl).pk (L':=[_,_,_,_,_,_]) [0,1,2,4,5,6] rfl rfl
     replace hm:Mem w0 hz _ [els [nV aE.1.op,nV aE.1.n_,(tV aE.1.name),aj] ([aE.1]:List ey),blk aU [nV aG.1.op,nV aG.1.n_,(tV aG.1.name),ai,nV aE.1.op,nV aE.1.n_,(tV aE.1.name),aj] 86,blk bp100 [v3p,nV aE.2.p] 77,ow [nV aG.1.op,nV aG.1.n_,(tV aG.1.name),ai] (aG.1:ey),blk bp0 [(pV bp100),v1p,v2p,nV g.next_,nV (w64 (g.left - 1))] 83,opt v2p g.vars v2p g.vars]:=iM aG.1 hm 3 rfl
     replace hm:=(hm.els_cons 0 3 (by decide) rfl rfl).pk (L':=[_,_,_,_,_]) [0,1,2,4,5] rfl rfl
     replace hm:=(hm.lit_els 1 0 (by decide) rfl rfl rfl rfl).pk (L':=[_,_,_,_]) [1,2,3,4] rfl rfl
     refine gY (yG rfl (fY (vs:=[(0,(nV 4)),(2,(sV aU 0 2 2))]) (cs:=#[nV 4,(tV (mkS [])),sV aU 0 2 2,.slice none 0 0,.slice none 0 0]) rfl rfl (by kernel_rfl))) (gf rfl (λa hf=>fL (vs:=#[(0,(.agg #[nV 4,(tV (mkS [])),sV aU 0 2 2,.slice none 0 0,.slice none 0 0]))]) (cs:=[nV 4,(tV (mkS [])),sV aU 0 2 2,.slice none 0 0,.slice none 0 0]) lg hf hm rfl rfl (by kernel_rfl) rfl rfl) ?_)
     rintro _ w ⟨cK,rfl,hm⟩
     replace hm:=hm.els_nil (α:=fB)
     replace hm:=hm.nilow (α:=fB)
     replace hm:=hm.nilow (α:=fB)
     replace hm:=(lO 4 (mkS []) hm 4 1 0 rfl).pk (L':=[_,_,_,_,_,_]) [2,3,4,5,6,7] rfl rfl
     replace hm:=(hm.els_cons 0 2 (by decide) rfl rfl).pk (L':=[_,_,_,_,_]) [0,1,3,4,5] rfl rfl
     replace hm:=(hm.lit_els 1 0 (by decide) rfl rfl rfl rfl).pk (L':=[_,_,_,_]) [1,2,3,4] rfl rfl
     exact gA rfl (gE (gRt (gr1 results110 rfl ⟨sV cK 0 1 1,v2p,rfl,hm.pk [2,1,0,3] rfl rfl⟩)))
    refine gcf rfl (gS (gR (gM rfl (gB rfl (gA rfl (gE (gsd 75 rfl (λcL=>?_) λcL=>?_)))))))
    ·refine gct rfl (gS (gR (gM rfl ?_)))
     obtain ⟨cN,hle,hm1,hsub,cO⟩:=hm.take2 (L1:=[_]) (L2:=[_,_]) [1] [0,2] (by decide) rfl rfl
     refine gCg rfl call131 (oD _ cN (⟨g.fns,g.vars,g.next_,w64 (g.left - 1)⟩:ft) bp100 bp0 v1p (GT.mono hle h1p) v2p (GT.mono hle h2p) (pj (hsub 0 _ rfl)) (⟨gRd.b,aH.2.p⟩:fG) v3p (GT.mono hle h3p) hm1 ) ?_
     rintro aK dH dI w ⟨bB,rfl,hB⟩
     replace hm:=cO _ _ hB;clear hB
     refine gf rfl (λa hf=>fL (vs:=#[(0,(.agg #[nV aK.1.op,nV aK.1.n_,(tV aK.1.name),bB]))]) (cs:=[nV aK.1.op,nV aK.1.n_,(tV aK.1.name),bB]) jl hf hm rfl rfl (by kernel_rfl) rfl rfl) ?_
     rintro _ w ⟨ab,rfl,hm⟩
     replace hm:=hm.els_nil (α:=ey)
     replace hm:Mem w0 hz _ [els [] ([]:List ey),blk ab [nV aK.1.op,nV aK.1.n_,(tV aK.1.name),bB] 86,blk bp100 [v3p,nV aK.2.p] 77,ow [nV aK.1.op,nV aK.1.n_,(tV aK.1.name),bB] (aK.1:ey),blk bp0 [(pV bp100),v1p,v2p,nV g.next_,nV (w64 (g.left - 1))] 83,opt v2p g.vars v2p g.vars]:=iM aK.1 hm 3 rfl
     replace hm:=(hm.els_cons 0 3 (by decide) rfl rfl).pk (L':=[_,_,_,_,_]) [0,1,2,4,5] rfl rfl
     replace hm:=(hm.lit_els 1 0 (by decide) rfl rfl rfl rfl).pk (L':=[_,_,_,_]) [1,2,3,4] rfl rfl
     refine gY (yG rfl (fY (vs:=[(0,(nV 12)),(3,(sV ab 0 1 1))]) (cs:=#[nV 12,nV 0,(tV (mkS [])),sV ab 0 1 1]) rfl rfl (by kernel_rfl))) (gf rfl (λa hf=>fL (vs:=#[(0,(.agg #[nV 12,nV 0,(tV (mkS [])),sV ab 0 1 1]))]) (cs:=[nV 12,nV 0,(tV (mkS [])),sV ab 0 1 1]) jl hf hm rfl rfl (by kernel_rfl) rfl rfl) ?_)
     rintro _ w ⟨aq,rfl,hm⟩
     replace hm:=hm.els_nil (α:=ey)
     replace hm:Mem w0 hz _ [els [] ([]:List ey),blk aq [nV 12,nV 0,(tV (mkS [])),sV ab 0 1 1] 86,ow [nV 12,nV 0,(tV (mkS [])),sV ab 0 1 1] ((⟨12,0,(mkS []),([aK.1]:List ey)⟩:ey):ey),blk bp100 [v3p,nV aK.2.p] 77,blk bp0 [(pV bp100),v1p,v2p,nV g.next_,nV (w64 (g.left - 1))] 83,opt v2p g.vars v2p g.vars]:=lC 12 0 (mkS []) hm 2 rfl
     replace hm:=(hm.els_cons 0 2 (by decide) rfl rfl).pk (L':=[_,_,_,_,_]) [0,1,3,4,5] rfl rfl
     replace hm:=(hm.lit_els 1 0 (by decide) rfl rfl rfl rfl).pk (L':=[_,_,_,_]) [1,2,3,4] rfl rfl
     refine gY (yG rfl (fY (vs:=[(0,(nV 3)),(2,(sV aq 0 1 1))]) (cs:=#[nV 3,(tV (mkS [])),sV aq 0 1 1,.slice none 0 0,.slice none 0 0]) rfl rfl (by kernel_rfl))) (gf rfl (λa hf=>fL (vs:=#[(0,(.agg #[nV 3,(tV (mkS [])),sV aq 0 1 1,.slice none 0 0,.slice none 0 0]))]) (cs:=[nV 3,(tV (mkS [])),sV aq 0 1 1,.slice none 0 0,.slice none 0 0]) lg hf hm rfl rfl (by kernel_rfl) rfl rfl) ?_)
     rintro _ w ⟨cP,rfl,hm⟩
     replace hm:=hm.els_nil (α:=fB)
     replace hm:=hm.nilow (α:=fB)
     replace hm:=hm.nilow (α:=fB)
     replace hm:=(lO 3 (mkS []) hm 4 1 0 rfl).pk (L':=[_,_,_,_,_,_]) [2,3,4,5,6,7] rfl rfl
     replace hm:=(hm.els_cons 0 2 (by decide) rfl rfl).pk (L':=[_,_,_,_,_]) [0,1,3,4,5] rfl rfl
     replace hm:=(hm.lit_els 1 0 (by decide) rfl rfl rfl rfl).pk (L':=[_,_,_,_]) [1,2,3,4] rfl rfl
     exact gA rfl (gE (gRt (gr1 results110 rfl ⟨sV cP 0 1 1,v2p,rfl,hm.pk [2,1,0,3] rfl rfl⟩)))
    refine gcf rfl (gS (gR (gM rfl (gB rfl (gA rfl (gE (gsd 85 rfl (λcQ=>?_) λcQ=>?_)))))))
    ·refine gct rfl (gS (gR (gM rfl ?_)))
     obtain ⟨cR,hle,hm1,hsub,cS⟩:=hm.take2 (L1:=[_]) (L2:=[_,_]) [1] [0,2] (by decide) rfl rfl
     refine gCg rfl call83 (iV _ cR (⟨g.fns,g.vars,g.next_,w64 (g.left - 1)⟩:ft) bp100 bp0 v1p (GT.mono hle h1p) v2p (GT.mono hle h2p) (pj (hsub 0 _ rfl)) (⟨gRd.b,aH.2.p⟩:fG) v3p (GT.mono hle h3p) 3 hm1 ) ?_
     rintro aL dJ dK w ⟨bC,rfl,hB⟩
     replace hm:=cS _ _ hB;clear hB
     refine gf rfl (λa hf=>fL (vs:=#[(0,(.agg #[nV aL.1.op,nV aL.1.n_,(tV aL.1.name),bC]))]) (cs:=[nV aL.1.op,nV aL.1.n_,(tV aL.1.name),bC]) jl hf hm rfl rfl (by kernel_rfl) rfl rfl) ?_
     rintro _ w ⟨ac,rfl,hm⟩
     replace hm:=hm.els_nil (α:=ey)
     replace hm:Mem w0 hz _ [els [] ([]:List ey),blk ac [nV aL.1.op,nV aL.1.n_,(tV aL.1.name),bC] 86,blk bp100 [v3p,nV aL.2.p] 77,ow [nV aL.1.op,nV aL.1.n_,(tV aL.1.name),bC] (aL.1:ey),blk bp0 [(pV bp100),v1p,v2p,nV g.next_,nV (w64 (g.left - 1))] 83,opt v2p g.vars v2p g.vars]:=iM aL.1 hm 3 rfl
     replace hm:=(hm.els_cons 0 3 (by decide) rfl rfl).pk (L':=[_,_,_,_,_]) [0,1,2,4,5] rfl rfl
     replace hm:=(hm.lit_els 1 0 (by decide) rfl rfl rfl rfl).pk (L':=[_,_,_,_]) [1,2,3,4] rfl rfl
     refine gM rfl (gM rfl (gB rfl ?_))
     obtain ⟨cT,hle,hm1,hsub,cU⟩:=hm.take2 (L1:=[_,_]) (L2:=[_,_]) [2,1] [0,3] (by decide) rfl rfl
     refine gCg rfl call82 (pspec_l3Gen__block_rec _ cT (⟨g.fns,g.vars,g.next_,w64 (g.left - 1)⟩:ft) bp100 bp0 v1p (GT.mono hle h1p) v2p (GT.mono hle h2p) (⟨gRd.b,aL.2.p⟩:fG) v3p (GT.mono hle h3p) (w64 (deep - 1)) hm1 ) ?_
     rintro aT dL dM w ⟨_,b9,rfl,hB⟩
     replace hm:=cU _ _ hB;clear hB
     replace hm:=(hm.opt_comp 5 3 (by decide) rfl rfl).pk (L':=[_,_,_,_,_]) [0,1,2,4,5] rfl rfl
     obtain ⟨aV,aX,rfl,bc⟩:=fE (hm.ow_rep 2 rfl)
     refine gY (yG rfl (fY (vs:=[(0,(nV 5)),(2,(sV ac 0 1 1)),(3,(.slice aV aT.1.length aX))]) (cs:=#[nV 5,(tV (mkS [])),sV ac 0 1 1,.slice aV aT.1.length aX,.slice none 0 0]) rfl rfl (by kernel_rfl))) (gAl hm zeroValue71 rfl λba w hm=>gSN hm 0 sizeOf71 (et rfl (et rfl (et rfl (et rfl (et rfl fK))))) rfl λw hm=>gE (gS (gS (gR (gM rfl (gY (yG rfl (fI rfl rfl)) (gF lE rfl (gL hm 1 isAgg41 rfl ?_))))))))
     obtain ⟨cV,hle,hm1,hsub,cW⟩:=hm.take2 (L1:=[_]) (L2:=[_,_,_,_,_]) [2] [0,1,3,4,5] (by decide) rfl rfl
     refine gCg rfl call18 (fR _ cV (⟨gRd.b,aT.2.2.p⟩:fG) bp100 v3p (GT.mono hle h3p) 2 hm1 ) ?_
     rintro cX dN dO w ⟨rfl,hB⟩
     replace hm:=cW _ _ hB;clear hB
     refine gB rfl (gE (gJg (λae a w=>∃ (ar bD:Value),St 128 [(6,(pV ba))] w0 hz [blk ba [nV 5,(tV (mkS [])),sV ac 0 1 1,.slice aV aT.1.length aX,ar] 71,ow [sV ac 0 1 1] ([aL.1]:List ey),ow [.slice aV aT.1.length aX] aT.1,ow [ar] ae.1,blk bp0 [(pV bp100),v1p,bD,nV ae.2.2.2.1,nV ae.2.2.2.2] 83,blk bp100 [v3p,nV ae.2.1] 77,opt v2p g.vars bD ae.2.2.1] a w) (λae=>?_) ?_))
     ·refine gsd 101 rfl (λbR=>?_) λbR=>?_
      ·refine gct rfl (gR (gM rfl (gM rfl (gB rfl ?_))))
       obtain ⟨cY,hle,hm1,hsub,cZ⟩:=hm.take2 (L1:=[_,_]) (L2:=[_,_,_,_]) [2,0] [1,3,4,5] (by decide) rfl rfl
       refine gCg rfl call82 (pspec_l3Gen__block_rec _ cY (⟨g.fns,aT.2.1.vars,aT.2.1.next_,aT.2.1.left⟩:ft) bp100 bp0 v1p (GT.mono hle h1p) b9 (qC hle h2p (hsub 3 _ rfl)) (⟨gRd.b,cX.2.p⟩:fG) v3p (GT.mono hle h3p) (w64 (deep - 1)) hm1 ) ?_
       rintro bd dP bb w ⟨_,bS,rfl,hB⟩
       replace hm:=cZ _ _ hB;clear hB
       replace hm:=(hm.opt_comp 7 3 (by decide) rfl rfl).pk (L':=[_,_,_,_,_,_,_]) [0,1,2,4,5,6,7] rfl rfl
       exact gF lH rfl (gS1 hm 3 sizeOf52 (fS (hm.ow_rep 2 rfl)) rfl λw hm=>gE (gZ λa hf=>⟨bb,bS,hf.sb rfl,hm.pk [3,5,4,2,0,1,6] rfl rfl⟩))
      refine gcf rfl (gSk ?_)
      replace hm:=hm.nilow (α:=fB)
      exact gZ λa hf=>⟨.slice none 0 0,b9,hf.sb rfl,hm.pk [2,5,4,0,3,1,6] rfl rfl⟩
     repeat clear hm
     rintro ae a w ⟨ar,bD,hf,hm⟩
     refine gv hf (gS (gR (gY (yn (hm.blk_at 0 rfl) isAgg71 sizeOf71 rfl) (gf rfl (λa hf=>fL (vs:=#[(0,(.agg #[nV 5,(tV (mkS [])),sV ac 0 1 1,.slice aV aT.1.length aX,ar]))]) (cs:=[nV 5,(tV (mkS [])),sV ac 0 1 1,.slice aV aT.1.length aX,ar]) lg hf hm rfl rfl (by kernel_rfl) rfl rfl) ?_))))
     rintro _ w ⟨c8,rfl,hm⟩
     replace hm:=hm.els_nil (α:=fB)
     replace hm:=(lO 5 (mkS []) hm 3 4 5 rfl).pk (L':=[_,_,_,_,_,_,_]) [0,1,2,3,6,7,8] rfl rfl
     replace hm:=(hm.els_cons 0 3 (by decide) rfl rfl).pk (L':=[_,_,_,_,_,_]) [0,1,2,4,5,6] rfl rfl
     replace hm:=(hm.lit_els 1 0 (by decide) rfl rfl rfl rfl).pk (L':=[_,_,_,_,_]) [1,2,3,4,5] rfl rfl
     exact gA rfl (gE (gRt (gr1 results110 rfl ⟨sV c8 0 1 1,bD,rfl,hm.pk [2,3,0,4] rfl rfl⟩)))
    refine gcf rfl (gS (gJ hm (λaf=>[(0,(pV bp0)),(1,(nV deep)),(109,(.bool (af.2)))]) (λaf=>[blk bp0 [(pV bp100),v1p,v2p,nV g.next_,nV (w64 (g.left - 1))] 83,blk bp100 [v3p,nV af.1] 77,opt v2p g.vars v2p g.vars]) (λaf=>?_) ?_))
    ·refine gR (gM rfl (gB rfl (gM rfl (gsd 112 rfl (λc9=>?_) λc9=>?_))))
     ·refine gM rfl (gY (yG rfl (fI rfl rfl)) (gF lE rfl (gL hm 0 isAgg41 rfl ?_)))
      obtain ⟨ca,hle,hm1,hsub,cb⟩:=hm.take2 (L1:=[_]) (L2:=[_,_]) [1] [0,2] (by decide) rfl rfl
      refine gCg rfl call18 (fR _ ca (⟨gRd.b,aH.2.p⟩:fG) bp100 v3p (GT.mono hle h3p) 3 hm1 ) ?_
      rintro dQ dR dS w ⟨rfl,hB⟩
      replace hm:=cb _ _ hB;clear hB
      exact gB rfl (gKt rfl (gA rfl (gE (gz hm [1,0,2] rfl))))
     exact gO rfl (gO rfl (gO rfl (gO rfl (gO rfl (gO rfl (gKf rfl (gA rfl (gE (gz hm [0,1,2] rfl)))))))))
    repeat clear hm
    intro af w hm
    refine gs 109 rfl (λcc=>?_) λcc=>?_
    ·refine gct rfl (gS (gR (gM rfl ?_)))
     obtain ⟨cd,hle,hm1,hsub,ce⟩:=hm.take2 (L1:=[_]) (L2:=[_,_]) [1] [0,2] (by decide) rfl rfl
     refine gCg rfl call83 (iV _ cd (⟨g.fns,g.vars,g.next_,w64 (g.left - 1)⟩:ft) bp100 bp0 v1p (GT.mono hle h1p) v2p (GT.mono hle h2p) (pj (hsub 0 _ rfl)) (⟨gRd.b,af.1⟩:fG) v3p (GT.mono hle h3p) 2 hm1 ) ?_
     rintro aP dT dU w ⟨bE,rfl,hB⟩
     replace hm:=ce _ _ hB;clear hB
     refine gf rfl (λa hf=>fL (vs:=#[(0,(.agg #[nV aP.1.op,nV aP.1.n_,(tV aP.1.name),bE]))]) (cs:=[nV aP.1.op,nV aP.1.n_,(tV aP.1.name),bE]) jl hf hm rfl rfl (by kernel_rfl) rfl rfl) ?_
     rintro _ w ⟨au,rfl,hm⟩
     replace hm:=hm.els_nil (α:=ey)
     replace hm:Mem w0 hz _ [els [] ([]:List ey),blk au [nV aP.1.op,nV aP.1.n_,(tV aP.1.name),bE] 86,blk bp100 [v3p,nV aP.2.p] 77,ow [nV aP.1.op,nV aP.1.n_,(tV aP.1.name),bE] (aP.1:ey),blk bp0 [(pV bp100),v1p,v2p,nV g.next_,nV (w64 (g.left - 1))] 83,opt v2p g.vars v2p g.vars]:=iM aP.1 hm 3 rfl
     replace hm:=(hm.els_cons 0 3 (by decide) rfl rfl).pk (L':=[_,_,_,_,_]) [0,1,2,4,5] rfl rfl
     replace hm:=(hm.lit_els 1 0 (by decide) rfl rfl rfl rfl).pk (L':=[_,_,_,_]) [1,2,3,4] rfl rfl
     refine gY (yG rfl (fY (vs:=[(0,(nV 7)),(2,(sV au 0 1 1))]) (cs:=#[nV 7,(tV (mkS [])),sV au 0 1 1,.slice none 0 0,.slice none 0 0]) rfl rfl (by kernel_rfl))) (gf rfl (λa hf=>fL (vs:=#[(0,(.agg #[nV 7,(tV (mkS [])),sV au 0 1 1,.slice none 0 0,.slice none 0 0]))]) (cs:=[nV 7,(tV (mkS [])),sV au 0 1 1,.slice none 0 0,.slice none 0 0]) lg hf hm rfl rfl (by kernel_rfl) rfl rfl) ?_)
     rintro _ w ⟨cf,rfl,hm⟩
     replace hm:=hm.els_nil (α:=fB)
     replace hm:=hm.nilow (α:=fB)
     replace hm:=hm.nilow (α:=fB)
     replace hm:=(lO 7 (mkS []) hm 4 1 0 rfl).pk (L':=[_,_,_,_,_,_]) [2,3,4,5,6,7] rfl rfl
     replace hm:=(hm.els_cons 0 2 (by decide) rfl rfl).pk (L':=[_,_,_,_,_]) [0,1,3,4,5] rfl rfl
     replace hm:=(hm.lit_els 1 0 (by decide) rfl rfl rfl rfl).pk (L':=[_,_,_,_]) [1,2,3,4] rfl rfl
     exact gA rfl (gE (gRt (gr1 results110 rfl ⟨sV cf 0 1 1,v2p,rfl,hm.pk [2,1,0,3] rfl rfl⟩)))
    refine gcf rfl (gSk (gS (gR (gM rfl (gM rfl ?_)))))
    obtain ⟨cg,hle,hm1,hsub,cj⟩:=hm.take2 (L1:=[_,_]) (L2:=[_]) [0,1] [2] (by decide) rfl rfl
    refine gCg rfl call132 (pspec_l3Gen__loop_rec _ cg (⟨g.fns,g.vars,g.next_,w64 (g.left - 1)⟩:ft) bp100 bp0 v1p (GT.mono hle h1p) v2p (GT.mono hle h2p) (⟨gRd.b,af.1⟩:fG) v3p (GT.mono hle h3p) deep hm1 ) ?_
    rintro dV dW ck w ⟨_,cl,rfl,hB⟩
    replace hm:=cj _ _ hB;clear hB
    replace hm:=(hm.opt_comp 4 3 (by decide) rfl rfl).pk (L':=[_,_,_,_]) [0,1,2,4] rfl rfl
    exact gA rfl (gE (gRt (gr1 results110 rfl ⟨ck,cl,rfl,hm.pk [0,1,2,3] rfl rfl⟩)))
  · intro rec_ ih_ g gRd deep r hq w0 hz bp100 bp0 v1p h1p v2p h2p v3p h3p hm0
    have pspec_l3Gen__block_rec:∀ (w0:World) (hz:fU) (g:ft) (bp100:Nat) (bp0:Nat) (v1p:Value) (h1p:GT.rep hz [v1p] g.fns) (v2p:Value) (h2p:GT.rep hz [v2p] g.vars) (gRd:fG) (v3p:Value) (h3p:GT.rep hz [v3p] gRd.b) (deep:Int) (hm0:Mem w0 hz w0 [blk bp0 [(pV bp100),v1p,v2p,nV g.next_,nV g.left] 83,blk bp100 [v3p,nV gRd.p] 77]) (r:(List fB) × ft × fG) (hq:rec_ g gRd deep=some r),Con Tryz.prog 82 [(pV bp0),nV deep] w0 (λv w'=>∃ (x1:Value) (x3:Value),v=x1∧Mem w0 hz w' [blk bp0 [(pV bp100),v1p,x3,nV r.2.1.next_,nV r.2.1.left] 83,blk bp100 [v3p,nV r.2.2.p] 77,ow [x1] r.1,opt v2p g.vars x3 r.2.1.vars]):=λw0 hz g bp100 bp0 v1p h1p v2p h2p gRd v3p h3p deep hm0 r hq=>ih_ g gRd deep r hq w0 hz bp100 bp0 v1p h1p v2p h2p v3p h3p hm0
    refine kI (ρ:=(List fB) × ft × fG) (R:=λr v w'=>∃ (x1:Value) (x3:Value),v=x1∧Mem w0 hz w' [blk bp0 [(pV bp100),v1p,x3,nV r.2.1.next_,nV r.2.1.left] 83,blk bp100 [v3p,nV r.2.2.p] 77,ow [x1] r.1,opt v2p g.vars x3 r.2.1.vars]) func132 rfl hq ?_
    have hm:=hm0
    replace hm:=hm.opt_new v2p g.vars
    refine gS (gR (gA rfl (gE (gS (gR (gM rfl (gM rfl (gY (yG rfl (fI rfl rfl)) (gF lE rfl (gL hm 1 isAgg41 rfl (gf rfl (λa hf=>fL (vs:=#[(0,(nV 2)),(1,(nV 3)),(2,(nV 1)),(3,(nV 0)),(4,(nV 5))]) (cs:=[nV 2,nV 3,nV 1,nV 0,nV 5]) oh hf hm rfl rfl (by kernel_rfl) rfl rfl) ?_)))))))))))
    rintro _ w ⟨aN,rfl,hm⟩
    replace hm:=hm.lit (xs:=([2,3,1,0,5]:List Int)) 0 rfl rfl rfl rfl
    obtain ⟨ak,hle,hm1,hsub,al⟩:=hm.take2 (L1:=[_]) (L2:=[_,_,_]) [3] [0,1,2] (by decide) rfl rfl
    refine gCg rfl call45 (gV _ ak gRd bp100 v3p (GT.mono hle h3p) ([2,3,1,0,5]:List Int) (sV aN 0 5 5) (kZ (hsub 0 _ rfl)) hm1 ) ?_
    rintro aH bV bU w ⟨rfl,hB⟩
    replace hm:=al _ _ hB;clear hB
    refine gY (yG rfl (fY (vs:=[(0,(nV 1)),(1,(nV aH.1))]) (cs:=#[nV 1,nV aH.1,(tV (mkS [])),.slice none 0 0]) rfl rfl (by kernel_rfl))) ?_
    replace hm:=hm.nilow (α:=ey)
    obtain ⟨bL,hle,hm1,hsub,bM⟩:=hm.take2 (L1:=[_,_,_]) (L2:=[_,_]) [4,1,0] [2,3] (by decide) rfl rfl
    refine gCg rfl call130 (oN _ bL g bp100 bp0 v1p (GT.mono hle h1p) v2p (GT.mono hle h2p) (⟨gRd.b,aH.2.p⟩:fG) v3p (GT.mono hle h3p) (⟨1,aH.1,(mkS []),([]:List ey)⟩:ey) (.slice none 0 0) hm1 ) ?_
    rintro aA bX bW w ⟨aD,aC,aF,bP,rfl,hB⟩
    replace hm:=bM _ _ hB;clear hB
    replace hm:=(hm.opt_comp 7 5 (by decide) rfl rfl).pk (L':=[_,_,_,_,_,_,_]) [0,1,2,3,4,6,7] rfl rfl
    refine gAl hm zeroValue71 rfl λaY w hm=>gSN hm 0 sizeOf71 (et rfl (et rfl (et (fS (hm.ow_rep 3 rfl)) (et (fS (hm.ow_rep 4 rfl)) (et (fS (hm.ow_rep 5 rfl)) fK))))) rfl λw hm=>gE (gS (gR (gF lL rfl (gL hm 0 isAgg9 rfl (gY (yG rfl (fY (vs:=[(0,(nV 2)),(2,(tV aA.1.name))]) (cs:=#[nV 2,nV 0,(tV aA.1.name),.slice none 0 0]) rfl rfl (by kernel_rfl))) (gAl hm zeroValue86 rfl λaZ w hm=>gSN hm 0 sizeOf86 (et rfl (et rfl (et rfl (et rfl fK)))) rfl λw hm=>gE (gS (gR (gM rfl (gM rfl (gB rfl ?_)))))))))))
    obtain ⟨bN,hle,hm1,hsub,bO⟩:=hm.take2 (L1:=[_,_]) (L2:=[_,_,_,_,_,_,_]) [2,3] [0,1,4,5,6,7,8] (by decide) rfl rfl
    refine gCg rfl call82 (pspec_l3Gen__block_rec _ bN (⟨g.fns,aA.2.1.vars,aA.2.1.next_,aA.2.1.left⟩:ft) bp100 bp0 v1p (GT.mono hle h1p) bP (qC hle h2p (hsub 6 _ rfl)) (⟨gRd.b,aA.2.2.p⟩:fG) v3p (GT.mono hle h3p) (w64 (deep - 1)) hm1 ) ?_
    rintro aB bY ah w ⟨_,aJ,rfl,hB⟩
    replace hm:=bO _ _ hB;clear hB
    replace hm:=(hm.opt_comp 10 3 (by decide) rfl rfl).pk (L':=[_,_,_,_,_,_,_,_,_,_]) [0,1,2,4,5,6,7,8,9,10] rfl rfl
    refine gA rfl (gE (gS (gR (gF lL rfl (gL hm 4 isAgg9 rfl (gY (yn (hm.blk_at 3 rfl) isAgg86 sizeOf86 rfl) (gY (yG rfl (fY (vs:=[(0,(nV 1)),(1,(nV 1))]) (cs:=#[nV 1,nV 1,(tV (mkS [])),.slice none 0 0]) rfl rfl (by kernel_rfl))) (gf rfl (λa hf=>fL (vs:=#[(0,(.agg #[nV 2,nV 0,(tV aA.1.name),.slice none 0 0])),(1,(.agg #[nV 1,nV 1,(tV (mkS [])),.slice none 0 0]))]) (cs:=[nV 2,nV 0,(tV aA.1.name),.slice none 0 0,nV 1,nV 1,(tV (mkS [])),.slice none 0 0]) jl hf hm rfl rfl (by kernel_rfl) rfl rfl) ?_))))))))
    rintro _ w ⟨aQ,rfl,hm⟩
    replace hm:=hm.els_nil (α:=ey)
    replace hm:=hm.nilow (α:=ey)
    replace hm:Mem w0 hz _ [ow [nV 1,nV 1,(tV (mkS [])),.slice none 0 0] ((⟨1,1,(mkS []),[]⟩:ey):ey),els [] ([]:List ey),blk aQ [nV 2,nV 0,(tV aA.1.name),.slice none 0 0,nV 1,nV 1,(tV (mkS [])),.slice none 0 0] 86,blk bp0 [(pV bp100),v1p,aJ,nV aB.2.1.next_,nV aB.2.1.left] 83,blk bp100 [v3p,nV aB.2.2.p] 77,ow [ah] aB.1,blk aZ [nV 2,nV 0,(tV aA.1.name),.slice none 0 0] 86,blk aY [nV aA.1.op,(tV aA.1.name),aD,aC,aF] 71,ow [aD] aA.1.args,ow [aC] aA.1.body,ow [aF] aA.1.else_,ow [sV aN 0 5 5] ([2,3,1,0,5]:List Int),opt v2p g.vars aJ aB.2.1.vars]:=lC 1 1 (mkS []) hm 0 rfl
    replace hm:=(hm.els_cons 1 0 (by decide) rfl rfl).pk (L':=[_,_,_,_,_,_,_,_,_,_,_,_]) [1,2,3,4,5,6,7,8,9,10,11,12] rfl rfl
    replace hm:=hm.nilow (α:=ey)
    replace hm:Mem w0 hz _ [ow [nV 2,nV 0,(tV aA.1.name),.slice none 0 0] ((⟨2,0,aA.1.name,[]⟩:ey):ey),els [nV 1,nV 1,(tV (mkS [])),.slice none 0 0] ([(⟨1,1,(mkS []),[]⟩:ey)]:List ey),blk aQ [nV 2,nV 0,(tV aA.1.name),.slice none 0 0,nV 1,nV 1,(tV (mkS [])),.slice none 0 0] 86,blk bp0 [(pV bp100),v1p,aJ,nV aB.2.1.next_,nV aB.2.1.left] 83,blk bp100 [v3p,nV aB.2.2.p] 77,ow [ah] aB.1,blk aZ [nV 2,nV 0,(tV aA.1.name),.slice none 0 0] 86,blk aY [nV aA.1.op,(tV aA.1.name),aD,aC,aF] 71,ow [aD] aA.1.args,ow [aC] aA.1.body,ow [aF] aA.1.else_,ow [sV aN 0 5 5] ([2,3,1,0,5]:List Int),opt v2p g.vars aJ aB.2.1.vars]:=lC 2 0 aA.1.name hm 0 rfl
    replace hm:=(hm.els_cons 1 0 (by decide) rfl rfl).pk (L':=[_,_,_,_,_,_,_,_,_,_,_,_]) [1,2,3,4,5,6,7,8,9,10,11,12] rfl rfl
    replace hm:=(hm.lit_els 1 0 (by decide) rfl rfl rfl rfl).pk (L':=[_,_,_,_,_,_,_,_,_,_,_]) [1,2,3,4,5,6,7,8,9,10,11] rfl rfl
    refine gY (yG rfl (fY (vs:=[(0,(nV 4)),(3,(sV aQ 0 2 2))]) (cs:=#[nV 4,nV 0,(tV (mkS [])),sV aQ 0 2 2]) rfl rfl (by kernel_rfl))) (gf rfl (λa hf=>fL (vs:=#[(0,(.agg #[nV 4,nV 0,(tV (mkS [])),sV aQ 0 2 2]))]) (cs:=[nV 4,nV 0,(tV (mkS [])),sV aQ 0 2 2]) jl hf hm rfl rfl (by kernel_rfl) rfl rfl) ?_)
    rintro _ w ⟨aR,rfl,hm⟩
    replace hm:=hm.els_nil (α:=ey)
    replace hm:Mem w0 hz _ [els [] ([]:List ey),blk aR [nV 4,nV 0,(tV (mkS [])),sV aQ 0 2 2] 86,ow [nV 4,nV 0,(tV (mkS [])),sV aQ 0 2 2] ((⟨4,0,(mkS []),([(⟨2,0,aA.1.name,[]⟩:ey),(⟨1,1,(mkS []),[]⟩:ey)]:List ey)⟩:ey):ey),blk bp0 [(pV bp100),v1p,aJ,nV aB.2.1.next_,nV aB.2.1.left] 83,blk bp100 [v3p,nV aB.2.2.p] 77,ow [ah] aB.1,blk aZ [nV 2,nV 0,(tV aA.1.name),.slice none 0 0] 86,blk aY [nV aA.1.op,(tV aA.1.name),aD,aC,aF] 71,ow [aD] aA.1.args,ow [aC] aA.1.body,ow [aF] aA.1.else_,ow [sV aN 0 5 5] ([2,3,1,0,5]:List Int),opt v2p g.vars aJ aB.2.1.vars]:=lC 4 0 (mkS []) hm 2 rfl
    replace hm:=(hm.els_cons 0 2 (by decide) rfl rfl).pk (L':=[_,_,_,_,_,_,_,_,_,_,_,_]) [0,1,3,4,5,6,7,8,9,10,11,12] rfl rfl
    replace hm:=(hm.lit_els 1 0 (by decide) rfl rfl rfl rfl).pk (L':=[_,_,_,_,_,_,_,_,_,_,_]) [1,2,3,4,5,6,7,8,9,10,11] rfl rfl
    refine gY (yG rfl (fY (vs:=[(0,(nV 2)),(1,(tV aA.1.name)),(2,(sV aR 0 1 1))]) (cs:=#[nV 2,(tV aA.1.name),sV aR 0 1 1,.slice none 0 0,.slice none 0 0]) rfl rfl (by kernel_rfl))) (gAl hm zeroValue71 rfl λaU w hm=>gSN hm 0 sizeOf71 (et rfl (et rfl (et rfl (et rfl (et rfl fK))))) rfl λw hm=>gE (gS (gR (gM rfl (gM rfl (gY (yG rfl (fI rfl rfl)) (gF pM rfl (gL hm 2 isAgg3 rfl (gB rfl (gY (yG rfl (fI rfl rfl)) (gF pM rfl (gS1 hm 2 sizeOf3 rfl rfl λw hm=>gE (gS (gJg (λaM a w=>∃ (aa:Value),St 50 [(4,aa)] w0 hz [ow [aa] aM,blk bp0 [(pV bp100),v1p,aJ,nV aB.2.1.next_,nV (w64 (aB.2.1.left - 2))] 83,blk bp100 [v3p,nV aB.2.2.p] 77,opt v2p g.vars aJ aB.2.1.vars] a w) (λaM=>?_) ?_))))))))))))))
    ·refine gW (.p 3 (.q 0 (.q 1 (.q 4 (.e 2 (.e 5 (.e 6 (.p 7 (.e 8 (.p 9 .fin) .nil)) .nil) .nil) (.e 5 (.e 2 (.e 6 (.p 7 (.e 8 (.p 9 .fin) .nil)) .nil) (.e 6 (.e 2 (.p 7 (.e 8 (.p 9 .fin) .nil)) .nil) .nil)) .nil)))))) [0, 1, 2, 4, 5, 6] [3, 7, 9] hm [0, 2, 3, 5, 6, 7, 8, 9, 10, 11] [_, _, _, _, _, _, _, _, _, _] rfl mxo (by kernel_rfl) (fun _ _ _ h => h.2) fun w hm hS => tP rfl (fun w => yM rfl) (tQ rfl hS (fun w hm => yn (hm.blk_at 4 rfl) isAgg71 sizeOf71 rfl) (tQ rfl hS (fun w hm => yn (hm.blk_at 3 rfl) isAgg86 sizeOf86 rfl) (tQ rfl hS (fun w hm => yn (hm.blk_at 0 rfl) isAgg71 sizeOf71 rfl) (gb fun aS bT => tMo ?_ ?_))))
     ·refine tf rfl rfl (fun a hf => fL (vs := #[(0, (.agg #[nV 2, nV 0, (tV aA.1.name), .slice none 0 0]))]) (cs := [nV 2, nV 0, (tV aA.1.name), .slice none 0 0]) jl hf hm rfl rfl (by kernel_rfl) rfl rfl) ?_
      rintro _ w ⟨av,rfl,hm⟩
      replace hm:=hm.els_nil (α:=ey)
      replace hm:=hm.nilow (α:=ey)
      replace hm:Mem w0 hz _ [ow [nV 2,nV 0,(tV aA.1.name),.slice none 0 0] ((⟨2,0,aA.1.name,[]⟩:ey):ey),els [] ([]:List ey),blk av [nV 2,nV 0,(tV aA.1.name),.slice none 0 0] 86,blk aU [nV 2,(tV aA.1.name),sV aR 0 1 1,.slice none 0 0,.slice none 0 0] 71,ow [sV aR 0 1 1] ([(⟨4,0,(mkS []),([(⟨2,0,aA.1.name,[]⟩:ey),(⟨1,1,(mkS []),[]⟩:ey)]:List ey)⟩:ey)]:List ey),blk bp0 [(pV bp100),v1p,aJ,nV aB.2.1.next_,nV (w64 (aB.2.1.left - 2))] 83,blk bp100 [v3p,nV aB.2.2.p] 77,ow [ah] aB.1,blk aZ [nV 2,nV 0,(tV aA.1.name),.slice none 0 0] 86,blk aY [nV aA.1.op,(tV aA.1.name),aD,aC,aF] 71,ow [aD] aA.1.args,ow [aC] aA.1.body,ow [aF] aA.1.else_,ow [sV aN 0 5 5] ([2,3,1,0,5]:List Int),opt v2p g.vars aJ aB.2.1.vars]:=lC 2 0 aA.1.name hm 0 rfl
      replace hm:=(hm.els_cons 1 0 (by decide) rfl rfl).pk (L':=[_,_,_,_,_,_,_,_,_,_,_,_,_,_]) [1,2,3,4,5,6,7,8,9,10,11,12,13,14] rfl rfl
      replace hm:=(hm.lit_els 1 0 (by decide) rfl rfl rfl rfl).pk (L':=[_,_,_,_,_,_,_,_,_,_,_,_,_]) [1,2,3,4,5,6,7,8,9,10,11,12,13] rfl rfl
      refine tAk hm [1,3,4,6,7,8,9,10,11,12] rfl λhS=>tO (tf rfl rfl (λa hf=>fL (vs:=#[(0,(.agg #[nV 2,(tV aA.1.name),sV aR 0 1 1,.slice none 0 0,.slice none 0 0]))]) (cs:=[nV 2,(tV aA.1.name),sV aR 0 1 1,.slice none 0 0,.slice none 0 0]) lg hf hm rfl rfl (by kernel_rfl) rfl rfl) ?_)
      rintro _ w ⟨dX,rfl,hm⟩
      replace hm:=hm.els_nil (α:=fB)
      replace hm:=hm.nilow (α:=fB)
      replace hm:=hm.nilow (α:=fB)
      replace hm:=(lO 2 aA.1.name hm 6 1 0 rfl).pk (L':=[_,_,_,_,_,_,_,_,_,_,_,_,_,_,_]) [2,3,4,5,6,7,8,9,10,11,12,13,14,15,16] rfl rfl
      replace hm:=(hm.els_cons 0 4 (by decide) rfl rfl).pk (L':=[_,_,_,_,_,_,_,_,_,_,_,_,_,_]) [0,1,2,3,5,6,7,8,9,10,11,12,13,14] rfl rfl
      replace hm:=(hm.lit_els 1 0 (by decide) rfl rfl rfl rfl).pk (L':=[_,_,_,_,_,_,_,_,_,_,_,_,_]) [1,2,3,4,5,6,7,8,9,10,11,12,13] rfl rfl
      refine tAk hm [2,3,4,6,7,8,9,10,11,12] rfl λhS=>tO ?_
      obtain ⟨bK,cm⟩:=fV.1 bT
      replace hm:=(hm.both 5 0 (by decide) rfl rfl).pk (L':=[_,_,_,_,_,_,_,_,_,_,_,_]) [1,2,3,4,5,6,7,8,9,10,11,12] rfl rfl
      refine tf rfl rfl (λa hf=>hZ (xs:=aB.1) (ys:=([(⟨2,aA.1.name,([(⟨4,0,(mkS []),([(⟨2,0,aA.1.name,[]⟩:ey),(⟨1,1,(mkS []),[]⟩:ey)]:List ey)⟩:ey)]:List ey),[],[]⟩:fB)]:List fB)) 4 lg hf hm rfl rfl rfl rfl bK) ?_
      rintro bb w hm
      rw [cm] at hm
      refine tAk hm [1,2,3,5,6,7,8,9,10,11] rfl λhS=>?_
      obtain ⟨am,an,rfl,br⟩:=fE (hm.ow_rep 4 rfl)
      refine tP rfl (λw=>yG rfl (fY (vs:=[(0,(nV 6)),(2,(sV av 0 1 1)),(3,(.slice am aS.length an))]) (cs:=#[nV 6,(tV (mkS [])),sV av 0 1 1,.slice am aS.length an,.slice none 0 0]) rfl rfl (by kernel_rfl))) (tO (tf rfl rfl (λa hf=>fL (vs:=#[(0,(.agg #[nV aA.1.op,(tV aA.1.name),aD,aC,aF])),(1,(.agg #[nV 6,(tV (mkS [])),sV av 0 1 1,.slice am aS.length an,.slice none 0 0]))]) (cs:=[nV aA.1.op,(tV aA.1.name),aD,aC,aF,nV 6,(tV (mkS [])),sV av 0 1 1,.slice am aS.length an,.slice none 0 0]) lg hf hm rfl rfl (by kernel_rfl) rfl rfl) ?_))
      rintro _ w ⟨cn,rfl,hm⟩
      replace hm:=hm.els_nil (α:=fB)
      replace hm:=hm.nilow (α:=fB)
      replace hm:=(lO 6 (mkS []) hm 3 7 0 rfl).pk (L':=[_,_,_,_,_,_,_,_,_,_,_,_,_]) [1,2,3,4,5,6,8,9,10,11,12,13,14] rfl rfl
      replace hm:=(hm.els_cons 0 2 (by decide) rfl rfl).pk (L':=[_,_,_,_,_,_,_,_,_,_,_,_]) [0,1,3,4,5,6,7,8,9,10,11,12] rfl rfl
      replace hm:=(o0 aA.1 hm 7 8 9 rfl).pk (L':=[_,_,_,_,_,_,_,_,_,_]) [0,1,2,3,4,5,6,7,10,11] rfl rfl
      replace hm:=(hm.els_cons 0 7 (by decide) rfl rfl).pk (L':=[_,_,_,_,_,_,_,_,_]) [0,1,2,3,4,5,6,8,9] rfl rfl
      replace hm:=(hm.lit_els 1 0 (by decide) rfl rfl rfl rfl).pk (L':=[_,_,_,_,_,_,_,_]) [1,2,3,4,5,6,7,8] rfl rfl
      exact tAn rfl (tP rfl (λw=>yA rfl) (tE (gZ λa hf=>⟨sV cn 0 2 2,hf.sb rfl,hm.pk [0,2,3,7] rfl rfl⟩)))
     refine tO (tf rfl rfl (λa hf=>fL (vs:=#[(0,(.agg #[nV 2,(tV aA.1.name),sV aR 0 1 1,.slice none 0 0,.slice none 0 0]))]) (cs:=[nV 2,(tV aA.1.name),sV aR 0 1 1,.slice none 0 0,.slice none 0 0]) lg hf hm rfl rfl (by kernel_rfl) rfl rfl) ?_)
     rintro _ w ⟨co,rfl,hm⟩
     replace hm:=hm.els_nil (α:=fB)
     replace hm:=hm.nilow (α:=fB)
     replace hm:=hm.nilow (α:=fB)
     replace hm:=(lO 2 aA.1.name hm 5 1 0 rfl).pk (L':=[_,_,_,_,_,_,_,_,_,_,_,_,_,_]) [2,3,4,5,6,7,8,9,10,11,12,13,14,15] rfl rfl
     replace hm:=(hm.els_cons 0 3 (by decide) rfl rfl).pk (L':=[_,_,_,_,_,_,_,_,_,_,_,_,_]) [0,1,2,4,5,6,7,8,9,10,11,12,13] rfl rfl
     replace hm:=(hm.lit_els 1 0 (by decide) rfl rfl rfl rfl).pk (L':=[_,_,_,_,_,_,_,_,_,_,_,_]) [1,2,3,4,5,6,7,8,9,10,11,12] rfl rfl
     refine tAk hm [1,2,3,5,6,7,8,9,10,11] rfl λhS=>tMo ?_ ?_
     ·refine tf rfl rfl (fun a hf => fL (vs := #[(0, (.agg #[nV 2, nV 0, (tV aA.1.name), .slice none 0 0]))]) (cs := [nV 2, nV 0, (tV aA.1.name), .slice none 0 0]) jl hf hm rfl rfl (by kernel_rfl) rfl rfl) ?_
      rintro _ w ⟨aw,rfl,hm⟩
      replace hm:=hm.els_nil (α:=ey)
      replace hm:=hm.nilow (α:=ey)
      replace hm:Mem w0 hz _ [ow [nV 2,nV 0,(tV aA.1.name),.slice none 0 0] ((⟨2,0,aA.1.name,[]⟩:ey):ey),els [] ([]:List ey),blk aw [nV 2,nV 0,(tV aA.1.name),.slice none 0 0] 86,ow [sV co 0 1 1] ([(⟨2,aA.1.name,([(⟨4,0,(mkS []),([(⟨2,0,aA.1.name,[]⟩:ey),(⟨1,1,(mkS []),[]⟩:ey)]:List ey)⟩:ey)]:List ey),[],[]⟩:fB)]:List fB),blk aU [nV 2,(tV aA.1.name),sV aR 0 1 1,.slice none 0 0,.slice none 0 0] 71,blk bp0 [(pV bp100),v1p,aJ,nV aB.2.1.next_,nV (w64 (aB.2.1.left - 2))] 83,blk bp100 [v3p,nV aB.2.2.p] 77,ow [ah] aB.1,blk aZ [nV 2,nV 0,(tV aA.1.name),.slice none 0 0] 86,blk aY [nV aA.1.op,(tV aA.1.name),aD,aC,aF] 71,ow [aD] aA.1.args,ow [aC] aA.1.body,ow [aF] aA.1.else_,ow [sV aN 0 5 5] ([2,3,1,0,5]:List Int),opt v2p g.vars aJ aB.2.1.vars]:=lC 2 0 aA.1.name hm 0 rfl
      replace hm:=(hm.els_cons 1 0 (by decide) rfl rfl).pk (L':=[_,_,_,_,_,_,_,_,_,_,_,_,_,_]) [1,2,3,4,5,6,7,8,9,10,11,12,13,14] rfl rfl
      replace hm:=(hm.lit_els 1 0 (by decide) rfl rfl rfl rfl).pk (L':=[_,_,_,_,_,_,_,_,_,_,_,_,_]) [1,2,3,4,5,6,7,8,9,10,11,12,13] rfl rfl
      refine tAk hm [2,3,4,6,7,8,9,10,11,12] rfl λhS=>tO ?_
      obtain ⟨bQ,cq⟩:=fV.1 bT
      replace hm:=(hm.both 5 1 (by decide) rfl rfl).pk (L':=[_,_,_,_,_,_,_,_,_,_,_,_]) [0,2,3,4,5,6,7,8,9,10,11,12] rfl rfl
      refine tf rfl rfl (λa hf=>hZ (xs:=aB.1) (ys:=([(⟨2,aA.1.name,([(⟨4,0,(mkS []),([(⟨2,0,aA.1.name,[]⟩:ey),(⟨1,1,(mkS []),[]⟩:ey)]:List ey)⟩:ey)]:List ey),[],[]⟩:fB)]:List fB)) 4 lg hf hm rfl rfl rfl rfl bQ) ?_
      rintro dY w hm
      rw [cq] at hm
      refine tAk hm [1,2,3,5,6,7,8,9,10,11] rfl λhS=>?_
      obtain ⟨bF,bG,rfl,dZ⟩:=fE (hm.ow_rep 4 rfl)
      refine tP rfl (λw=>yG rfl (fY (vs:=[(0,(nV 6)),(2,(sV aw 0 1 1)),(3,(.slice bF aS.length bG))]) (cs:=#[nV 6,(tV (mkS [])),sV aw 0 1 1,.slice bF aS.length bG,.slice none 0 0]) rfl rfl (by kernel_rfl))) (tO (tf rfl rfl (λa hf=>fL (vs:=#[(0,(.agg #[nV aA.1.op,(tV aA.1.name),aD,aC,aF])),(1,(.agg #[nV 6,(tV (mkS [])),sV aw 0 1 1,.slice bF aS.length bG,.slice none 0 0]))]) (cs:=[nV aA.1.op,(tV aA.1.name),aD,aC,aF,nV 6,(tV (mkS [])),sV aw 0 1 1,.slice bF aS.length bG,.slice none 0 0]) lg hf hm rfl rfl (by kernel_rfl) rfl rfl) ?_))
      rintro _ w ⟨cr,rfl,hm⟩
      replace hm:=hm.els_nil (α:=fB)
      replace hm:=hm.nilow (α:=fB)
      replace hm:=(lO 6 (mkS []) hm 3 7 0 rfl).pk (L':=[_,_,_,_,_,_,_,_,_,_,_,_,_]) [1,2,3,4,5,6,8,9,10,11,12,13,14] rfl rfl
      replace hm:=(hm.els_cons 0 2 (by decide) rfl rfl).pk (L':=[_,_,_,_,_,_,_,_,_,_,_,_]) [0,1,3,4,5,6,7,8,9,10,11,12] rfl rfl
      replace hm:=(o0 aA.1 hm 7 8 9 rfl).pk (L':=[_,_,_,_,_,_,_,_,_,_]) [0,1,2,3,4,5,6,7,10,11] rfl rfl
      replace hm:=(hm.els_cons 0 7 (by decide) rfl rfl).pk (L':=[_,_,_,_,_,_,_,_,_]) [0,1,2,3,4,5,6,8,9] rfl rfl
      replace hm:=(hm.lit_els 1 0 (by decide) rfl rfl rfl rfl).pk (L':=[_,_,_,_,_,_,_,_]) [1,2,3,4,5,6,7,8] rfl rfl
      exact tAn rfl (tP rfl (λw=>yA rfl) (tE (gZ λa hf=>⟨sV cr 0 2 2,hf.sb rfl,hm.pk [0,2,3,7] rfl rfl⟩)))
     refine tO ?_
     obtain ⟨bR,ct⟩:=fV.1 bT
     replace hm:=(hm.both 4 0 (by decide) rfl rfl).pk (L':=[_,_,_,_,_,_,_,_,_,_,_]) [1,2,3,4,5,6,7,8,9,10,11] rfl rfl
     refine tf rfl rfl (λa hf=>hZ (xs:=aB.1) (ys:=([(⟨2,aA.1.name,([(⟨4,0,(mkS []),([(⟨2,0,aA.1.name,[]⟩:ey),(⟨1,1,(mkS []),[]⟩:ey)]:List ey)⟩:ey)]:List ey),[],[]⟩:fB)]:List fB)) 3 lg hf hm rfl rfl rfl rfl bR) ?_
     rintro bS w hm
     rw [ct] at hm
     refine tAk hm [0,1,2,4,5,6,7,8,9,10] rfl λhS=>tO (tf rfl rfl (λa hf=>fL (vs:=#[(0,(.agg #[nV 2,nV 0,(tV aA.1.name),.slice none 0 0]))]) (cs:=[nV 2,nV 0,(tV aA.1.name),.slice none 0 0]) jl hf hm rfl rfl (by kernel_rfl) rfl rfl) ?_)
     rintro _ w ⟨ax,rfl,hm⟩
     replace hm:=hm.els_nil (α:=ey)
     replace hm:=hm.nilow (α:=ey)
     replace hm:Mem w0 hz _ [ow [nV 2,nV 0,(tV aA.1.name),.slice none 0 0] ((⟨2,0,aA.1.name,[]⟩:ey):ey),els [] ([]:List ey),blk ax [nV 2,nV 0,(tV aA.1.name),.slice none 0 0] 86,blk aU [nV 2,(tV aA.1.name),sV aR 0 1 1,.slice none 0 0,.slice none 0 0] 71,blk bp0 [(pV bp100),v1p,aJ,nV aB.2.1.next_,nV (w64 (aB.2.1.left - 2))] 83,blk bp100 [v3p,nV aB.2.2.p] 77,ow [bS] aS,blk aZ [nV 2,nV 0,(tV aA.1.name),.slice none 0 0] 86,blk aY [nV aA.1.op,(tV aA.1.name),aD,aC,aF] 71,ow [aD] aA.1.args,ow [aC] aA.1.body,ow [aF] aA.1.else_,ow [sV aN 0 5 5] ([2,3,1,0,5]:List Int),opt v2p g.vars aJ aB.2.1.vars]:=lC 2 0 aA.1.name hm 0 rfl
     replace hm:=(hm.els_cons 1 0 (by decide) rfl rfl).pk (L':=[_,_,_,_,_,_,_,_,_,_,_,_,_]) [1,2,3,4,5,6,7,8,9,10,11,12,13] rfl rfl
     replace hm:=(hm.lit_els 1 0 (by decide) rfl rfl rfl rfl).pk (L':=[_,_,_,_,_,_,_,_,_,_,_,_]) [1,2,3,4,5,6,7,8,9,10,11,12] rfl rfl
     refine tAk hm [1,2,3,5,6,7,8,9,10,11] rfl λhS=>?_
     obtain ⟨bH,bJ,rfl,d4⟩:=fE (hm.ow_rep 4 rfl)
     refine tP rfl (λw=>yG rfl (fY (vs:=[(0,(nV 6)),(2,(sV ax 0 1 1)),(3,(.slice bH aS.length bJ))]) (cs:=#[nV 6,(tV (mkS [])),sV ax 0 1 1,.slice bH aS.length bJ,.slice none 0 0]) rfl rfl (by kernel_rfl))) (tO (tf rfl rfl (λa hf=>fL (vs:=#[(0,(.agg #[nV aA.1.op,(tV aA.1.name),aD,aC,aF])),(1,(.agg #[nV 6,(tV (mkS [])),sV ax 0 1 1,.slice bH aS.length bJ,.slice none 0 0]))]) (cs:=[nV aA.1.op,(tV aA.1.name),aD,aC,aF,nV 6,(tV (mkS [])),sV ax 0 1 1,.slice bH aS.length bJ,.slice none 0 0]) lg hf hm rfl rfl (by kernel_rfl) rfl rfl) ?_))
     rintro _ w ⟨cu,rfl,hm⟩
     replace hm:=hm.els_nil (α:=fB)
     replace hm:=hm.nilow (α:=fB)
     replace hm:=(lO 6 (mkS []) hm 3 7 0 rfl).pk (L':=[_,_,_,_,_,_,_,_,_,_,_,_,_]) [1,2,3,4,5,6,8,9,10,11,12,13,14] rfl rfl
     replace hm:=(hm.els_cons 0 2 (by decide) rfl rfl).pk (L':=[_,_,_,_,_,_,_,_,_,_,_,_]) [0,1,3,4,5,6,7,8,9,10,11,12] rfl rfl
     replace hm:=(o0 aA.1 hm 7 8 9 rfl).pk (L':=[_,_,_,_,_,_,_,_,_,_]) [0,1,2,3,4,5,6,7,10,11] rfl rfl
     replace hm:=(hm.els_cons 0 7 (by decide) rfl rfl).pk (L':=[_,_,_,_,_,_,_,_,_]) [0,1,2,3,4,5,6,8,9] rfl rfl
     replace hm:=(hm.lit_els 1 0 (by decide) rfl rfl rfl rfl).pk (L':=[_,_,_,_,_,_,_,_]) [1,2,3,4,5,6,7,8] rfl rfl
     exact tAn rfl (tP rfl (λw=>yA rfl) (tE (gZ λa hf=>⟨sV cu 0 2 2,hf.sb rfl,hm.pk [0,2,3,7] rfl rfl⟩)))
    repeat clear hm
    rintro aM a w ⟨aa,hf,hm⟩
    exact gv hf (gRt (gr1 results132 rfl ⟨aa,aJ,rfl,hm.pk [1,2,0,3] rfl rfl⟩))
theorem qY (w0:World) (hz:fU) (g:ft) (bp100:Nat) (bp0:Nat) (v1p:Value) (h1p:GT.rep hz [v1p] g.fns) (v2p:Value) (h2p:GT.rep hz [v2p] g.vars) (gRd:fG) (v3p:Value) (h3p:GT.rep hz [v3p] gRd.b) (deep:Int) (hm0:Mem w0 hz w0 [blk bp0 [(pV bp100),v1p,v2p,nV g.next_,nV g.left] 83,blk bp100 [v3p,nV gRd.p] 77]) (r:(List fB) × ft × fG) (hq:jB g gRd deep=some r):Con Tryz.prog 82 [(pV bp0),nV deep] w0 (λv w'=>∃ (x1:Value) (x3:Value),v=x1∧Mem w0 hz w' [blk bp0 [(pV bp100),v1p,x3,nV r.2.1.next_,nV r.2.1.left] 83,blk bp100 [v3p,nV r.2.2.p] 77,ow [x1] r.1,opt v2p g.vars x3 r.2.1.vars]):=(qA ).1 g gRd deep r hq w0 hz bp100 bp0 v1p h1p v2p h2p v3p h3p hm0
theorem my (w0:World) (hz:fU) (g:ft) (bp100:Nat) (bp0:Nat) (v1p:Value) (h1p:GT.rep hz [v1p] g.fns) (v2p:Value) (h2p:GT.rep hz [v2p] g.vars) (gRd:fG) (v3p:Value) (h3p:GT.rep hz [v3p] gRd.b) (name:Str) (params:Int) (hm0:Mem w0 hz w0 [blk bp0 [(pV bp100),v1p,v2p,nV g.next_,nV g.left] 83,blk bp100 [v3p,nV gRd.p] 77]) :
    iF Tryz.prog 46 [(pV bp0),(tV name),nV params] w0 (kz g gRd name params) λr v w'=>∃ (x1:Value) (x2:Value) (x4:Value),v=(.agg #[(tV r.1.name),x1,x2])∧Mem w0 hz w' [blk bp0 [(pV bp100),v1p,x4,nV r.2.1.next_,nV r.2.1.left] 83,blk bp100 [v3p,nV r.2.2.p] 77,ow [x1] r.1.params,ow [x2] r.1.body,opt v2p g.vars x4 r.2.1.vars]:=by
  unfold kz
  refine iR func46 rfl λr=>?_
  have hm:=hm0
  replace hm:=hm.opt_new v2p g.vars
  refine gS (gR (gAl hm zeroValue54 rfl λaH w hm=>gE (gS (gR (gM rfl (gf rfl (λa hf=>fL (vs:=#[(0,(tV (mkS [97]))),(1,(tV (mkS [98]))),(2,(tV (mkS [99])))]) (cs:=[(tV (mkS [97])),(tV (mkS [98])),(tV (mkS [99]))]) lK hf hm rfl rfl (by kernel_rfl) rfl rfl) ?_))))))
  rintro _ w ⟨aR,rfl,hm⟩
  replace hm:=hm.lit (xs:=([(mkS [97]),(mkS [98]),(mkS [99])]:List Str)) 0 rfl rfl rfl rfl
  refine gM rfl (gb λaO aS=>?_)
  obtain ⟨aT,aU⟩:=p9.1 aS
  have aV:=(hm.ow_rep 0 rfl)
  obtain ⟨aP,aQ⟩:∃ nv,nv=rJ (GT.sz (Str)) (sV aR 0 3 3) (0:Int).toNat (params:Int).toNat:=⟨_,rfl⟩
  refine gY (yG rfl (aa6 aQ (ai7 (α:=Str) jO aV rfl rfl rfl aT _))) (gY (yG rfl (fI rfl rfl)) (gF mQ rfl ?_))
  replace hm:=hm.imp (c':=ow [aP] aO) 0 rfl (λF h0=>by rw [aQ,← aU];exact wR h0 (by omega) (by omega))
  replace hm:=(hm.opt_own 2 0 (by decide) rfl rfl).pk (L':=[_,_,_,_]) [1,2,3,4] rfl rfl
  refine gS1 hm 2 sizeOf47 (fS (hm.opt_rep 1 rfl h2p)) rfl λw hm=>gE (gS (gR (gM rfl (gM rfl (gB rfl (gY (yG rfl (fI rfl rfl)) (gF rv rfl (gS1 hm 2 sizeOf3 rfl rfl λw hm=>gE (gS (gR (gM rfl (gf rfl (λa hf=>ko (α:=Str) lK hm rfl) ?_))))))))))))
  rintro an w hm
  refine gM rfl (gY (yG rfl (fI rfl rfl)) (gF mQ rfl (gL hm 3 isAgg47 rfl (gb λaC aX=>?_))))
  obtain ⟨aY,aZ⟩:=fV.1 aX
  refine gf rfl (λa hf=>iL 0 lK hf hm rfl (hm.opt_rep 2 rfl h2p) rfl rfl rfl aY) ?_
  rintro ao w hm
  rw [aZ] at hm
  obtain ⟨aD,aE,rfl,aq⟩:=fE (hm.ow_rep 0 rfl)
  refine gY (yG rfl (fY (vs:=[(0,(tV name)),(1,(.slice aD aC.length aE))]) (cs:=#[(tV name),.slice aD aC.length aE,.slice none 0 0]) rfl rfl (by kernel_rfl))) (gAl hm zeroValue54 rfl λaI w hm=>gSN hm 0 sizeOf54 (et rfl (et rfl (et rfl fK))) rfl λw hm=>gE (gS (gR (gM rfl ?_))))
  obtain ⟨a8,hle,hm1,hsub,aa⟩:=hm.take2 (L1:=[_,_]) (L2:=[_,_,_,_]) [4,5] [0,1,2,3] (by decide) rfl rfl
  refine gCg rfl call82 (qY _ a8 (⟨g.fns,aO,w64 (params - 1),g.left⟩:ft) bp100 bp0 v1p (GT.mono hle h1p) aP (qC hle h2p (hsub 3 _ rfl)) gRd v3p (GT.mono hle h3p) 3 hm1 ) ?_
  rintro aA ar aG w ⟨_,aF,rfl,hB⟩
  replace hm:=aa _ _ hB;clear hB
  replace hm:=(hm.opt_comp 7 3 (by decide) rfl rfl).pk (L':=[_,_,_,_,_,_,_]) [0,1,2,4,5,6,7] rfl rfl
  refine gF l0 rfl (gS1 hm 3 sizeOf52 (fS (hm.ow_rep 2 rfl)) rfl λw hm=>gE (gS (gS (gJ hm (λaJ=>[(0,(pV bp0)),(6,(pV aH)),(7,(pV aI)),(42,(.bool (aJ.2)))]) (λaJ=>[blk bp0 [(pV bp100),v1p,aF,nV aA.2.1.next_,nV aA.2.1.left] 83,blk bp100 [v3p,nV aJ.1] 77,opt v2p g.vars aF aA.2.1.vars,blk aH [(tV (mkS [])),.slice none 0 0,.slice none 0 0] 54,blk aI [(tV name),.slice aD aC.length aE,aG] 54,ow [.slice aD aC.length aE] aC,ow [aG] aA.1]) (λaJ=>?_) ?_))))
  ·refine gR (gM rfl (gY (yG rfl (fI rfl rfl)) (gF pM rfl (gL hm 0 isAgg3 rfl (gB rfl (gM rfl (gsd 35 rfl (λab=>?_) λab=>?_)))))))
   ·refine gM rfl (gY (yG rfl (fI rfl rfl)) (gF lE rfl (gL hm 0 isAgg41 rfl ?_)))
    obtain ⟨ac,hle,hm1,hsub,ae⟩:=hm.take2 (L1:=[_]) (L2:=[_,_,_,_,_,_]) [1] [0,2,3,4,5,6] (by decide) rfl rfl
    refine gCg rfl call18 (fR _ ac (⟨gRd.b,aA.2.2.p⟩:fG) bp100 v3p (GT.mono hle h3p) 4 hm1 ) ?_
    rintro au av aw w ⟨rfl,hB⟩
    replace hm:=ae _ _ hB;clear hB
    exact gB rfl (gKt rfl (gE (gz hm [1,0,6,5,3,4,2] rfl)))
   exact gO rfl (gO rfl (gO rfl (gO rfl (gO rfl (gO rfl (gKf rfl (gE (gz hm [0,1,6,5,3,4,2] rfl))))))))
  repeat clear hm
  intro aJ w hm
  refine gJg (λaK a w=>∃ (aM:Value),St 61 [(6,(pV aH)),(7,(pV aI))] w0 hz [blk aH [(tV (mkS [])),.slice none 0 0,.slice none 0 0] 54,blk aI [(tV name),.slice aD aC.length aE,aM] 54,ow [.slice aD aC.length aE] aC,ow [aM] aK.1,blk bp0 [(pV bp100),v1p,aF,nV aA.2.1.next_,nV aK.2.2] 83,blk bp100 [v3p,nV aK.2.1] 77,opt v2p g.vars aF aA.2.1.vars] a w) (λaK=>?_) ?_
  ·refine gs 42 rfl (λaf=>?_) λaf=>?_
   ·refine gct rfl (gS (gR (gM rfl (gM rfl (gY (yG rfl (fI rfl rfl)) (gF pM rfl (gL hm 0 isAgg3 rfl (gB rfl (gY (yG rfl (fI rfl rfl)) (gF pM rfl (gS1 hm 0 sizeOf3 rfl rfl fun w hm => gE (gW (.p 0 (.p 2 (.q 1 (.e 3 (.e 4 (.p 5 (.e 6 (.e 7 (.p 8 (.e 9 .fin .nil)) .nil) .nil)) .nil) .nil)))) [3, 4, 6] [0, 2, 5, 8] hm [0, 2, 3, 4, 5, 6] [blk bp0 [(pV bp100), v1p, aF, nV aA.2.1.next_, nV (w64 (aA.2.1.left - 1))] 83, opt v2p g.vars aF aA.2.1.vars, blk aH [(tV (mkS [])), .slice none 0 0, .slice none 0 0] 54, blk aI [(tV name), .slice aD aC.length aE, aG] 54, ow [.slice aD aC.length aE] aC, ow [aG] aA.1] rfl mxo (by kernel_rfl) (fun _ _ _ h => h.2) fun w hm hS => tP rfl (fun w => yF l0 rfl) (tP rfl (fun w => yM rfl) (tQ rfl hS (fun w hm => yL hm 3 isAgg52 rfl) (tO (gb fun aB ag => ?_))))))))))))))))
    obtain ⟨ah,hle,hm1,hsub,ai⟩:=hm.take2 (L1:=[_]) (L2:=[_,_,_,_,_,_]) [1] [0,2,3,4,5,6] (by decide) rfl rfl
    refine tf rfl rfl (λa hf=>fo hf rfl call83 rfl (iV _ ah (⟨g.fns,aA.2.1.vars,aA.2.1.next_,w64 (aA.2.1.left - 1)⟩:ft) bp100 bp0 v1p (GT.mono hle h1p) aF (qC hle h2p (hsub 1 _ rfl)) (pj (hsub 0 _ rfl)) (⟨gRd.b,aJ.1⟩:fG) v3p (GT.mono hle h3p) 2 hm1  _ ag)) ?_
    rintro ax w ⟨aN,rfl,hB⟩
    replace hm:=ai _ _ hB;clear hB
    refine tAk hm [2,3,4,5,6,7] rfl λhS=>tO (tf rfl rfl (λa hf=>fL (vs:=#[(0,(.agg #[nV aB.1.op,nV aB.1.n_,(tV aB.1.name),aN]))]) (cs:=[nV aB.1.op,nV aB.1.n_,(tV aB.1.name),aN]) jl hf hm rfl rfl (by kernel_rfl) rfl rfl) ?_)
    rintro _ w ⟨aL,rfl,hm⟩
    replace hm:=hm.els_nil (α:=ey)
    replace hm:Mem w0 hz _ [els [] ([]:List ey),blk aL [nV aB.1.op,nV aB.1.n_,(tV aB.1.name),aN] 86,blk bp100 [v3p,nV aB.2.p] 77,ow [nV aB.1.op,nV aB.1.n_,(tV aB.1.name),aN] (aB.1:ey),blk bp0 [(pV bp100),v1p,aF,nV aA.2.1.next_,nV (w64 (aA.2.1.left - 1))] 83,opt v2p g.vars aF aA.2.1.vars,blk aH [(tV (mkS [])),.slice none 0 0,.slice none 0 0] 54,blk aI [(tV name),.slice aD aC.length aE,aG] 54,ow [.slice aD aC.length aE] aC,ow [aG] aA.1]:=iM aB.1 hm 3 rfl
    replace hm:=(hm.els_cons 0 3 (by decide) rfl rfl).pk (L':=[_,_,_,_,_,_,_,_,_]) [0,1,2,4,5,6,7,8,9] rfl rfl
    replace hm:=(hm.lit_els 1 0 (by decide) rfl rfl rfl rfl).pk (L':=[_,_,_,_,_,_,_,_]) [1,2,3,4,5,6,7,8] rfl rfl
    refine tAk hm [2,3,4,5,6,7] rfl λhS=>tP rfl (λw=>yG rfl (fY (vs:=[(0,(nV 7)),(2,(sV aL 0 1 1))]) (cs:=#[nV 7,(tV (mkS [])),sV aL 0 1 1,.slice none 0 0,.slice none 0 0]) rfl rfl (by kernel_rfl))) (tO (tf rfl rfl (λa hf=>fL (vs:=#[(0,(.agg #[nV 7,(tV (mkS [])),sV aL 0 1 1,.slice none 0 0,.slice none 0 0]))]) (cs:=[nV 7,(tV (mkS [])),sV aL 0 1 1,.slice none 0 0,.slice none 0 0]) lg hf hm rfl rfl (by kernel_rfl) rfl rfl) ?_))
    rintro _ w ⟨ay,rfl,hm⟩
    replace hm:=hm.els_nil (α:=fB)
    replace hm:=hm.nilow (α:=fB)
    replace hm:=hm.nilow (α:=fB)
    replace hm:=(lO 7 (mkS []) hm 4 1 0 rfl).pk (L':=[_,_,_,_,_,_,_,_,_,_]) [2,3,4,5,6,7,8,9,10,11] rfl rfl
    replace hm:=(hm.els_cons 0 2 (by decide) rfl rfl).pk (L':=[_,_,_,_,_,_,_,_,_]) [0,1,3,4,5,6,7,8,9] rfl rfl
    replace hm:=(hm.lit_els 1 0 (by decide) rfl rfl rfl rfl).pk (L':=[_,_,_,_,_,_,_,_]) [1,2,3,4,5,6,7,8] rfl rfl
    refine tAk hm [2,3,4,5,6,7] rfl λhS=>tO (gb λaz aj=>?_)
    obtain ⟨ak,al⟩:=fV.1 aj
    replace hm:=(hm.both 7 0 (by decide) rfl rfl).pk (L':=[_,_,_,_,_,_,_]) [1,2,3,4,5,6,7] rfl rfl
    refine tf rfl rfl (λa hf=>hZ (xs:=aA.1) (ys:=([(⟨7,(mkS []),([aB.1]:List ey),[],[]⟩:fB)]:List fB)) 6 lg hf hm rfl rfl rfl rfl ak) ?_
    rintro am w hm
    rw [al] at hm
    refine tAn rfl (tP rfl (λw=>yF l0 rfl) (tO (tf0 rfl rfl (λa hf=>jw 4 hf hm rfl sizeOf52 rfl rfl rfl (fS (hm.ow_rep 6 rfl)) rfl) ?_)))
    rintro _ w hm
    exact tAn rfl (tE (gZ λa hf=>⟨am,hf.sb rfl,hm.pk [3,4,5,6,1,0,2] rfl rfl⟩))
   exact gcf rfl (gSk (gZ λa hf=>⟨aG,hf.sb rfl,hm.pk [3,4,5,6,0,1,2] rfl rfl⟩))
  repeat clear hm
  rintro aK a w ⟨aM,hf,hm⟩
  exact gv hf (gS (gR (gY (yn (hm.blk_at 1 rfl) isAgg54 sizeOf54 rfl) (gSN hm 0 sizeOf54 (et rfl (et rfl (et (fS (hm.ow_rep 3 rfl)) fK))) rfl λw hm=>gE (gRt (grc 0 results46 hm rfl isAgg54 sizeOf54 ⟨.slice aD aC.length aE,aM,aF,rfl,hm.pk [4,5,2,3,6] rfl rfl⟩))))))
theorem lD (w0:World) (n_:Int) (low:Int) (high:Int) :
    iF Tryz.prog 66 [nV n_,nV low,nV high] w0 (kx n_ low high) λr v w'=>v=(.bool (r))∧Below w0.heap.size w0 w':=by
  unfold kx
  refine iR func66 rfl λr=>?_
  have hm:=Mem.start w0
  refine gS (gR (gA rfl (gE (gS (gJ hm (λaA=>[(6,(.bool (aA)))]) (λaA=>[]) (λaA=>?_) ?_)))))
  ·refine gR (gM rfl (gM rfl (gB rfl (gM rfl (gsd 10 rfl (λaB=>?_) λaB=>?_)))))
   ·exact gM rfl (gM rfl (gB rfl (gKt rfl (gA rfl (gE (gz hm [] rfl))))))
   exact gO rfl (gO rfl (gO rfl (gKf rfl (gA rfl (gE (gz hm [] rfl))))))
  repeat clear hm
  intro aA w hm
  exact gRt (gr1 results66 rfl ⟨rfl,hm.below⟩)
theorem uc (w0:World) (s_:Str) (c_:UInt8) :
    iF Tryz.prog 95 [(tV s_),(.int .u8 ((c_).toNat:Int))] w0 (nM s_ c_) λr v w'=>v=(nV r)∧Below w0.heap.size w0 w':=by
  unfold nM
  refine iR func95 rfl λr=>?_
  have hm:=Mem.start w0
  refine gS (gR (gA rfl (gE (gS (gS (gR (gA rfl (gE (gBk (gNf hm (λaA aB=>[(0,(tV s_)),(1,(.int .u8 ((c_).toNat:Int))),(5,(nV aA))]) (λaA aB=>[]) [] rfl ?_ ?_))))))))))
  ·repeat clear hm
   intro aI aC aA aB w hm aJ aK aL aD
   refine gS (gS (gR (gM rfl (gM rfl (gY (yG rfl (iH (p:=s_) underlying9 rfl rfl)) ?_)))))
   have aM:=(s_).h
   refine gB rfl (gE (go _ 9 rfl (decide_eq_true (by omega)) (gct rfl (gSk (gS (gBk (gS (gR (gM rfl (gM rfl (gg λaE aF aG=>gY (yG rfl (jJ (p:=s_) underlying9 rfl rfl rfl aF aG)) (gM rfl (gY (yG rfl (qe (b:=aE) (c:=c_) rfl rfl rfl)) (gE (gsd 16 rfl (λaH=>?_) λaH=>?_)))))))))))))))
   ·exact gct rfl (gS (gR (gM rfl (gA rfl (gE (gRt (gLr aD aC (gr1 results95 rfl ⟨rfl,hm.below⟩))))))))
   exact gcf rfl (gSk (gR (gM rfl (gP (by omega) (by omega) rfl (gA rfl (gE (gze hm [] rfl)))))))
  repeat clear hm
  intro aN aO w hm aP aQ
  refine gS (gS (gR (gM rfl (gM rfl (gY (yG rfl (iH (p:=s_) underlying9 rfl rfl)) ?_)))))
  have aR:=(s_).h
  exact gB rfl (gE (go _ 9 rfl (decide_eq_false (by omega)) (gcf rfl (gXt (gHh (gS (gR (gA rfl (gE (gRt (gr1 results95 rfl ⟨rfl,hm.below⟩)))))))))))
theorem lp (w0:World) (b_:UInt8) :
    iF Tryz.prog 59 [(.int .u8 ((b_).toNat:Int))] w0 (ir b_) λr v w'=>v=(nV r)∧Below w0.heap.size w0 w':=by
  unfold ir
  refine iR func59 rfl λr=>?_
  have hm:=Mem.start w0
  refine gS (gR (gA rfl (gE (gS (gBk (gS (gJ hm (λaA=>[(0,(.int .u8 ((b_).toNat:Int))),(3,(.bool (aA)))]) (λaA=>[]) (λaA=>?_) ?_)))))))
  ·refine gR (gM rfl (gY (yG rfl (an1 (b:=b_) (c:=(97:UInt8)) rfl rfl rfl)) (gM rfl (gsd 6 rfl (λaD=>?_) λaD=>?_))))
   ·exact gM rfl (gY (yG rfl (tC (b:=b_) (c:=(122:UInt8)) rfl rfl rfl)) (gKt rfl (gA rfl (gE (gz hm [] rfl)))))
   exact gO rfl (gO rfl (gKf rfl (gA rfl (gE (gz hm [] rfl)))))
  repeat clear hm
  intro aA w hm
  refine gs 3 rfl (λaE=>?_) λaE=>?_
  ·exact gct rfl (gS (gR (gA rfl (gE (gRt (gr1 results59 rfl ⟨rfl,hm.below⟩))))))
  refine gcf rfl (gS (gJ hm (λaB=>[(0,(.int .u8 ((b_).toNat:Int))),(10,(.bool (aB)))]) (λaB=>[]) (λaB=>?_) ?_))
  ·refine gR (gM rfl (gY (yG rfl (an1 (b:=b_) (c:=(48:UInt8)) rfl rfl rfl)) (gM rfl (gsd 13 rfl (λaF=>?_) λaF=>?_))))
   ·exact gM rfl (gY (yG rfl (tC (b:=b_) (c:=(57:UInt8)) rfl rfl rfl)) (gKt rfl (gA rfl (gE (gz hm [] rfl)))))
   exact gO rfl (gO rfl (gKf rfl (gA rfl (gE (gz hm [] rfl)))))
  repeat clear hm
  intro aB w hm
  refine gs 10 rfl (λaG=>?_) λaG=>?_
  ·exact gct rfl (gS (gR (gA rfl (gE (gRt (gr1 results59 rfl ⟨rfl,hm.below⟩))))))
  refine gcf rfl (gS (gR (gM rfl (gC hm rfl call95 (uc _ (mkS [40,41,123,125,59,44,43,45,42,47,37,60,61,38,33,64]) b_) λaK aL w hm=>gB rfl (gA rfl (gE (gsd 17 rfl (λaH=>?_) λaH=>?_)))))))
  ·exact gct rfl (gS (gR (gA rfl (gE (gRt (gr1 results59 rfl ⟨rfl,hm.below⟩))))))
  refine gcf rfl (gS (gJ hm (λaC=>[(21,(.bool (aC)))]) (λaC=>[]) (λaC=>?_) ?_))
  ·refine gR (gM rfl (gY (yG rfl (qe (b:=b_) (c:=(32:UInt8)) rfl rfl rfl)) (gM rfl (gsd 24 rfl (λaI=>?_) λaI=>?_))))
   ·exact gO rfl (gO rfl (gKt rfl (gA rfl (gE (gz hm [] rfl)))))
   exact gM rfl (gY (yG rfl (qe (b:=b_) (c:=(10:UInt8)) rfl rfl rfl)) (gKf rfl (gA rfl (gE (gz hm [] rfl)))))
  repeat clear hm
  intro aC w hm
  refine gs 21 rfl (λaJ=>?_) λaJ=>?_
  ·exact gct rfl (gS (gR (gA rfl (gE (gRt (gr1 results59 rfl ⟨rfl,hm.below⟩))))))
  exact gcf rfl (gSk (gS (gR (gA rfl (gE (gRt (gr1 results59 rfl ⟨rfl,hm.below⟩)))))))
theorem xG (w0:World) (s_:Str) (class_:Int) :
    iF Tryz.prog 117 [(tV s_),nV class_] w0 (o8 s_ class_) λr v w'=>v=(.bool (r))∧Below w0.heap.size w0 w':=by
  unfold o8
  refine iR func117 rfl λr=>?_
  have hm:=Mem.start w0
  refine gS (gR (gA rfl (gE (gS (gS (gR (gA rfl (gE (gBk (gNf hm (λaA aB=>[(0,(tV s_)),(1,(nV class_)),(5,(nV aA))]) (λaA aB=>[]) [] rfl ?_ ?_))))))))))
  ·repeat clear hm
   intro aI aC aA aB w hm aJ aK aL aD
   refine gS (gS (gR (gM rfl (gM rfl (gY (yG rfl (iH (p:=s_) underlying9 rfl rfl)) ?_)))))
   have aM:=(s_).h
   refine gB rfl (gE (go _ 9 rfl (decide_eq_true (by omega)) (gct rfl (gSk (gS (gBk (gS (gR (gM rfl (gM rfl (gg λaE aF aG=>gY (yG rfl (jJ (p:=s_) underlying9 rfl rfl rfl aF aG)) (gC hm rfl call59 (lp _ aE) λaN aO w hm=>gM rfl (gB rfl (gE (gsd 17 rfl (λaH=>?_) λaH=>?_)))))))))))))))
   ·exact gct rfl (gS (gR (gA rfl (gE (gRt (gLr aD aC (gr1 results117 rfl ⟨rfl,hm.below⟩)))))))
   exact gcf rfl (gSk (gR (gM rfl (gP (by omega) (by omega) rfl (gA rfl (gE (gze hm [] rfl)))))))
  repeat clear hm
  intro aP aQ w hm aR aS
  refine gS (gS (gR (gM rfl (gM rfl (gY (yG rfl (iH (p:=s_) underlying9 rfl rfl)) ?_)))))
  have aT:=(s_).h
  exact gB rfl (gE (go _ 9 rfl (decide_eq_false (by omega)) (gcf rfl (gXt (gHh (gS (gR (gM rfl (gY (yG rfl (iH (p:=s_) underlying9 rfl rfl)) (gB rfl (gA rfl (gE (gRt (gr1 results117 rfl ⟨rfl,hm.below⟩))))))))))))))
theorem p5 (w0:World) :
    iF Tryz.prog 85 [] w0 (lu ) λr v w'=>∃ (x1:Value),v=x1∧Mem w0 (hp w0) w' [ow [x1] r]:=by
  unfold lu
  refine iR func85 rfl λr=>?_
  have hm:=Mem.start w0
  refine gS (gR (gA rfl (gE (gS (gR (gf rfl (λa hf=>fL (vs:=#[(0,(tV (mkS [102,110]))),(1,(tV (mkS [108,101,116]))),(2,(tV (mkS [115,97,121]))),(3,(tV (mkS [112,117,116]))),(4,(tV (mkS [105,102]))),(5,(tV (mkS [101,108,115,101]))),(6,(tV (mkS [108,111,111,112]))),(7,(tV (mkS [98,97,99,107]))),(8,(tV (mkS [100,111])))]) (cs:=[(tV (mkS [102,110])),(tV (mkS [108,101,116])),(tV (mkS [115,97,121])),(tV (mkS [112,117,116])),(tV (mkS [105,102])),(tV (mkS [101,108,115,101])),(tV (mkS [108,111,111,112])),(tV (mkS [98,97,99,107])),(tV (mkS [100,111]))]) lK hf hm rfl rfl (by kernel_rfl) rfl rfl) ?_))))))
  rintro _ w ⟨aA,rfl,hm⟩
  replace hm:=hm.lit (xs:=([(mkS [102,110]),(mkS [108,101,116]),(mkS [115,97,121]),(mkS [112,117,116]),(mkS [105,102]),(mkS [101,108,115,101]),(mkS [108,111,111,112]),(mkS [98,97,99,107]),(mkS [100,111])]:List Str)) 0 rfl rfl rfl rfl
  exact gA rfl (gE (gRt (gr1 results85 rfl ⟨sV aA 0 9 9,rfl,hm.pk [0] rfl rfl⟩)))
theorem pQ (w0:World) (s_:Str) :
    iF Tryz.prog 98 [(tV s_)] w0 (nA s_) λr v w'=>v=(.bool (r))∧Below w0.heap.size w0 w':=by
  unfold nA
  refine iR func98 rfl λr=>?_
  have hm:=Mem.start w0
  refine gS (gR (gA rfl (gE (gS (gR (gCg rfl call85 (p5 _ ) ?_))))))
  rintro aA aL aM w ⟨_,rfl,hB⟩
  replace hm:=hm.give hB;clear hB
  refine gA rfl (gE (gS (gS (gR (gA rfl (gE ?_))))))
  obtain ⟨aD,aE,rfl,aN⟩:=fE (hm.ow_rep 0 rfl)
  refine gBk (gNf hm (λaB aF=>[(0,(tV s_)),(3,(.slice aD aA.length aE)),(4,(nV aB))]) (λaB aF=>[ow [.slice aD aA.length aE] aA]) [0] rfl ?_ ?_)
  ·repeat clear hm
   intro aO aH aB aF w hm aP aQ aR aI
   refine gS (gS (gR (gM rfl (gM rfl (gY (yV jO rfl) (gB rfl (gE (go _ 9 rfl (decide_eq_true (by omega)) (gct rfl (gSk (gS (gBk (gS (gR (gM rfl (gM rfl (gg λaG aJ aC=>?_)))))))))))))))))
   obtain ⟨aS,aT,aU,he⟩:=iS (hm.ow_rep 0 rfl) aC
   obtain ⟨rfl,_,rfl⟩:=sl3 he
   refine gI jO aJ (ff aC) rfl (gY (yl isAgg9 ((gK (cs:=[(tV aG)]) (hm.ow_rep 0 rfl) aC rfl).cell (j:=0) rfl) rfl) (gM rfl (gY (yG rfl (qm (p:=aG) (q:=s_) rfl rfl rfl)) (gE (gsd 17 rfl (λaK=>?_) λaK=>?_)))))
   ·exact gct rfl (gS (gR (gA rfl (gE (gRt (gLr aI aH (gr1 results98 rfl ⟨rfl,hm.below⟩)))))))
   exact gcf rfl (gSk (gR (gM rfl (gP (by omega) (by omega) rfl (gA rfl (gE (gze hm [0] rfl)))))))
  repeat clear hm
  intro aV aX w hm aY aZ
  exact gS (gS (gR (gM rfl (gM rfl (gY (yV jO rfl) (gB rfl (gE (go _ 9 rfl (decide_eq_false (by omega)) (gcf rfl (gXt (gHh (gS (gR (gA rfl (gE (gRt (gr1 results98 rfl ⟨rfl,hm.below⟩)))))))))))))))))
theorem mN (w0:World) (s_:Str) :
    iF Tryz.prog 96 [(tV s_)] w0 (kb s_) λr v w'=>v=(.bool (r))∧Below w0.heap.size w0 w':=by
  unfold kb
  refine iR func96 rfl λr=>?_
  have hm:=Mem.start w0
  refine gS (gR (gA rfl (gE (gS (gJ hm (λaA=>[(2,(.bool (aA)))]) (λaA=>[]) (λaA=>?_) ?_)))))
  ·refine gR (gM rfl (gC hm rfl call117 (xG _ s_ 1) λaD aE w hm=>gM rfl (gs 5 rfl (λaB=>?_) λaB=>?_)))
   ·refine gM rfl (gY (yG rfl (iH (p:=s_) underlying9 rfl rfl)) ?_)
    have aF:=(s_).h
    refine gB rfl (gKt rfl (gM rfl (gsd 10 rfl (λaC=>?_) λaC=>?_)))
    ·exact gM rfl (gC hm rfl call98 (pQ _ s_) λaG aH w hm=>gN rfl (gKt rfl (gA rfl (gE (gz hm [] rfl)))))
    exact gO rfl (gO rfl (gO rfl (gKf rfl (gA rfl (gE (gz hm [] rfl))))))
   exact gO rfl (gO rfl (gO rfl (gKf rfl (gM rfl (gO rfl (gO rfl (gO rfl (gKf rfl (gA rfl (gE (gz hm [] rfl)))))))))))
  repeat clear hm
  intro aA w hm
  exact gRt (gr1 results96 rfl ⟨rfl,hm.below⟩)
theorem we (w0:World) (op:Int) :
    iF Tryz.prog 137 [nV op] w0 (oI op) λr v w'=>v=(nV r)∧Below w0.heap.size w0 w':=by
  unfold oI
  refine iR func137 rfl λr=>?_
  have hm:=Mem.start w0
  refine gS (gR (gA rfl (gE (gS (gS (gR (gM rfl (gB rfl (gE (gsd 4 rfl (λaA=>?_) λaA=>?_))))))))))
  ·exact gct rfl (gS (gR (gA rfl (gE (gRt (gr1 results137 rfl ⟨rfl,hm.below⟩))))))
  exact gcf rfl (gSk (gS (gR (gA rfl (gE (gRt (gr1 results137 rfl ⟨rfl,hm.below⟩)))))))
theorem wm (w0:World) (op:Int) :
    iF Tryz.prog 164 [nV op] w0 (nu op) λr v w'=>v=(.tuple #[nV r.1,nV r.2])∧Below w0.heap.size w0 w':=by
  unfold nu
  refine iR func164 rfl λr=>?_
  have hm:=Mem.start w0
  refine gS (gR (gA rfl (gA rfl (gE (gS (gS (gR (gM rfl (gE (gBk (gS (gS (gR (gB rfl (gA rfl (gE (gJ hm (λaA=>[(4,(nV op)),(5,(.bool (aA)))]) (λaA=>[]) (λaA=>?_) ?_)))))))))))))))))
  ·refine gsd 5 rfl (λaC=>?_) λaC=>?_
   ·exact gct rfl (gSk (gz hm [] rfl))
   exact gcf rfl (gR (gB rfl (gA rfl (gE (gz hm [] rfl)))))
  repeat clear hm
  intro aA w hm
  refine gs 5 rfl (λaD=>?_) λaD=>?_
  ·exact gct rfl (gS (gR (gA rfl (gA rfl (gE (gRt (gr2 results164 rfl ⟨rfl,hm.below⟩)))))))
  refine gcf rfl (gS (gS (gR (gB rfl (gA rfl (gE (gJ hm (λaB=>[(4,(nV op)),(8,(.bool (aB)))]) (λaB=>[]) (λaB=>?_) ?_)))))))
  ·refine gsd 8 rfl (λaE=>?_) λaE=>?_
   ·exact gct rfl (gSk (gz hm [] rfl))
   exact gcf rfl (gR (gB rfl (gA rfl (gE (gz hm [] rfl)))))
  repeat clear hm
  intro aB w hm
  refine gs 8 rfl (λaF=>?_) λaF=>?_
  ·exact gct rfl (gS (gR (gA rfl (gA rfl (gE (gRt (gr2 results164 rfl ⟨rfl,hm.below⟩)))))))
  refine gcf rfl (gS (gR (gB rfl (gA rfl (gE (gsd 11 rfl (λaG=>?_) λaG=>?_))))))
  ·exact gct rfl (gS (gR (gA rfl (gA rfl (gE (gRt (gr2 results164 rfl ⟨rfl,hm.below⟩)))))))
  exact gcf rfl (gSk (gS (gR (gA rfl (gA rfl (gE (gRt (gr2 results164 rfl ⟨rfl,hm.below⟩))))))))
theorem uy  : ∀ (e:ey) (deep:Int) (r:Bool),ke e deep=some r→∀ (w0:World) (v1:Value) (h1:GT.rep (hp w0) [v1] e.kids),Con Tryz.prog 154 [(.agg #[nV e.op,nV e.n_,(tV e.name),v1]),nV deep] w0 (λv w'=>v=(.bool (r))∧Below w0.heap.size w0 w'):=by
  refine ke.partial_correctness  (motive:=λe deep r=>∀ (w0:World) (v1:Value) (h1:GT.rep (hp w0) [v1] e.kids),Con Tryz.prog 154 [(.agg #[nV e.op,nV e.n_,(tV e.name),v1]),nV deep] w0 (λv w'=>v=(.bool (r))∧Below w0.heap.size w0 w')) ?_
  intro rec_ ih_ e deep r hq w0 v1 h1
  have spec_l2Form_rec:∀ (w0:World) (e:ey) (v1:Value) (h1:GT.rep (hp w0) [v1] e.kids) (deep:Int) (r:Bool) (hq:rec_ e deep=some r),Con Tryz.prog 154 [(.agg #[nV e.op,nV e.n_,(tV e.name),v1]),nV deep] w0 (λv w'=>v=(.bool (r))∧Below w0.heap.size w0 w'):=λw0 e v1 h1 deep r hq=>ih_ e deep r hq w0 v1 h1
  refine kI (ρ:=Bool) (R:=λr v w'=>v=(.bool (r))∧Below w0.heap.size w0 w') func154 rfl hq ?_
  have hm:=Mem.start w0
  refine gS (gR (gBx hm rfl λaA w hm=>gA rfl (gE (gS (gR (gF ik rfl (gL hm 0 isAgg3 rfl (gC hm rfl call164 (wm _ e.op) λaG ac w hm=>gM rfl (gX rfl (gX rfl (gA rfl (gA rfl (gE (gS (gS (gJ hm (λaB=>[(1,(nV deep)),(2,(pV aA)),(31,(.bool (aB)))]) (λaB=>[blk aA [nV e.op,nV e.n_,(tV e.name),v1] 86]) (λaB=>?_) ?_))))))))))))))))
  ·refine gR (gM rfl (gB rfl (gM rfl (gsd 17 rfl (λaI=>?_) λaI=>?_))))
   ·exact gO rfl (gO rfl (gO rfl (gO rfl (gKt rfl (gM rfl (gO rfl (gO rfl (gO rfl (gO rfl (gO rfl (gO rfl (gO rfl (gKt rfl (gE (gz hm [0] rfl)))))))))))))))
   refine gF ik rfl (gL hm 0 isAgg3 rfl (gC hm rfl call66 (lD _ e.op 1 13) λae af w hm=>gN rfl (gKf rfl (gM rfl (gsn 23 rfl (λaJ=>?_) λaJ=>?_)))))
   ·exact gO rfl (gO rfl (gO rfl (gO rfl (gO rfl (gO rfl (gO rfl (gKt rfl (gE (gz hm [0] rfl)))))))))
   refine gF iT rfl (gL hm 0 isAgg69 rfl ?_)
   obtain ⟨ag,ah,rfl,ai⟩:=fE h1
   exact gY (yV iu rfl) (gM rfl (gM rfl (gC hm rfl call66 (lD _ (e.kids.length:Int) aG.1 aG.2) λaj ak w hm=>gN rfl (gKf rfl (gE (gz hm [0] rfl))))))
  repeat clear hm
  intro aB w hm
  refine gs 31 rfl (λaK=>?_) λaK=>?_
  ·exact gct rfl (gS (gR (gA rfl (gE (gRt (gr1 results154 rfl ⟨rfl,hm.below⟩))))))
  refine gcf rfl (gSk (gS (gJ hm (λaC=>[(1,(nV deep)),(2,(pV aA)),(7,(.bool (aC)))]) (λaC=>[blk aA [nV e.op,nV e.n_,(tV e.name),v1] 86]) (λaC=>?_) ?_)))
  ·refine gR (gF ik rfl (gL hm 0 isAgg3 rfl (gB rfl (gM rfl (gsd 35 rfl (λaL=>?_) λaL=>?_)))))
   ·exact gO rfl (gO rfl (gO rfl (gKt rfl (gA rfl (gE (gz hm [0] rfl))))))
   exact gF ik rfl (gL hm 0 isAgg3 rfl (gB rfl (gKf rfl (gA rfl (gE (gz hm [0] rfl))))))
  repeat clear hm
  intro aC w hm
  refine gS (gS (gJ hm (λaD=>[(1,(nV deep)),(2,(pV aA)),(69,(.bool (aD)))]) (λaD=>[blk aA [nV e.op,nV e.n_,(tV e.name),v1] 86]) (λaD=>?_) ?_))
  ·refine gR (gM rfl (gF mB rfl (gL hm 0 isAgg9 rfl (gC hm rfl call96 (mN _ e.name) λal am w hm=>gY (yG rfl (xc underlying4 rfl rfl rfl)) (gM rfl (gsd 45 rfl (λaM=>?_) λaM=>?_))))))
   ·exact gO rfl (gO rfl (gO rfl (gO rfl (gO rfl (gO rfl (gO rfl (gKt rfl (gM rfl (gO rfl (gO rfl (gO rfl (gO rfl (gKt rfl (gM rfl (gO rfl (gO rfl (gO rfl (gO rfl (gO rfl (gO rfl (gO rfl (gO rfl (gKt rfl (gE (gz hm [0] rfl)))))))))))))))))))))))))
   refine gM rfl (gN rfl (gM rfl (gsn 48 rfl (λaN=>?_) λaN=>?_)))
   ·refine gF mB rfl (gL hm 0 isAgg9 rfl (gY (yG rfl (oM (p:=e.name) (q:=(mkS [])) rfl rfl rfl)) (gKt rfl (gKf rfl (gM rfl (gsd 54 rfl (λaO=>?_) λaO=>?_))))))
    ·exact gO rfl (gO rfl (gO rfl (gO rfl (gKt rfl (gM rfl (gO rfl (gO rfl (gO rfl (gO rfl (gO rfl (gO rfl (gO rfl (gO rfl (gKt rfl (gE (gz hm [0] rfl))))))))))))))))
    refine gF mC rfl (gL hm 0 isAgg3 rfl (gC hm rfl call66 (lD _ e.n_ 0 255) λan ao w hm=>gN rfl (gKf rfl (gM rfl (gsn 60 rfl (λaP=>?_) λaP=>?_)))))
    ·exact gO rfl (gO rfl (gO rfl (gO rfl (gO rfl (gO rfl (gO rfl (gO rfl (gKt rfl (gE (gz hm [0] rfl))))))))))
    refine gF ik rfl (gL hm 0 isAgg3 rfl (gB rfl (gM rfl (gsd 64 rfl (λaQ=>?_) λaQ=>?_))))
    ·exact gF mC rfl (gL hm 0 isAgg3 rfl (gB rfl (gKt rfl (gKf rfl (gE (gz hm [0] rfl))))))
    exact gO rfl (gO rfl (gO rfl (gKf rfl (gKf rfl (gE (gz hm [0] rfl))))))
   refine gO rfl (gO rfl (gO rfl (gKf rfl (gKf rfl (gM rfl (gF mC rfl (gL hm 0 isAgg3 rfl (gC hm rfl call66 (lD _ e.n_ 0 255) λaq ar w hm=>gN rfl (gKf rfl (gM rfl (gsn 60 rfl (λaR=>?_) λaR=>?_)))))))))))
   ·exact gO rfl (gO rfl (gO rfl (gO rfl (gO rfl (gO rfl (gO rfl (gO rfl (gKt rfl (gE (gz hm [0] rfl))))))))))
   refine gF ik rfl (gL hm 0 isAgg3 rfl (gB rfl (gM rfl (gsd 64 rfl (λaS=>?_) λaS=>?_))))
   ·exact gF mC rfl (gL hm 0 isAgg3 rfl (gB rfl (gKt rfl (gKf rfl (gE (gz hm [0] rfl))))))
   exact gO rfl (gO rfl (gO rfl (gKf rfl (gKf rfl (gE (gz hm [0] rfl))))))
  repeat clear hm
  intro aD w hm
  refine gs 69 rfl (λaT=>?_) λaT=>?_
  ·exact gct rfl (gS (gR (gA rfl (gE (gRt (gr1 results154 rfl ⟨rfl,hm.below⟩))))))
  refine gcf rfl (gSk (gS (gS (gR (gA rfl (gE (gBk (gNf hm (λaE aH=>[(1,(nV deep)),(2,(pV aA)),(8,(nV aE))]) (λaE aH=>[blk aA [nV e.op,nV e.n_,(tV e.name),v1] 86]) [0] rfl ?_ ?_))))))))
  ·repeat clear hm
   intro au aU aE aH w hm av aw ax aV
   refine gS (gS (gR (gM rfl (gF iT rfl (gL hm 0 isAgg69 rfl ?_)))))
   obtain ⟨ay,az,rfl,bA⟩:=fE h1
   refine gY (yV iu rfl) (gB rfl (gE (go _ 74 rfl (decide_eq_true (by omega)) (gct rfl (gSk (gS (gBk (gS (gR (gF iT rfl (gL hm 0 isAgg69 rfl (gM rfl (gg λaX aY aF=>?_)))))))))))))
   obtain ⟨bB,bC,bD,he⟩:=fp h1 aF
   obtain ⟨rfl,_,rfl⟩:=sl3 he
   obtain ⟨aZ,a8,aa⟩:=jE h1 aF
   refine gI iu aY (ff aF) rfl (gY (yn (a8.mono hm.lez) isAgg86 sizeOf86 rfl) (gM rfl (gB rfl (gC hm rfl call154 (spec_l2Form_rec _ aX aZ (hm.now aa) (w64 (deep - 1))) λbE bF w hm=>gN rfl (gE (gsn 85 rfl (λab=>?_) λab=>?_))))))
   ·exact gct rfl (gS (gR (gA rfl (gE (gRt (gLr aV aU (gr1 results154 rfl ⟨rfl,hm.below⟩)))))))
   exact gcf rfl (gSk (gR (gM rfl (gP (by omega) (by omega) rfl (gA rfl (gE (gze hm [0] rfl)))))))
  repeat clear hm
  intro bG bH w hm bJ bK
  refine gS (gS (gR (gM rfl (gF iT rfl (gL hm 0 isAgg69 rfl ?_)))))
  obtain ⟨bL,bM,rfl,bN⟩:=fE h1
  exact gY (yV iu rfl) (gB rfl (gE (go _ 74 rfl (decide_eq_false (by omega)) (gcf rfl (gXt (gHh (gS (gR (gA rfl (gE (gRt (gr1 results154 rfl ⟨rfl,hm.below⟩))))))))))))
theorem wg (w0:World) (e:ey) (v1:Value) (h1:GT.rep (hp w0) [v1] e.kids) (deep:Int) (r:Bool) (hq:ke e deep=some r):Con Tryz.prog 154 [(.agg #[nV e.op,nV e.n_,(tV e.name),v1]),nV deep] w0 (λv w'=>v=(.bool (r))∧Below w0.heap.size w0 w'):=uy e deep r hq w0 v1 h1
theorem ti  : ∀ (e:ey) (r:Int),lG e=some r→∀ (w0:World) (v1:Value) (h1:GT.rep (hp w0) [v1] e.kids),Con Tryz.prog 155 [(.agg #[nV e.op,nV e.n_,(tV e.name),v1])] w0 (λv w'=>v=(nV r)∧Below w0.heap.size w0 w'):=by
  refine lG.partial_correctness  (motive:=λe r=>∀ (w0:World) (v1:Value) (h1:GT.rep (hp w0) [v1] e.kids),Con Tryz.prog 155 [(.agg #[nV e.op,nV e.n_,(tV e.name),v1])] w0 (λv w'=>v=(nV r)∧Below w0.heap.size w0 w')) ?_
  intro rec_ ih_ e r hq w0 v1 h1
  have spec_l2Parts_rec:∀ (w0:World) (e:ey) (v1:Value) (h1:GT.rep (hp w0) [v1] e.kids) (r:Int) (hq:rec_ e=some r),Con Tryz.prog 155 [(.agg #[nV e.op,nV e.n_,(tV e.name),v1])] w0 (λv w'=>v=(nV r)∧Below w0.heap.size w0 w'):=λw0 e v1 h1 r hq=>ih_ e r hq w0 v1 h1
  refine kI (ρ:=Int) (R:=λr v w'=>v=(nV r)∧Below w0.heap.size w0 w') func155 rfl hq ?_
  have hm:=Mem.start w0
  refine gS (gR (gBx hm rfl λaD w hm=>gA rfl (gE (gS (gR (gA rfl (gE (gS (gS (gR (gA rfl (gE (gBk (gNf hm (λaA aB=>[(1,(pV aD)),(3,(nV aB)),(4,(nV aA))]) (λaA aB=>[blk aD [nV e.op,nV e.n_,(tV e.name),v1] 86]) [0] rfl ?_ ?_))))))))))))))
  ·repeat clear hm
   intro _ _ aA aB w hm aJ aK aL _
   refine gS (gS (gR (gM rfl (gF iT rfl (gL hm 0 isAgg69 rfl ?_)))))
   obtain ⟨aM,aN,rfl,aO⟩:=fE h1
   refine gY (yV iu rfl) (gB rfl (gE (go _ 9 rfl (decide_eq_true (by omega)) (gct rfl (gSk (gS (gBk (gR (gM rfl (gF iT rfl (gL hm 0 isAgg69 rfl (gM rfl (gg λaE aF aC=>?_)))))))))))))
   obtain ⟨aP,aQ,aR,he⟩:=fp h1 aC
   obtain ⟨rfl,_,rfl⟩:=sl3 he
   obtain ⟨aG,aH,aI⟩:=jE h1 aC
   exact gI iu aF (ff aC) rfl (gY (yn (aH.mono hm.lez) isAgg86 sizeOf86 rfl) (gC hm rfl call155 (spec_l2Parts_rec _ aE aG (hm.now aI)) λaS aT w hm=>gB rfl (gA rfl (gE (gR (gM rfl (gP (by omega) (by omega) rfl (gA rfl (gE (gze hm [0] rfl))))))))))
  repeat clear hm
  intro aU aV w hm aX aY
  refine gS (gS (gR (gM rfl (gF iT rfl (gL hm 0 isAgg69 rfl ?_)))))
  obtain ⟨aZ,a8,rfl,aa⟩:=fE h1
  exact gY (yV iu rfl) (gB rfl (gE (go _ 9 rfl (decide_eq_false (by omega)) (gcf rfl (gXt (gHh (gS (gR (gM rfl (gA rfl (gE (gRt (gr1 results155 rfl ⟨rfl,hm.below⟩)))))))))))))
theorem ue (w0:World) (e:ey) (v1:Value) (h1:GT.rep (hp w0) [v1] e.kids) (r:Int) (hq:lG e=some r):Con Tryz.prog 155 [(.agg #[nV e.op,nV e.n_,(tV e.name),v1])] w0 (λv w'=>v=(nV r)∧Below w0.heap.size w0 w'):=ti e r hq w0 v1 h1
theorem sX (w0:World) (e:ey) (v1:Value) (h1:GT.rep (hp w0) [v1] e.kids) :
    iF Tryz.prog 138 [(.agg #[nV e.op,nV e.n_,(tV e.name),v1])] w0 (lR e) λr v w'=>v=(.bool (r))∧Below w0.heap.size w0 w':=by
  unfold lR
  refine iR func138 rfl λr=>?_
  have hm:=Mem.start w0
  refine gS (gR (gBx hm rfl λaC w hm=>gA rfl (gE (gS (gJ hm (λaA=>[(2,(.bool (aA)))]) (λaA=>[]) (λaA=>?_) ?_)))))
  ·refine gR (gY (yn (hm.blk_at 0 rfl) isAgg86 sizeOf86 rfl) (gC hm rfl call154 (wg _ e v1 (hm.now h1) 6) λaD aE w hm=>gM rfl (gs 5 rfl (λaB=>?_) λaB=>?_)))
   ·exact gY (yn (hm.blk_at 0 rfl) isAgg86 sizeOf86 rfl) (gC hm rfl call155 (ue _ e v1 (hm.now h1)) λaF aG w hm=>gB rfl (gKt rfl (gA rfl (gE (gz hm [] rfl)))))
   exact gO rfl (gO rfl (gO rfl (gKf rfl (gA rfl (gE (gz hm [] rfl))))))
  repeat clear hm
  intro aA w hm
  exact gRt (gr1 results138 rfl ⟨rfl,hm.below⟩)
theorem tN  : (∀ (list:List fB) (deep:Int) (r:Bool),jv list deep=some r→∀ (w0:World) (v1:Value) (h1:GT.rep (hp w0) [v1] list),Con Tryz.prog 101 [v1,nV deep] w0 (λv w'=>v=(.bool (r))∧Below w0.heap.size w0 w')) ∧
    (∀ (s_:fB) (deep:Int) (r:Bool),mL s_ deep=some r→∀ (w0:World) (v1:Value) (h1:GT.rep (hp w0) [v1] s_.args) (v2:Value) (h2:GT.rep (hp w0) [v2] s_.body) (v3:Value) (h3:GT.rep (hp w0) [v3] s_.else_),Con Tryz.prog 120 [(.agg #[nV s_.op,(tV s_.name),v1,v2,v3]),nV deep] w0 (λv w'=>v=(.bool (r))∧Below w0.heap.size w0 w')):=by
  refine jv.mutual_partial_correctness  (motive_1:=λlist deep r=>∀ (w0:World) (v1:Value) (h1:GT.rep (hp w0) [v1] list),Con Tryz.prog 101 [v1,nV deep] w0 (λv w'=>v=(.bool (r))∧Below w0.heap.size w0 w')) (motive_2:=λs_ deep r=>∀ (w0:World) (v1:Value) (h1:GT.rep (hp w0) [v1] s_.args) (v2:Value) (h2:GT.rep (hp w0) [v2] s_.body) (v3:Value) (h3:GT.rep (hp w0) [v3] s_.else_),Con Tryz.prog 120 [(.agg #[nV s_.op,(tV s_.name),v1,v2,v3]),nV deep] w0 (λv w'=>v=(.bool (r))∧Below w0.heap.size w0 w')) ?_ ?_
  · intro rec_ ih_ list deep r hq w0 v1 h1
    have spec_l3Stmt_rec:∀ (w0:World) (s_:fB) (v1:Value) (h1:GT.rep (hp w0) [v1] s_.args) (v2:Value) (h2:GT.rep (hp w0) [v2] s_.body) (v3:Value) (h3:GT.rep (hp w0) [v3] s_.else_) (deep:Int) (r:Bool) (hq:rec_ s_ deep=some r),Con Tryz.prog 120 [(.agg #[nV s_.op,(tV s_.name),v1,v2,v3]),nV deep] w0 (λv w'=>v=(.bool (r))∧Below w0.heap.size w0 w'):=λw0 s_ v1 h1 v2 h2 v3 h3 deep r hq=>ih_ s_ deep r hq w0 v1 h1 v2 h2 v3 h3
    refine kI (ρ:=Bool) (R:=λr v w'=>v=(.bool (r))∧Below w0.heap.size w0 w') func101 rfl hq ?_
    have hm:=Mem.start w0
    refine gS (gR (gA rfl (gE (gS (gS (gR (gA rfl (gE (gBk (gNf hm (λaB aC=>[(0,v1),(1,(nV deep)),(5,(nV aB))]) (λaB aC=>[]) [] rfl ?_ ?_))))))))))
    ·repeat clear hm
     intro a8 aa aB aC w hm ab ac ae aK
     refine gS (gS (gR (gM rfl (gM rfl ?_))))
     obtain ⟨af,ag,rfl,ah⟩:=fE h1
     refine gY (yV jN rfl) (gB rfl (gE (go _ 9 rfl (decide_eq_true (by omega)) (gct rfl (gSk (gS (gBk (gS (gR (gM rfl (gM rfl (gg λaL aM aD=>?_))))))))))))
     obtain ⟨ai,aj,ak,he⟩:=fp h1 aD
     obtain ⟨rfl,_,rfl⟩:=sl3 he
     obtain ⟨aX,aY,al,aN,aO,aP,aQ⟩:=lJ h1 aD
     refine gI jN aM (ff aD) rfl (gY (yn (aN.mono hm.lez) isAgg71 sizeOf71 rfl) (gM rfl (gC hm rfl call120 (spec_l3Stmt_rec _ aL aX (hm.now aO) aY (hm.now aP) al (hm.now aQ) deep) λam an w hm=>gN rfl (gE (gsn 18 rfl (λaR=>?_) λaR=>?_)))))
     ·exact gct rfl (gS (gR (gA rfl (gE (gRt (gLr aK aa (gr1 results101 rfl ⟨rfl,hm.below⟩)))))))
     exact gcf rfl (gSk (gR (gM rfl (gP (by omega) (by omega) rfl (gA rfl (gE (gze hm [] rfl)))))))
    repeat clear hm
    intro ao aq w hm ar au
    refine gS (gS (gR (gM rfl (gM rfl ?_))))
    obtain ⟨aS,aT,rfl,av⟩:=fE h1
    exact gY (yV jN rfl) (gB rfl (gE (go _ 9 rfl (decide_eq_false (by omega)) (gcf rfl (gXt (gHh (gS (gR (gA rfl (gE (gRt (gr1 results101 rfl ⟨rfl,hm.below⟩))))))))))))
  · intro rec_ ih_ s_ deep r hq w0 v1 h1 v2 h2 v3 h3
    have spec_l3Stmts_rec:∀ (w0:World) (list:List fB) (v1:Value) (h1:GT.rep (hp w0) [v1] list) (deep:Int) (r:Bool) (hq:rec_ list deep=some r),Con Tryz.prog 101 [v1,nV deep] w0 (λv w'=>v=(.bool (r))∧Below w0.heap.size w0 w'):=λw0 list v1 h1 deep r hq=>ih_ list deep r hq w0 v1 h1
    refine kI (ρ:=Bool) (R:=λr v w'=>v=(.bool (r))∧Below w0.heap.size w0 w') func120 rfl hq ?_
    have hm:=Mem.start w0
    refine gS (gR (gBx hm rfl λaA w hm=>gA rfl (gE (gS (gS (gJ hm (λaE=>[(1,(nV deep)),(2,(pV aA)),(23,(.bool (aE)))]) (λaE=>[blk aA [nV s_.op,(tV s_.name),v1,v2,v3] 71]) (λaE=>?_) ?_))))))
    ·refine gW (.p 0 (.p 1 (.p 2 (.p 3 (.e 4 (.e 5 (.p 6 (.p 7 (.p 8 (.p 9 (.p 12 (.q 10 (.p 11 (.e 13 (.e 14 (.p 15 (.p 16 .fin)) .nil) .nil)))))))) .nil) .nil))))) [13, 14] [0, 1, 2, 3, 6, 7, 8, 9, 11, 12, 15, 16] hm [0] [_] rfl mxo (by kernel_rfl) (fun _ _ _ h => h.2) fun w hm hS => tP rfl (fun w => yM rfl) (tP rfl (fun w => yB rfl) (tP rfl (fun w => yM rfl) (gsd 9 rfl (fun aM => ?_) fun aM => ?_)))
     ·exact tPo rfl rfl (tO (tEo rfl rfl (tAn rfl (tO (tEo rfl rfl (tAn rfl (tPo rfl rfl (tP rfl (λw=>yKt rfl) (tP rfl (λw=>yM rfl) (tPo rfl rfl (tPo rfl rfl (tQo rfl hS rfl (tPo rfl rfl (tO (tEo rfl rfl (tAs hS (tO (tEo rfl rfl (tAs hS (tPo rfl rfl (tP rfl (λw=>yKt rfl) (tE (gz hm [0] rfl)))))))))))))))))))))))
     refine tP rfl (λw=>yF jY rfl) (tO (tY rfl (yL hm 0 isAgg3 rfl) (tAn rfl (tO (gb λam aw=>tf rfl rfl (λa hf=>fo hf rfl call66 rfl (lD _ s_.op 1 8 _ aw)) ?_)))))
     rintro aX w ⟨rfl,hB⟩
     replace hm:=hm.below' hB;clear hB
     refine tAk hm [0] rfl λhS=>tP rfl (λw=>yN rfl) (tP rfl (λw=>yKf rfl) (tP rfl (λw=>yM rfl) (gsn 15 rfl (λaO=>?_) λaO=>?_)))
     ·exact tPo rfl rfl (tPo rfl rfl (tQo rfl hS rfl (tPo rfl rfl (tO (tEo rfl rfl (tAs hS (tO (tEo rfl rfl (tAs hS (tPo rfl rfl (tP rfl (λw=>yKt rfl) (tE (gz hm [0] rfl)))))))))))))
     refine tP rfl (λw=>yF je rfl) (tP rfl (λw=>yF jY rfl) (tQ rfl hS (λw hm=>yL hm 0 isAgg69 rfl) ?_))
     obtain ⟨af,ag,rfl,ah⟩:=fE h1
     refine tP rfl (λw=>yV iu rfl) (tO (tY rfl (yL hm 0 isAgg3 rfl) (tAs hS (tO (gb λbP aD=>tf rfl rfl (λa hf=>fo hf rfl call137 rfl (we _ s_.op _ aD)) ?_)))))
     rintro aY w ⟨rfl,hB⟩
     replace hm:=hm.below' hB;clear hB
     exact tAk hm [0] rfl λhS=>tP rfl (λw=>yB rfl) (tP rfl (λw=>yKf rfl) (tE (gz hm [0] rfl)))
    repeat clear hm
    intro aE w hm
    refine gs 23 rfl (λax=>?_) λax=>?_
    ·exact gct rfl (gS (gR (gA rfl (gE (gRt (gr1 results120 rfl ⟨rfl,hm.below⟩))))))
    refine gcf rfl (gSk (gS (gJ hm (λaF=>[(1,(nV deep)),(2,(pV aA)),(5,(.bool (aF)))]) (λaF=>[blk aA [nV s_.op,(tV s_.name),v1,v2,v3] 71]) (λaF=>?_) ?_)))
    ·refine gR (gF jY rfl (gL hm 0 isAgg3 rfl (gB rfl (gM rfl (gsd 27 rfl (λaP=>?_) λaP=>?_)))))
     ·exact gO rfl (gO rfl (gO rfl (gKt rfl (gA rfl (gE (gz hm [0] rfl))))))
     exact gF jY rfl (gL hm 0 isAgg3 rfl (gB rfl (gKf rfl (gA rfl (gE (gz hm [0] rfl))))))
    repeat clear hm
    intro aF w hm
    refine gS (gS (gJ hm (λaG=>[(1,(nV deep)),(2,(pV aA)),(45,(.bool (aG)))]) (λaG=>[blk aA [nV s_.op,(tV s_.name),v1,v2,v3] 71]) (λaG=>?_) ?_))
    ·refine gR (gM rfl (gF lL rfl (gL hm 0 isAgg9 rfl (gC hm rfl call96 (mN _ s_.name) λbQ an w hm=>gY (yG rfl (xc underlying4 rfl rfl rfl)) (gM rfl (gsd 37 rfl (λaQ=>?_) λaQ=>?_))))))
     ·exact gO rfl (gO rfl (gO rfl (gO rfl (gO rfl (gO rfl (gO rfl (gKt rfl (gE (gz hm [0] rfl)))))))))
     refine gM rfl (gN rfl (gM rfl (gsn 40 rfl (λaR=>?_) λaR=>?_)))
     ·exact gF lL rfl (gL hm 0 isAgg9 rfl (gY (yG rfl (oM (p:=s_.name) (q:=(mkS [])) rfl rfl rfl)) (gKt rfl (gKf rfl (gE (gz hm [0] rfl))))))
     exact gO rfl (gO rfl (gO rfl (gKf rfl (gKf rfl (gE (gz hm [0] rfl))))))
    repeat clear hm
    intro aG w hm
    refine gs 45 rfl (λay=>?_) λay=>?_
    ·exact gct rfl (gS (gR (gA rfl (gE (gRt (gr1 results120 rfl ⟨rfl,hm.below⟩))))))
    refine gcf rfl (gSk (gS (gS (gR (gA rfl (gE (gBk (gNf hm (λaB aC=>[(1,(nV deep)),(2,(pV aA)),(6,(nV aB))]) (λaB aC=>[blk aA [nV s_.op,(tV s_.name),v1,v2,v3] 71]) [0] rfl ?_ ?_))))))))
    ·repeat clear hm
     intro a8 az aB aC w hm ab ac ae aK
     refine gS (gS (gR (gM rfl (gF je rfl (gL hm 0 isAgg69 rfl ?_)))))
     obtain ⟨bR,ak,rfl,bS⟩:=fE h1
     refine gY (yV iu rfl) (gB rfl (gE (go _ 50 rfl (decide_eq_true (by omega)) (gct rfl (gSk (gS (gBk (gS (gR (gF je rfl (gL hm 0 isAgg69 rfl (gM rfl (gg λaL bA aU=>?_)))))))))))))
     obtain ⟨ai,aj,bT,he⟩:=fp h1 aU
     obtain ⟨rfl,_,rfl⟩:=sl3 he
     obtain ⟨bB,aN,bC⟩:=jE h1 aU
     refine gI iu bA (ff aU) rfl (gY (yn (aN.mono hm.lez) isAgg86 sizeOf86 rfl) (gC hm rfl call138 (sX _ aL bB (hm.now bC)) λbU bV w hm=>gN rfl (gE (gsn 59 rfl (λbD=>?_) λbD=>?_))))
     ·exact gct rfl (gS (gR (gA rfl (gE (gRt (gLr aK az (gr1 results120 rfl ⟨rfl,hm.below⟩)))))))
     exact gcf rfl (gSk (gR (gM rfl (gP (by omega) (by omega) rfl (gA rfl (gE (gze hm [0] rfl)))))))
    repeat clear hm
    intro ao aq w hm ar au
    refine gS (gS (gR (gM rfl (gF je rfl (gL hm 0 isAgg69 rfl ?_)))))
    obtain ⟨aS,aT,rfl,av⟩:=fE h1
    refine gY (yV iu rfl) (gB rfl (gE (go _ 50 rfl (decide_eq_false (by omega)) (gcf rfl (gXt (gHh (gS (gS (gJ hm (λaH=>[(1,(nV deep)),(2,(pV aA)),(70,(.bool (aH)))]) (λaH=>[blk aA [nV s_.op,(tV s_.name),.slice aS s_.args.length aT,v2,v3] 71]) (λaH=>?_) ?_)))))))))
    ·refine gR (gF jY rfl (gL hm 0 isAgg3 rfl (gB rfl (gM rfl (gsd 63 rfl (λbE=>?_) λbE=>?_)))))
     ·refine gF je rfl (gL hm 0 isAgg69 rfl (gg λbW bF aV=>?_))
      obtain ⟨bX,bY,bZ,he⟩:=fp h1 aV
      obtain ⟨rfl,_,rfl⟩:=sl3 he
      obtain ⟨b8,bG,b9⟩:=jE h1 aV
      exact gI iu bF (ff aV) rfl (gF ik rfl (gY (yl isAgg3 ((bG.mono hm.lez).cell (j:=0) rfl) rfl) (gB rfl (gKt rfl (gE (gz hm [0] rfl))))))
     exact gO rfl (gO rfl (gO rfl (gO rfl (gO rfl (gO rfl (gKf rfl (gE (gz hm [0] rfl))))))))
    repeat clear hm
    intro aH w hm
    refine gs 70 rfl (λbH=>?_) λbH=>?_
    ·exact gct rfl (gS (gR (gA rfl (gE (gRt (gr1 results120 rfl ⟨rfl,hm.below⟩))))))
    refine gcf rfl (gSk (gS (gS (gJ hm (λaI=>[(1,(nV deep)),(2,(pV aA)),(95,(.bool (aI)))]) (λaI=>[blk aA [nV s_.op,(tV s_.name),.slice aS s_.args.length aT,v2,v3] 71]) (λaI=>?_) ?_))))
    ·refine gR (gF lH rfl (gL hm 0 isAgg52 rfl ?_))
     obtain ⟨ba,bb,rfl,bc⟩:=fE h3
     refine gY (yV jN rfl) (gB rfl (gM rfl (gsd 75 rfl (λbJ=>?_) λbJ=>?_)))
     ·refine gF jY rfl (gL hm 0 isAgg3 rfl (gB rfl (gKt rfl (gM rfl (gsd 80 rfl (λaZ=>?_) λaZ=>?_)))))
      ·exact gO rfl (gO rfl (gO rfl (gO rfl (gO rfl (gO rfl (gO rfl (gO rfl (gO rfl (gO rfl (gO rfl (gO rfl (gO rfl (gO rfl (gKt rfl (gE (gz hm [0] rfl))))))))))))))))
      refine gF lB rfl (gL hm 0 isAgg52 rfl ?_)
      obtain ⟨bd,be,rfl,bf⟩:=fE h2
      refine gY (yV jN rfl) (gB rfl (gM rfl (gsd 85 rfl (λbK=>?_) λbK=>?_)))
      ·exact gF jY rfl (gL hm 0 isAgg3 rfl (gB rfl (gKt rfl (gM rfl (go _ 90 rfl (decide_eq_false aZ) (gO rfl (gO rfl (gO rfl (gKf rfl (gKf rfl (gE (gz hm [0] rfl))))))))))))
      exact gO rfl (gO rfl (gO rfl (gKf rfl (gM rfl (gO rfl (gO rfl (gO rfl (gKf rfl (gKf rfl (gE (gz hm [0] rfl)))))))))))
     refine gO rfl (gO rfl (gO rfl (gKf rfl (gM rfl (gF lB rfl (gL hm 0 isAgg52 rfl ?_))))))
     obtain ⟨bg,bh,rfl,bi⟩:=fE h2
     refine gY (yV jN rfl) (gB rfl (gM rfl (gsd 85 rfl (λbL=>?_) λbL=>?_)))
     ·refine gF jY rfl (gL hm 0 isAgg3 rfl (gB rfl (gKt rfl (gM rfl (gsd 90 rfl (λbM=>?_) λbM=>?_)))))
      ·exact gF jY rfl (gL hm 0 isAgg3 rfl (gB rfl (gKt rfl (gKf rfl (gE (gz hm [0] rfl))))))
      exact gO rfl (gO rfl (gO rfl (gKf rfl (gKf rfl (gE (gz hm [0] rfl))))))
     exact gO rfl (gO rfl (gO rfl (gKf rfl (gM rfl (gO rfl (gO rfl (gO rfl (gKf rfl (gKf rfl (gE (gz hm [0] rfl)))))))))))
    repeat clear hm
    intro aI w hm
    refine gs 95 rfl (λbN=>?_) λbN=>?_
    ·exact gct rfl (gS (gR (gA rfl (gE (gRt (gr1 results120 rfl ⟨rfl,hm.below⟩))))))
    refine gcf rfl (gSk (gS (gJ hm (λaJ=>[(4,(.bool (aJ)))]) (λaJ=>[]) (λaJ=>?_) ?_)))
    ·refine gR (gF lB rfl (gL hm 0 isAgg52 rfl (gM rfl (gB rfl (gC hm rfl call101 (spec_l3Stmts_rec _ s_.body v2 (hm.now h2) (w64 (deep - 1))) λbj bk w hm=>gM rfl (gs 101 rfl (λbO=>?_) λbO=>?_))))))
     ·exact gF lH rfl (gL hm 0 isAgg52 rfl (gM rfl (gB rfl (gC hm rfl call101 (spec_l3Stmts_rec _ s_.else_ v3 (hm.now h3) (w64 (deep - 1))) λbl bm w hm=>gKt rfl (gA rfl (gE (gz hm [] rfl)))))))
     exact gO rfl (gO rfl (gO rfl (gO rfl (gO rfl (gKf rfl (gA rfl (gE (gz hm [] rfl))))))))
    repeat clear hm
    intro aJ w hm
    exact gRt (gr1 results120 rfl ⟨rfl,hm.below⟩)
theorem ui (w0:World) (list:List fB) (v1:Value) (h1:GT.rep (hp w0) [v1] list) (deep:Int) (r:Bool) (hq:jv list deep=some r):Con Tryz.prog 101 [v1,nV deep] w0 (λv w'=>v=(.bool (r))∧Below w0.heap.size w0 w'):=(tN ).1 list deep r hq w0 v1 h1
theorem yE (w0:World) (f:Fn_) (v1:Value) (h1:GT.rep (hp w0) [v1] f.params) (v2:Value) (h2:GT.rep (hp w0) [v2] f.body) :
    iF Tryz.prog 67 [(.agg #[(tV f.name),v1,v2])] w0 (o5 f) λr v w'=>v=(.bool (r))∧Below w0.heap.size w0 w':=by
  unfold o5
  refine iR func67 rfl λr=>?_
  have hm:=Mem.start w0
  refine gS (gR (gBx hm rfl λaD w hm=>gA rfl (gE (gS (gS (gR (gA rfl (gE (gBk (gNf hm (λaB aE=>[(1,(pV aD)),(3,(nV aB))]) (λaB aE=>[blk aD [(tV f.name),v1,v2] 54]) [0] rfl ?_ ?_))))))))))
  ·repeat clear hm
   intro aM aG aB aE w hm aN aO aP aH
   refine gS (gS (gR (gM rfl (gF kE rfl (gL hm 0 isAgg47 rfl ?_)))))
   obtain ⟨aQ,aR,rfl,aS⟩:=fE h1
   refine gY (yV jO rfl) (gB rfl (gE (go _ 8 rfl (decide_eq_true (by omega)) (gct rfl (gSk (gS (gBk (gS (gR (gF kE rfl (gL hm 0 isAgg47 rfl (gM rfl (gg λaF aI aC=>?_)))))))))))))
   obtain ⟨aT,aU,aV,he⟩:=iS h1 aC
   obtain ⟨rfl,_,rfl⟩:=sl3 he
   refine gI jO aI (ff aC) rfl (gY (yl isAgg9 ((gK (cs:=[(tV aF)]) (hm.now h1) aC rfl).cell (j:=0) rfl) rfl) (gC hm rfl call96 (mN _ aF) λaX aY w hm=>gN rfl (gE (gsn 17 rfl (λaJ=>?_) λaJ=>?_))))
   ·exact gct rfl (gS (gR (gA rfl (gE (gRt (gLr aH aG (gr1 results67 rfl ⟨rfl,hm.below⟩)))))))
   exact gcf rfl (gSk (gR (gM rfl (gP (by omega) (by omega) rfl (gA rfl (gE (gze hm [0] rfl)))))))
  repeat clear hm
  intro aZ a8 w hm aa ab
  refine gS (gS (gR (gM rfl (gF kE rfl (gL hm 0 isAgg47 rfl ?_)))))
  obtain ⟨ac,ae,rfl,af⟩:=fE h1
  refine gY (yV jO rfl) (gB rfl (gE (go _ 8 rfl (decide_eq_false (by omega)) (gcf rfl (gXt (gHh (gS (gJ hm (λaA=>[(2,(.bool (aA)))]) (λaA=>[]) (λaA=>?_) ?_))))))))
  ·refine gR (gF oT rfl (gL hm 0 isAgg9 rfl (gC hm rfl call96 (mN _ f.name) λag ah w hm=>gM rfl (gs 21 rfl (λaK=>?_) λaK=>?_))))
   ·refine gF kE rfl (gL hm 0 isAgg47 rfl (gY (yV jO rfl) (gB rfl (gKt rfl (gM rfl (gsd 27 rfl (λaL=>?_) λaL=>?_))))))
    ·exact gF l0 rfl (gL hm 0 isAgg52 rfl (gC hm rfl call101 (ui _ f.body v2 (hm.now h2) 4) λai aj w hm=>gKt rfl (gA rfl (gE (gz hm [] rfl)))))
    exact gO rfl (gO rfl (gO rfl (gKf rfl (gA rfl (gE (gz hm [] rfl))))))
   exact gO rfl (gO rfl (gO rfl (gO rfl (gKf rfl (gM rfl (gO rfl (gO rfl (gO rfl (gKf rfl (gA rfl (gE (gz hm [] rfl))))))))))))
  repeat clear hm
  intro aA w hm
  exact gRt (gr1 results67 rfl ⟨rfl,hm.below⟩)
theorem tU  : ∀ (list:List fB) (r:Int),jy list=some r→∀ (w0:World) (v1:Value) (h1:GT.rep (hp w0) [v1] list),Con Tryz.prog 102 [v1] w0 (λv w'=>v=(nV r)∧Below w0.heap.size w0 w'):=by
  refine jy.partial_correctness  (motive:=λlist r=>∀ (w0:World) (v1:Value) (h1:GT.rep (hp w0) [v1] list),Con Tryz.prog 102 [v1] w0 (λv w'=>v=(nV r)∧Below w0.heap.size w0 w')) ?_
  intro rec_ ih_ list r hq w0 v1 h1
  have spec_l3Count_rec:∀ (w0:World) (list:List fB) (v1:Value) (h1:GT.rep (hp w0) [v1] list) (r:Int) (hq:rec_ list=some r),Con Tryz.prog 102 [v1] w0 (λv w'=>v=(nV r)∧Below w0.heap.size w0 w'):=λw0 list v1 h1 r hq=>ih_ list r hq w0 v1 h1
  refine kI (ρ:=Int) (R:=λr v w'=>v=(nV r)∧Below w0.heap.size w0 w') func102 rfl hq ?_
  have hm:=Mem.start w0
  refine gS (gR (gA rfl (gE (gS (gR (gM rfl ?_))))))
  obtain ⟨aG,aH,rfl,aO⟩:=fE h1
  refine gY (yV jN rfl) (gA rfl (gE (gS (gS (gR (gA rfl (gE (gBk (gNf hm (λaB aC=>[(0,(.slice aG list.length aH)),(3,(nV aC)),(4,(nV aB))]) (λaB aC=>[]) [] rfl ?_ ?_)))))))))
  ·repeat clear hm
   intro _ _ aB aC w hm aP aQ aR _
   refine gS (gS (gR (gM rfl (gM rfl (gY (yV jN rfl) (gB rfl (gE (go _ 10 rfl (decide_eq_true (by omega)) (gct rfl (gSk (gS (gBk (gW (.p 0 (.p 1 (.p 2 (.p 3 (.p 4 (.p 8 (.p 9 (.p 10 (.p 11 (.q 5 (.q 12 (.e 6 (.p 7 (.e 13 (.p 14 (.p 15 .fin)) .nil)) .nil)))))))))))) [5,6,12] [0,1,2,3,4,7,8,9,10,11,14,15] hm [] [] rfl mxo (by kernel_rfl) (λ_ _ _ h=>h.2) λw hm hS=>tP rfl (λw=>yM rfl) (tP rfl (λw=>yM rfl) (tP rfl (λw=>yM rfl) (gg λaD aE aA=>?_))))))))))))))))
   obtain ⟨aS,aT,aU,he⟩:=fp h1 aA
   obtain ⟨rfl,_,rfl⟩:=sl3 he
   obtain ⟨aV,aI,aJ,aF,aX,aK,aL⟩:=lJ h1 aA
   refine tP rfl (λw=>yI jN aE (ff aA) rfl) (tP rfl (λw=>yF lB rfl) (tP rfl (λw=>yM rfl) (tP rfl (λw=>yM rfl) (tP rfl (λw=>yI jN aE (ff aA) rfl) (tP rfl (λw=>yF lH rfl) (tQ rfl hS (λw hm=>yl isAgg52 ((aF.mono hm.lez).cell (j:=3) rfl) rfl) (tQ rfl hS (λw hm=>yl isAgg52 ((aF.mono hm.lez).cell (j:=4) rfl) rfl) (tO (gb λaY aM=>tf rfl rfl (λa hf=>fo hf rfl call102 rfl (spec_l3Count_rec _ aD.body aI (hm.now aK) _ aM)) ?_)))))))))
   rintro aZ w ⟨rfl,hB⟩
   replace hm:=hm.below' hB;clear hB
   refine tAk hm [] rfl λhS=>tP rfl (λw=>yB rfl) (tO (gb λa8 aN=>tf rfl rfl (λa hf=>fo hf rfl call102 rfl (spec_l3Count_rec _ aD.else_ aJ (hm.now aL) _ aN)) ?_))
   rintro aa w ⟨rfl,hB⟩
   replace hm:=hm.below' hB;clear hB
   exact tAn rfl (tP rfl (λw=>yB rfl) (tP rfl (λw=>yA rfl) (tE (gR (gM rfl (gP (by omega) (by omega) rfl (gA rfl (gE (gze hm [] rfl)))))))))
  repeat clear hm
  intro ab ac w hm ae af
  exact gS (gS (gR (gM rfl (gM rfl (gY (yV jN rfl) (gB rfl (gE (go _ 10 rfl (decide_eq_false (by omega)) (gcf rfl (gXt (gHh (gS (gR (gM rfl (gA rfl (gE (gRt (gr1 results102 rfl ⟨rfl,hm.below⟩))))))))))))))))))
theorem uj (w0:World) (list:List fB) (v1:Value) (h1:GT.rep (hp w0) [v1] list) (r:Int) (hq:jy list=some r):Con Tryz.prog 102 [v1] w0 (λv w'=>v=(nV r)∧Below w0.heap.size w0 w'):=tU list r hq w0 v1 h1
theorem xA (w0:World) (p_:fZ) (v1:Value) (h1:GT.rep (hp w0) [v1] p_.fns) :
    iF Tryz.prog 68 [(.agg #[v1])] w0 (o7 p_) λr v w'=>v=(nV r)∧Below w0.heap.size w0 w':=by
  unfold o7
  refine iR func68 rfl λr=>?_
  have hm:=Mem.start w0
  refine gS (gR (gBx hm rfl λaD w hm=>gA rfl (gE (gS (gR (gA rfl (gE (gS (gS (gR (gA rfl (gE (gBk (gNf hm (λaA aB=>[(1,(pV aD)),(3,(nV aB)),(4,(nV aA))]) (λaA aB=>[blk aD [v1] 26]) [0] rfl ?_ ?_))))))))))))))
  ·repeat clear hm
   intro _ _ aA aB w hm aJ aK aL _
   refine gS (gS (gR (gM rfl (gF im rfl (gL hm 0 isAgg24 rfl ?_)))))
   obtain ⟨aM,aN,rfl,aO⟩:=fE h1
   refine gY (yV jW rfl) (gB rfl (gE (go _ 9 rfl (decide_eq_true (by omega)) (gct rfl (gSk (gS (gBk (gR (gM rfl (gF im rfl (gL hm 0 isAgg24 rfl (gM rfl (gg λaE aF aC=>?_)))))))))))))
   obtain ⟨aP,aQ,aR,he⟩:=fp h1 aC
   obtain ⟨rfl,_,rfl⟩:=sl3 he
   obtain ⟨aS,aG,aH,aT,aI⟩:=oK h1 aC
   exact gI jW aF (ff aC) rfl (gF l0 rfl (gY (yl isAgg52 ((aH.mono hm.lez).cell (j:=2) rfl) rfl) (gC hm rfl call102 (uj _ aE.body aG (hm.now aI)) λaU aV w hm=>gB rfl (gA rfl (gE (gR (gM rfl (gP (by omega) (by omega) rfl (gA rfl (gE (gze hm [0] rfl)))))))))))
  repeat clear hm
  intro aX aY w hm aZ a8
  refine gS (gS (gR (gM rfl (gF im rfl (gL hm 0 isAgg24 rfl ?_)))))
  obtain ⟨aa,ab,rfl,ac⟩:=fE h1
  exact gY (yV jW rfl) (gB rfl (gE (go _ 9 rfl (decide_eq_false (by omega)) (gcf rfl (gXt (gHh (gS (gR (gM rfl (gA rfl (gE (gRt (gr1 results68 rfl ⟨rfl,hm.below⟩)))))))))))))
theorem ny (w0:World) (p_:fZ) (v1:Value) (h1:GT.rep (hp w0) [v1] p_.fns) :
    iF Tryz.prog 25 [(.agg #[v1])] w0 (kR p_) λr v w'=>v=(.bool (r))∧Below w0.heap.size w0 w':=by
  unfold kR
  refine iR func25 rfl λr=>?_
  have hm:=Mem.start w0
  refine gS (gR (gBx hm rfl λaC w hm=>gA rfl (gE (gS (gS (gR (gF im rfl (gL hm 0 isAgg24 rfl ?_))))))))
  obtain ⟨aD,aE,rfl,aR⟩:=fE h1
  refine gY (yV jW rfl) (gC hm rfl call66 (lD _ (p_.fns.length:Int) 1 4) λaS aT w hm=>gN rfl (gE (gsn 8 rfl (λaG=>?_) λaG=>?_)))
  ·exact gct rfl (gS (gR (gA rfl (gE (gRt (gr1 results25 rfl ⟨rfl,hm.below⟩))))))
  refine gcf rfl (gSk (gS (gS (gR (gA rfl (gE (gBk (gNf hm (λaA aF=>[(1,(pV aC)),(3,(nV aA))]) (λaA aF=>[blk aC [.slice aD p_.fns.length aE] 26]) [0] rfl ?_ ?_))))))))
  ·repeat clear hm
   intro aU aH aA aF w hm aV aX aY aI
   refine gS (gS (gR (gM rfl (gF im rfl (gL hm 0 isAgg24 rfl (gY (yV jW rfl) (gB rfl (gE (go _ 13 rfl (decide_eq_true (by omega)) (gct rfl (gSk (gS (gBk (gS (gR (gF im rfl (gL hm 0 isAgg24 rfl (gM rfl (gg λaJ aK aB=>?_)))))))))))))))))))
   obtain ⟨aZ,a8,aa,he⟩:=fp h1 aB
   obtain ⟨rfl,_,rfl⟩:=sl3 he
   obtain ⟨aL,aM,aN,aO,aP⟩:=oK h1 aB
   refine gI jW aK (ff aB) rfl (gY (yn (aN.mono hm.lez) isAgg54 sizeOf54 rfl) (gC hm rfl call67 (yE _ aJ aL (hm.now aO) aM (hm.now aP)) λab ac w hm=>gN rfl (gE (gsn 22 rfl (λaQ=>?_) λaQ=>?_))))
   ·exact gct rfl (gS (gR (gA rfl (gE (gRt (gLr aI aH (gr1 results25 rfl ⟨rfl,hm.below⟩)))))))
   exact gcf rfl (gSk (gR (gM rfl (gP (by omega) (by omega) rfl (gA rfl (gE (gze hm [0] rfl)))))))
  repeat clear hm
  intro ae af w hm ag ah
  exact gS (gS (gR (gM rfl (gF im rfl (gL hm 0 isAgg24 rfl (gY (yV jW rfl) (gB rfl (gE (go _ 13 rfl (decide_eq_false (by omega)) (gcf rfl (gXt (gHh (gS (gR (gY (yn (hm.blk_at 0 rfl) isAgg26 sizeOf26 rfl) (gC hm rfl call68 (xA _ p_ (.slice aD p_.fns.length aE) (hm.now h1)) λai aj w hm=>gB rfl (gA rfl (gE (gRt (gr1 results25 rfl ⟨rfl,hm.below⟩))))))))))))))))))))
end Go.Proofs.YtdmoolhjchoifaaGreatDoor
