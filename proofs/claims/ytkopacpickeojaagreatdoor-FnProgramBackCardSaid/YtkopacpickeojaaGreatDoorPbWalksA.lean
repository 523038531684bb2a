/- A part of the proof of FnProgramBackCardSaid. -/
import Derived.Test.YtkopacpickeojaaGreatDoorPbModels
import Derived.Test.YtkopacpickeojaaGreatDoorChecked
import Derived.Test.YtkopacpickeojaaGreatDoorPbLays
import Derived.Test.YtkopacpickeojaaGreatDoorWkAd
namespace Go.Proofs.YtkopacpickeojaaGreatDoor
open Go Go.Wk Go.RowKit
set_option maxRecDepth 4000
set_option maxHeartbeats 4000000
open Tryz
theorem mxo:Tryz.prog.follows .mixedOrders=true:=by kernel_rfl
theorem nu:lE Tryz.prog 25 0 0:=by have h:=lE.mk (k:=0) underlying25 rfl sizeOf23;exact h
theorem sn:lE Tryz.prog 45 0 0:=by have h:=lE.mk (k:=0) underlying45 rfl sizeOf9;exact h
theorem o6:lE Tryz.prog 45 1 1:=by have h:=lE.mk (k:=1) underlying45 rfl sizeOf42;exact h
theorem oE:lE Tryz.prog 45 2 2:=by have h:=lE.mk (k:=2) underlying45 rfl sizeOf43;exact h
theorem sN:lE Tryz.prog 47 0 0:=by have h:=lE.mk (k:=0) underlying47 rfl sizeOf3;exact h
theorem o8:lE Tryz.prog 47 1 1:=by have h:=lE.mk (k:=1) underlying47 rfl sizeOf9;exact h
theorem sM:lE Tryz.prog 54 0 0:=by have h:=lE.mk (k:=0) underlying54 rfl sizeOf36;exact h
theorem qt:lE Tryz.prog 54 1 1:=by have h:=lE.mk (k:=1) underlying54 rfl sizeOf4;exact h
theorem oT:lE Tryz.prog 61 0 0:=by have h:=lE.mk (k:=0) underlying61 rfl sizeOf3;exact h
theorem qd:lE Tryz.prog 61 1 1:=by have h:=lE.mk (k:=1) underlying61 rfl sizeOf9;exact h
theorem ov:lE Tryz.prog 61 2 2:=by have h:=lE.mk (k:=2) underlying61 rfl sizeOf59;exact h
theorem qf:lE Tryz.prog 61 3 3:=by have h:=lE.mk (k:=3) underlying61 rfl sizeOf43;exact h
theorem qJ:lE Tryz.prog 61 4 4:=by have h:=lE.mk (k:=4) underlying61 rfl sizeOf43;exact h
theorem mP:lE Tryz.prog 80 0 0:=by have h:=lE.mk (k:=0) underlying80 rfl sizeOf3;exact h
theorem qe:lE Tryz.prog 80 1 1:=by have h:=lE.mk (k:=1) underlying80 rfl sizeOf3;exact h
theorem q9:lE Tryz.prog 80 2 2:=by have h:=lE.mk (k:=2) underlying80 rfl sizeOf9;exact h
theorem mJ:lE Tryz.prog 80 3 3:=by have h:=lE.mk (k:=3) underlying80 rfl sizeOf59;exact h
theorem sj:lE Tryz.prog 86 0 0:=by have h:=lE.mk (k:=0) underlying86 rfl sizeOf22;exact h
theorem ah6:lE Tryz.prog 86 1 1:=by have h:=lE.mk (k:=1) underlying86 rfl sizeOf3;exact h
theorem oK:lE Tryz.prog 109 0 0:=by have h:=lE.mk (k:=0) underlying109 rfl sizeOf40;exact h
theorem rn:lE Tryz.prog 109 1 1:=by have h:=lE.mk (k:=1) underlying109 rfl sizeOf23;exact h
theorem p9:lE Tryz.prog 109 2 2:=by have h:=lE.mk (k:=2) underlying109 rfl sizeOf42;exact h
theorem v8:lE Tryz.prog 109 3 3:=by have h:=lE.mk (k:=3) underlying109 rfl sizeOf3;exact h
theorem rh:lE Tryz.prog 109 4 4:=by have h:=lE.mk (k:=4) underlying109 rfl sizeOf3;exact h
theorem bb1:lE Tryz.prog 146 0 0:=by have h:=lE.mk (k:=0) underlying146 rfl sizeOf9;exact h
theorem bh7:lE Tryz.prog 146 1 1:=by have h:=lE.mk (k:=1) underlying146 rfl sizeOf3;exact h
theorem vm:qK Tryz.prog 22 5 1:=⟨underlying22,sizeOf5⟩
theorem nz:qK Tryz.prog 23 45 3:=⟨underlying23,sizeOf45⟩
theorem rU:qK Tryz.prog 36 47 2:=⟨underlying36,sizeOf47⟩
theorem oG:qK Tryz.prog 42 9 1:=⟨underlying42,sizeOf9⟩
theorem pI:qK Tryz.prog 43 61 5:=⟨underlying43,sizeOf61⟩
theorem nL:qK Tryz.prog 59 80 4:=⟨underlying59,sizeOf80⟩
theorem bs4:qK Tryz.prog 84 3 1:=⟨underlying84,sizeOf3⟩
theorem bs3:qw Tryz.prog 22 5 1 (.int .u8 (((0:UInt8)).toNat:Int)):=⟨underlying22,⟨_,(by kernel_rfl:Tryz.prog.info? 5=some t5),rfl,by decide,rfl⟩,rfl,by decide⟩
theorem mn:qw Tryz.prog 23 45 3 (.agg #[(tV (mkS [])),.slice none 0 0,.slice none 0 0]):=⟨underlying23,⟨_,(by kernel_rfl:Tryz.prog.info? 45=some t45),rfl,by decide,rfl⟩,rfl,by decide⟩
theorem mG:qw Tryz.prog 36 47 2 (.agg #[(.int .i64 (0)),(tV (mkS []))]):=⟨underlying36,⟨_,(by kernel_rfl:Tryz.prog.info? 47=some t47),rfl,by decide,rfl⟩,rfl,by decide⟩
theorem ox:qw Tryz.prog 42 9 1 (tV (mkS [])):=⟨underlying42,⟨_,(by kernel_rfl:Tryz.prog.info? 9=some t9),rfl,by decide,rfl⟩,rfl,by decide⟩
theorem mZ:qw Tryz.prog 43 61 5 (.agg #[(.int .i64 (0)),(tV (mkS [])),.slice none 0 0,.slice none 0 0,.slice none 0 0]):=⟨underlying43,⟨_,(by kernel_rfl:Tryz.prog.info? 61=some t61),rfl,by decide,rfl⟩,rfl,by decide⟩
theorem na:qw Tryz.prog 59 80 4 (.agg #[(.int .i64 (0)),(.int .i64 (0)),(tV (mkS [])),.slice none 0 0]):=⟨underlying59,⟨_,(by kernel_rfl:Tryz.prog.info? 80=some t80),rfl,by decide,rfl⟩,rfl,by decide⟩
theorem rp:qw Tryz.prog 84 3 1 (.int .i64 (0)):=⟨underlying84,⟨_,(by kernel_rfl:Tryz.prog.info? 3=some t3),rfl,by decide,rfl⟩,rfl,by decide⟩
theorem yd (w0:World) (hz:kX) (hle0:kX.le hz (hp w0)) (code:List UInt8) (v1:Value) (h1:GT.rep hz [v1] code) :
    mE Tryz.prog 17 [v1] w0 (qc code) λr v w'=>∃ (b1:Nat) (x2:Value) (hz2:kX),v=(pV b1)∧kX.le hz hz2∧GT.rep hz2 [x2] r.b∧Mem w0 hz2 w' [aw6 w0 hz,blk b1 [x2,nV r.p] 86]:=by
  unfold qc
  refine mR func17 rfl λr=>?_
  have hm:=Mem.startA hle0
  refine gS (gR (gA rfl (gE (gS (gS (gR (gM rfl ?_)))))))
  obtain ⟨aE,aF,rfl,aQ⟩:=kT h1
  refine gY (yV vm rfl) (gB rfl (gE (gJg (λaA a w=>∃ (aB:Value),GT.rep hz [aB] (aA)∧St 11 [(0,aB)] w0 hz [aw6 w0 hz] a w) (λaA=>?_) ?_)))
  ·refine gsd 5 rfl (λaH=>?_) λaH=>?_
   ·refine gct rfl (gR (gM rfl (gb λaI aJ=>?_)))
    obtain ⟨aK,aL⟩:=te.1 aJ
    obtain ⟨aM,aN,aO⟩:∃ nv,nv=wK (GT.sz (UInt8)) (.slice aE code.length aF) (0:Int).toNat (2000:Int).toNat∧GT.rep hz [nv] aI:=⟨_,rfl,by rw [← aL];exact ah8 h1 (by omega) (by omega)⟩
    exact gY (yG rfl (ar4 aN (bh3 (α:=UInt8) vm h1 rfl rfl rfl aK _))) (gA rfl (gE (gZ λa hf=>⟨aM,aO,hf.sb rfl,hm.pk [0] rfl rfl⟩)))
   exact gcf rfl (gSk (gZ λa hf=>⟨.slice aE code.length aF,h1,hf.sb rfl,hm.pk [0] rfl rfl⟩))
  repeat clear hm
  rintro aA a w ⟨aB,aG,hf,hm⟩
  refine gv hf (gS (gR (gM rfl ?_)))
  obtain ⟨aC,aD,rfl,aR⟩:=kT aG
  exact gY (yG rfl (kr (vs:=[(0,(.slice aC aA.length aD))]) (cs:=#[.slice aC aA.length aD,nV 0]) rfl rfl (by kernel_rfl))) (gBx hm rfl λaP w hm=>gA rfl (gE (gRt (gr1 results17 rfl ⟨aP,.slice aC aA.length aD,hz,rfl,(kX.le_refl _),aG,hm.pk [1,0] rfl rfl⟩))))
theorem ka (w0:World) (hz:kX) (r_:kR) (bp0:Nat) (v1p:Value) (h1p:GT.rep hz [v1p] r_.b) (n_:Int) (hm0:Mem w0 hz w0 [blk bp0 [v1p,nV r_.p] 86]) :
    mE Tryz.prog 39 [(pV bp0),nV n_] w0 (km r_ n_) λr v w'=>v=(nV r.1)∧Mem w0 hz w' [blk bp0 [v1p,nV r.2.p] 86]:=by
  unfold km
  refine mR func39 rfl λr=>?_
  have hm:=hm0
  refine gS (gR (gA rfl (gE (gS (gR (gM rfl (gM rfl (gY (yG rfl (kj rfl rfl)) (gF ah6 rfl (gL hm 0 isAgg3 rfl (gB rfl (gY (yG rfl (kj rfl rfl)) (gF ah6 rfl (gS1 hm 0 sizeOf3 rfl rfl λw hm=>gE (gS (gS (gJ hm (λaA=>[(0,(pV bp0)),(1,(nV n_)),(24,(.bool (aA)))]) (λaA=>[blk bp0 [v1p,nV (w64 (r_.p+1))] 86]) (λaA=>?_) ?_)))))))))))))))))
  ·refine gR (gM rfl (gB rfl (gM rfl (gsd 17 rfl (λaH=>?_) λaH=>?_))))
   ·exact gO rfl (gO rfl (gO rfl (gO rfl (gO rfl (gO rfl (gKt rfl (gE (gz hm [0] rfl))))))))
   refine gM rfl (gY (yG rfl (kj rfl rfl)) (gF sj rfl (gL hm 0 isAgg22 rfl ?_)))
   obtain ⟨a8,aa,rfl,ab⟩:=kT h1p
   exact gY (yV vm rfl) (gB rfl (gKf rfl (gE (gz hm [0] rfl))))
  repeat clear hm
  intro aA w hm
  refine gs 24 rfl (λaI=>?_) λaI=>?_
  ·exact gct rfl (gS (gR (gA rfl (gE (gRt (gr1 results39 rfl ⟨rfl,hm.pk [0] rfl rfl⟩))))))
  refine gcf rfl (gSk (gS (gR (gM rfl (gY (yG rfl (kj rfl rfl)) (gF ah6 rfl (gL hm 0 isAgg3 rfl (gB rfl (gA rfl (gE (gS (gS (gR (gM rfl (gM rfl (gY (yG rfl (kj rfl rfl)) (gF sj rfl (gL hm 0 isAgg22 rfl ?_))))))))))))))))))
  obtain ⟨aJ,aK,rfl,ac⟩:=kT h1p
  refine gY (yV vm rfl) (gB rfl (gE (gsd 36 rfl (λaL=>?_) λaL=>?_)))
  ·refine gct rfl (gS (gR (gM rfl (gY (yG rfl (kj rfl rfl)) (gF sj rfl (gL hm 0 isAgg22 rfl (gM rfl (gg λaB aM aC=>?_))))))))
   obtain ⟨ae,af,ag,he⟩:=nb h1p aC
   obtain ⟨rfl,_,rfl⟩:=sl3 he
   refine gI vm aM (lO aC) rfl (gY (yl isAgg5 ((lj (cs:=[(.int .u8 ((aB).toNat:Int))]) (hm.now h1p) aC rfl).cell (j:=0) rfl) rfl) (gY (yG rfl (xA (b:=aB) underlying5 underlying3 rfl rfl)) ?_))
   have ah:=UInt8.toNat_lt (aB)
   refine gM rfl (gb λai aN=>?_)
   obtain ⟨aO,rfl⟩:=wJ.1 aN
   exact gY (yG rfl (zt rfl rfl rfl aO)) (gA rfl (gE (gRt (gr1 results39 rfl ⟨rfl,hm.pk [0] rfl rfl⟩))))
  refine gcf rfl (gSk (gS (gW (.p 0 (.p 1 (.p 2 (.p 4 (.p 5 (.p 6 (.p 7 (.p 15 (.p 16 (.p 17 (.p 19 (.p 20 (.p 21 (.p 22 (.p 23 (.p 24 (.p 33 (.p 34 (.p 36 (.p 37 (.p 38 (.p 39 (.q 3 (.q 8 (.p 9 (.p 10 (.p 11 (.q 12 (.p 13 (.p 14 (.q 18 (.q 25 (.p 26 (.p 27 (.p 28 (.q 29 (.p 30 (.p 31 (.p 32 (.p 35 (.e 40 (.p 41 (.p 42 (.p 43 (.p 44 (.p 45 .fin))))) .nil))))))))))))))))))))))))))))))))))))))))) [3,8,12,18,25,29,40] [0,1,2,4,5,6,7,9,10,11,13,14,15,16,17,19,20,21,22,23,24,26,27,28,30,31,32,33,34,35,36,37,38,39,41,42,43,44,45] hm [0] [blk bp0 [.slice aJ r_.b.length aK,nV (w64 (r_.p+1))] 86] rfl mxo (by kernel_rfl) (λ_ _ _ h=>h.2) λw hm hS=>tP rfl (λw=>yM rfl) (tP rfl (λw=>yG rfl (kj rfl rfl)) (tP rfl (λw=>yF sj rfl) (tP rfl (λw=>yM rfl) (tP rfl (λw=>yM rfl) (tP rfl (λw=>yG rfl (kj rfl rfl)) (tP rfl (λw=>yF sj rfl) (tP rfl (λw=>yM rfl) (tP rfl (λw=>yG rfl (kj rfl rfl)) (tP rfl (λw=>yF sj rfl) (tP rfl (λw=>yM rfl) (tP rfl (λw=>yB rfl) (tP rfl (λw=>yB rfl) (tP rfl (λw=>yM rfl) (tP rfl (λw=>yG rfl (kj rfl rfl)) (tP rfl (λw=>yF sj rfl) (tP rfl (λw=>yM rfl) (tP rfl (λw=>yB rfl) (tP rfl (λw=>yM rfl) (tP rfl (λw=>yM rfl) (tP rfl (λw=>yG rfl (kj rfl rfl)) (tP rfl (λw=>yF sj rfl) (tQ rfl hS (λw hm=>yL hm 0 isAgg22 rfl) (tQ rfl hS (λw hm=>yL hm 0 isAgg22 rfl) (tP rfl (λw=>yV vm rfl) (gb λaj aP=>?_))))))))))))))))))))))))))))
  obtain ⟨aQ,rfl⟩:=wJ.1 aP
  refine tP rfl (λw=>yG rfl (zt rfl rfl rfl aQ)) (gg λaD aR aE=>?_)
  obtain ⟨ak,al,am,he⟩:=nb h1p aE
  obtain ⟨rfl,_,rfl⟩:=sl3 he
  refine tP rfl (λw=>yI vm aR (lO aE) rfl) (tQ rfl hS (λw hm=>yl isAgg5 ((lj (cs:=[(.int .u8 ((aD).toNat:Int))]) (hm.now h1p) aE rfl).cell (j:=0) rfl) rfl) (tP rfl (λw=>yG rfl (xA (b:=aD) underlying5 underlying3 rfl rfl)) ?_))
  have an:=UInt8.toNat_lt (aD)
  refine tP rfl (λw=>yB rfl) (tQ rfl hS (λw hm=>yL hm 0 isAgg22 rfl) (tQ rfl hS (λw hm=>yL hm 0 isAgg22 rfl) (tP rfl (λw=>yV vm rfl) (gb λao aS=>?_))))
  obtain ⟨aT,rfl⟩:=wJ.1 aS
  refine tP rfl (λw=>yG rfl (zt rfl rfl rfl aT)) (gg λaF aU aG=>tP rfl (λw=>yI vm aU (lO aG) rfl) (tQ rfl hS (λw hm=>yl isAgg5 ((lj (cs:=[(.int .u8 ((aF).toNat:Int))]) (hm.now h1p) aG rfl).cell (j:=0) rfl) rfl) (tP rfl (λw=>yG rfl (xA (b:=aF) underlying5 underlying3 rfl rfl)) ?_)))
  have aq:=UInt8.toNat_lt (aF)
  refine tP rfl (λw=>yB rfl) (tP rfl (λw=>yB rfl) (tP rfl (λw=>yB rfl) (tO (tY rfl (yL hm 0 isAgg22 rfl) (tAs hS (tP rfl (λw=>yV vm rfl) (gb λar aV=>?_)))))))
  obtain ⟨aX,rfl⟩:=az3.1 aV
  refine tP rfl (λw=>yG rfl (bc5 rfl rfl rfl aX)) (tP rfl (λw=>yB rfl) (tP rfl (λw=>yB rfl) (tP rfl (λw=>yA rfl) (tE (gS (gR (gM rfl (gM rfl (gY (yG rfl (bc5 rfl rfl rfl (by decide))) (gB rfl (gA rfl (gE (gS (gR (gM rfl (gM rfl (gb λau aY=>?_)))))))))))))))))
  obtain ⟨aZ,rfl⟩:=wJ.1 aY
  exact gY (yG rfl (zt rfl rfl rfl aZ)) (gA rfl (gE (gRt (gr1 results39 rfl ⟨rfl,hm.pk [0] rfl rfl⟩))))
theorem lA (w0:World) (hz:kX) (r_:kR) (bp0:Nat) (v1p:Value) (h1p:GT.rep hz [v1p] r_.b) (list:List Int) (v1:Value) (h1:GT.rep hz [v1] list) (hm0:Mem w0 hz w0 [blk bp0 [v1p,nV r_.p] 86]) :
    mE Tryz.prog 53 [(pV bp0),v1] w0 (lF r_ list) λr v w'=>v=(nV r.1)∧Mem w0 hz w' [blk bp0 [v1p,nV r.2.p] 86]:=by
  unfold lF
  refine mR func53 rfl λr=>?_
  have hm:=hm0
  refine gS (gR (gA rfl (gE (gS (gR (gM rfl (gM rfl (gM rfl ?_))))))))
  obtain ⟨aF,aG,rfl,aH⟩:=kT h1
  refine gY (yV bs4 rfl) ?_
  obtain ⟨aB,hle,hm1,hsub,aC⟩:=hm.take2 (L1:=[_]) (L2:=[]) [0] [] (by decide) rfl rfl
  refine gCg rfl call39 (ka _ aB r_ bp0 v1p (GT.mono hle h1p) (list.length:Int) hm1 ) ?_
  rintro aI aJ aK w ⟨rfl,hB⟩
  replace hm:=aC _ _ hB;clear hB
  refine gg λaD aE aA=>?_
  obtain ⟨aL,aM,aN,he⟩:=nb h1 aA
  obtain ⟨rfl,_,rfl⟩:=sl3 he
  exact gI bs4 aE (lO aA) rfl (gY (yl isAgg3 ((lj (cs:=[nV aD]) (hm.now h1) aA rfl).cell (j:=0) rfl) rfl) (gA rfl (gE (gRt (gr1 results53 rfl ⟨rfl,hm.pk [0] rfl rfl⟩)))))
theorem mv (w0:World) (hz:kX) (r_:kR) (bp0:Nat) (v1p:Value) (h1p:GT.rep hz [v1p] r_.b) (list:List Str) (v1:Value) (h1:GT.rep hz [v1] list) (hm0:Mem w0 hz w0 [blk bp0 [v1p,nV r_.p] 86]) :
    mE Tryz.prog 40 [(pV bp0),v1] w0 (lP r_ list) λr v w'=>v=(tV r.1)∧Mem w0 hz w' [blk bp0 [v1p,nV r.2.p] 86]:=by
  unfold lP
  refine mR func40 rfl λr=>?_
  have hm:=hm0
  refine gS (gR (gA rfl (gE (gS (gR (gM rfl (gM rfl (gM rfl ?_))))))))
  obtain ⟨aF,aG,rfl,aH⟩:=kT h1
  refine gY (yV oG rfl) ?_
  obtain ⟨aB,hle,hm1,hsub,aC⟩:=hm.take2 (L1:=[_]) (L2:=[]) [0] [] (by decide) rfl rfl
  refine gCg rfl call39 (ka _ aB r_ bp0 v1p (GT.mono hle h1p) (list.length:Int) hm1 ) ?_
  rintro aI aJ aK w ⟨rfl,hB⟩
  replace hm:=aC _ _ hB;clear hB
  refine gg λaD aE aA=>?_
  obtain ⟨aL,aM,aN,he⟩:=nb h1 aA
  obtain ⟨rfl,_,rfl⟩:=sl3 he
  exact gI oG aE (lO aA) rfl (gY (yl isAgg9 ((lj (cs:=[(tV aD)]) (hm.now h1) aA rfl).cell (j:=0) rfl) rfl) (gA rfl (gE (gRt (gr1 results40 rfl ⟨rfl,hm.pk [0] rfl rfl⟩)))))
theorem v7 (w0:World) (hz:kX) (r_:kR) (bp0:Nat) (v1p:Value) (h1p:GT.rep hz [v1p] r_.b) (names:List Str) (v1:Value) (h1:GT.rep hz [v1] names) (hm0:Mem w0 hz w0 [blk bp0 [v1p,nV r_.p] 86]) :
    mE Tryz.prog 90 [(pV bp0),v1] w0 (rI r_ names) λr v w'=>∃ (x1:Value),v=(.agg #[nV r.1.op,nV r.1.n_,(tV r.1.name),x1])∧Mem w0 hz w' [blk bp0 [v1p,nV r.2.p] 86,ow [x1] r.1.kids]:=by
  unfold rI
  refine mR func90 rfl λr=>?_
  have hm:=hm0
  refine gS (gR (gAl hm zeroValue80 rfl λaB w hm=>gE (gS (gS (gJ hm (λaA=>[(0,(pV bp0)),(1,v1),(4,(pV aB)),(12,(.bool (aA.2)))]) (λaA=>[blk bp0 [v1p,nV aA.1] 86,blk aB [nV 0,nV 0,(tV (mkS [])),.slice none 0 0] 80]) (λaA=>?_) ?_)))))
  ·refine gR (gM rfl ?_)
   obtain ⟨aN,aO,rfl,aP⟩:=kT h1
   refine gY (yV oG rfl) (gB rfl (gM rfl (gsd 8 rfl (λaE=>?_) λaE=>?_)))
   ·exact gO rfl (gO rfl (gO rfl (gKt rfl (gE (gz hm [1,0] rfl)))))
   refine gM rfl ?_
   obtain ⟨aF,hle,hm1,hsub,aG⟩:=hm.take2 (L1:=[_]) (L2:=[_]) [1] [0] (by decide) rfl rfl
   refine gCg rfl call39 (ka _ aF r_ bp0 v1p (GT.mono hle h1p) 3 hm1 ) ?_
   rintro aQ aR aS w ⟨rfl,hB⟩
   replace hm:=aG _ _ hB;clear hB
   exact gB rfl (gKf rfl (gE (gz hm [0,1] rfl)))
  repeat clear hm
  intro aA w hm
  refine gs 12 rfl (λaH=>?_) λaH=>?_
  ·refine gct rfl (gS (gR (gM rfl (gf rfl (fun a hf => kS (vs := #[(0, (nV 0)), (1, (nV 1)), (2, (nV 2)), (3, (nV 3)), (4, (nV 5)), (5, (nV 7)), (6, (nV 15)), (7, (nV 16)), (8, (nV 100)), (9, (nV 255))]) (cs := [nV 0, nV 1, nV 2, nV 3, nV 5, nV 7, nV 15, nV 16, nV 100, nV 255]) rp hf hm rfl rfl (by kernel_rfl) rfl rfl) ?_))))
   rintro _ w ⟨aI,rfl,hm⟩
   replace hm:=hm.lit (xs:=([0,1,2,3,5,7,15,16,100,255]:List Int)) 0 rfl rfl rfl rfl
   obtain ⟨aJ,hle,hm1,hsub,aK⟩:=hm.take2 (L1:=[_]) (L2:=[_,_]) [1] [0,2] (by decide) rfl rfl
   refine gCg rfl call53 (lA _ aJ (⟨r_.b,aA.1⟩:kR) bp0 v1p (GT.mono hle h1p) ([0,1,2,3,5,7,15,16,100,255]:List Int) (sV aI 0 10 10) (mY (hsub 0 _ rfl)) hm1 ) ?_
   rintro aC aT aU w ⟨rfl,hB⟩
   replace hm:=aK _ _ hB;clear hB
   refine gY (yG rfl (kr (vs:=[(0,(nV 1)),(1,(nV aC.1))]) (cs:=#[nV 1,nV aC.1,(tV (mkS [])),.slice none 0 0]) rfl rfl (by kernel_rfl))) (gSN hm 2 sizeOf80 (kL rfl (kL rfl (kL rfl (kL rfl ke)))) rfl λw hm=>gE (gRt ?_))
   replace hm:=hm.nilow (α:=kK)
   exact grc 3 results90 hm rfl isAgg80 sizeOf80 ⟨.slice none 0 0,rfl,hm.pk [1,0] rfl rfl⟩
  refine gcf rfl (gSk (gS (gR (gM rfl (gM rfl ?_)))))
  obtain ⟨aL,hle,hm1,hsub,aM⟩:=hm.take2 (L1:=[_]) (L2:=[_]) [0] [1] (by decide) rfl rfl
  refine gCg rfl call40 (mv _ aL (⟨r_.b,aA.1⟩:kR) bp0 v1p (GT.mono hle h1p) names v1 (GT.mono hle h1) hm1 ) ?_
  rintro aD aV aX w ⟨rfl,hB⟩
  replace hm:=aM _ _ hB;clear hB
  refine gY (yG rfl (kr (vs:=[(0,(nV 2)),(2,(tV aD.1))]) (cs:=#[nV 2,nV 0,(tV aD.1),.slice none 0 0]) rfl rfl (by kernel_rfl))) (gSN hm 1 sizeOf80 (kL rfl (kL rfl (kL rfl (kL rfl ke)))) rfl λw hm=>gE (gRt ?_))
  replace hm:=hm.nilow (α:=kK)
  exact grc 2 results90 hm rfl isAgg80 sizeOf80 ⟨.slice none 0 0,rfl,hm.pk [1,0] rfl rfl⟩
theorem yu (names:List Str):∀ (r_:kR) (deep:Int) (r:kK × kR),mi r_ names deep=some r→∀ (w0:World) (hz:kX) (bp0:Nat) (v1p:Value) (h1p:GT.rep hz [v1p] r_.b) (v1:Value) (h1:GT.rep hz [v1] names) (hm0:Mem w0 hz w0 [blk bp0 [v1p,nV r_.p] 86]),Con Tryz.prog 91 [(pV bp0),v1,nV deep] w0 (λv w'=>∃ (x1:Value),v=(.agg #[nV r.1.op,nV r.1.n_,(tV r.1.name),x1])∧Mem w0 hz w' [blk bp0 [v1p,nV r.2.p] 86,ow [x1] r.1.kids]):=by
  refine mi.partial_correctness names (motive:=λr_ deep r=>∀ (w0:World) (hz:kX) (bp0:Nat) (v1p:Value) (h1p:GT.rep hz [v1p] r_.b) (v1:Value) (h1:GT.rep hz [v1] names) (hm0:Mem w0 hz w0 [blk bp0 [v1p,nV r_.p] 86]),Con Tryz.prog 91 [(pV bp0),v1,nV deep] w0 (λv w'=>∃ (x1:Value),v=(.agg #[nV r.1.op,nV r.1.n_,(tV r.1.name),x1])∧Mem w0 hz w' [blk bp0 [v1p,nV r.2.p] 86,ow [x1] r.1.kids])) ?_
  intro rec_ ih_ r_ deep r hq w0 hz bp0 v1p h1p v1 h1 hm0
  have spec_l2Expr_rec:∀ (w0:World) (hz:kX) (r_:kR) (bp0:Nat) (v1p:Value) (h1p:GT.rep hz [v1p] r_.b) (_:List Str) (v1:Value) (h1:GT.rep hz [v1] names) (deep:Int) (hm0:Mem w0 hz w0 [blk bp0 [v1p,nV r_.p] 86]) (r:kK × kR) (hq:rec_ r_ deep=some r),Con Tryz.prog 91 [(pV bp0),v1,nV deep] w0 (λv w'=>∃ (x1:Value),v=(.agg #[nV r.1.op,nV r.1.n_,(tV r.1.name),x1])∧Mem w0 hz w' [blk bp0 [v1p,nV r.2.p] 86,ow [x1] r.1.kids]):=λw0 hz r_ bp0 v1p h1p _ v1 h1 deep hm0 r hq=>ih_ r_ deep r hq w0 hz bp0 v1p h1p v1 h1 hm0
  refine pO (ρ:=kK × kR) (R:=λr v w'=>∃ (x1:Value),v=(.agg #[nV r.1.op,nV r.1.n_,(tV r.1.name),x1])∧Mem w0 hz w' [blk bp0 [v1p,nV r.2.p] 86,ow [x1] r.1.kids]) func91 rfl hq ?_
  have hm:=hm0
  refine gS (gR (gAl hm zeroValue80 rfl λaG w hm=>gE (gS (gS (gJ hm (λaD=>[(0,(pV bp0)),(1,v1),(2,(nV deep)),(6,(pV aG)),(14,(.bool (aD.2)))]) (λaD=>[blk bp0 [v1p,nV aD.1] 86,blk aG [nV 0,nV 0,(tV (mkS [])),.slice none 0 0] 80]) (λaD=>?_) ?_)))))
  ·refine gR (gM rfl (gB rfl (gM rfl (gsd 10 rfl (λaP=>?_) λaP=>?_))))
   ·exact gO rfl (gO rfl (gO rfl (gKt rfl (gE (gz hm [1,0] rfl)))))
   refine gM rfl ?_
   obtain ⟨aQ,hle,hm1,hsub,aR⟩:=hm.take2 (L1:=[_]) (L2:=[_]) [1] [0] (by decide) rfl rfl
   refine gCg rfl call39 (ka _ aQ r_ bp0 v1p (GT.mono hle h1p) 4 hm1 ) ?_
   rintro ak al am w ⟨rfl,hB⟩
   replace hm:=aR _ _ hB;clear hB
   exact gB rfl (gKf rfl (gE (gz hm [0,1] rfl)))
  repeat clear hm
  intro aD w hm
  refine gs 14 rfl (λaS=>?_) λaS=>?_
  ·refine gct rfl (gS (gR (gM rfl (gM rfl ?_))))
   obtain ⟨aT,hle,hm1,hsub,aU⟩:=hm.take2 (L1:=[_]) (L2:=[_]) [0] [1] (by decide) rfl rfl
   refine gCg rfl call90 (v7 _ aT (⟨r_.b,aD.1⟩:kR) bp0 v1p (GT.mono hle h1p) names v1 (GT.mono hle h1) hm1 ) ?_
   rintro an ao aq w ⟨aV,rfl,hB⟩
   replace hm:=aU _ _ hB;clear hB
   exact gSN hm 2 sizeOf80 (kL rfl (kL rfl (kL rfl (kL (ki (hm.ow_rep 1 rfl)) ke)))) rfl λw hm=>gE (gRt (grc 2 results91 hm rfl isAgg80 sizeOf80 ⟨aV,rfl,hm.pk [0,1] rfl rfl⟩))
  refine gcf rfl (gSk (gS (gS (gR (gM rfl ?_)))))
  obtain ⟨aX,hle,hm1,hsub,aY⟩:=hm.take2 (L1:=[_]) (L2:=[_]) [0] [1] (by decide) rfl rfl
  refine gCg rfl call39 (ka _ aX (⟨r_.b,aD.1⟩:kR) bp0 v1p (GT.mono hle h1p) 7 hm1 ) ?_
  rintro aN ar au w ⟨rfl,hB⟩
  replace hm:=aY _ _ hB;clear hB
  refine gB rfl (gE (gsd 20 rfl (λaZ=>?_) λaZ=>?_))
  ·refine gct rfl (gS (gR (gM rfl (gf rfl (fun a hf => kS (vs := #[(0, (nV 11)), (1, (nV 12)), (2, (nV 11))]) (cs := [nV 11, nV 12, nV 11]) rp hf hm rfl rfl (by kernel_rfl) rfl rfl) ?_))))
   rintro _ w ⟨aO,rfl,hm⟩
   replace hm:=hm.lit (xs:=([11,12,11]:List Int)) 0 rfl rfl rfl rfl
   obtain ⟨a8,hle,hm1,hsub,aa⟩:=hm.take2 (L1:=[_]) (L2:=[_,_]) [1] [0,2] (by decide) rfl rfl
   refine gCg rfl call53 (lA _ a8 (⟨r_.b,aN.2.p⟩:kR) bp0 v1p (GT.mono hle h1p) ([11,12,11]:List Int) (sV aO 0 3 3) (mY (hsub 0 _ rfl)) hm1 ) ?_
   rintro aK av aw w ⟨rfl,hB⟩
   replace hm:=aa _ _ hB;clear hB
   refine gM rfl (gM rfl (gM rfl (gB rfl ?_)))
   obtain ⟨ab,hle,hm1,hsub,ac⟩:=hm.take2 (L1:=[_]) (L2:=[_,_]) [0] [1,2] (by decide) rfl rfl
   refine gCg rfl call91 (spec_l2Expr_rec _ ab (⟨r_.b,aK.2.p⟩:kR) bp0 v1p (GT.mono hle h1p) names v1 (GT.mono hle h1) (w64 (deep - 1)) hm1 ) ?_
   rintro aC ax ay w ⟨aI,rfl,hB⟩
   replace hm:=ac _ _ hB;clear hB
   refine gf rfl (λa hf=>kS (vs:=#[(0,(.agg #[nV aC.1.op,nV aC.1.n_,(tV aC.1.name),aI]))]) (cs:=[nV aC.1.op,nV aC.1.n_,(tV aC.1.name),aI]) na hf hm rfl rfl (by kernel_rfl) rfl rfl) ?_
   rintro _ w ⟨aJ,rfl,hm⟩
   replace hm:=hm.els_nil (α:=kK)
   replace hm:Mem w0 hz _ [els [] ([]:List kK),blk aJ [nV aC.1.op,nV aC.1.n_,(tV aC.1.name),aI] 80,blk bp0 [v1p,nV aC.2.p] 86,ow [nV aC.1.op,nV aC.1.n_,(tV aC.1.name),aI] (aC.1:kK),ow [sV aO 0 3 3] ([11,12,11]:List Int),blk aG [nV 0,nV 0,(tV (mkS [])),.slice none 0 0] 80]:=ly aC.1 hm 3 rfl
   replace hm:=(hm.els_cons 0 3 (by decide) rfl rfl).pk (L':=[_,_,_,_,_]) [0,1,2,4,5] rfl rfl
   replace hm:=(hm.lit_els 1 0 (by decide) rfl rfl rfl rfl).pk (L':=[_,_,_,_]) [1,2,3,4] rfl rfl
   exact gY (yG rfl (kr (vs:=[(0,(nV aK.1)),(3,(sV aJ 0 1 1))]) (cs:=#[nV aK.1,nV 0,(tV (mkS [])),sV aJ 0 1 1]) rfl rfl (by kernel_rfl))) (gSN hm 3 sizeOf80 (kL rfl (kL rfl (kL rfl (kL rfl ke)))) rfl λw hm=>gE (gRt (grc 3 results91 hm rfl isAgg80 sizeOf80 ⟨sV aJ 0 1 1,rfl,hm.pk [1,0] rfl rfl⟩)))
  refine gcf rfl (gSk (gS (gR (gM rfl (gf rfl (λa hf=>kS (vs:=#[(0,(nV 3)),(1,(nV 3)),(2,(nV 4)),(3,(nV 5)),(4,(nV 6)),(5,(nV 7)),(6,(nV 8)),(7,(nV 9)),(8,(nV 10))]) (cs:=[nV 3,nV 3,nV 4,nV 5,nV 6,nV 7,nV 8,nV 9,nV 10]) rp hf hm rfl rfl (by kernel_rfl) rfl rfl) ?_)))))
  rintro _ w ⟨aL,rfl,hm⟩
  replace hm:=hm.lit (xs:=([3,3,4,5,6,7,8,9,10]:List Int)) 0 rfl rfl rfl rfl
  obtain ⟨ae,hle,hm1,hsub,af⟩:=hm.take2 (L1:=[_]) (L2:=[_,_]) [1] [0,2] (by decide) rfl rfl
  refine gCg rfl call53 (lA _ ae (⟨r_.b,aN.2.p⟩:kR) bp0 v1p (GT.mono hle h1p) ([3,3,4,5,6,7,8,9,10]:List Int) (sV aL 0 9 9) (mY (hsub 0 _ rfl)) hm1 ) ?_
  rintro aM az bA w ⟨rfl,hB⟩
  replace hm:=af _ _ hB;clear hB
  refine gA rfl (gE (gS (gR (gM rfl (gM rfl (gM rfl (gM rfl (gB rfl ?_))))))))
  obtain ⟨ag,hle,hm1,hsub,ah⟩:=hm.take2 (L1:=[_]) (L2:=[_,_]) [0] [1,2] (by decide) rfl rfl
  refine gCg rfl call91 (spec_l2Expr_rec _ ag (⟨r_.b,aM.2.p⟩:kR) bp0 v1p (GT.mono hle h1p) names v1 (GT.mono hle h1) (w64 (deep - 1)) hm1 ) ?_
  rintro aB bB bC w ⟨aE,rfl,hB⟩
  replace hm:=ah _ _ hB;clear hB
  refine gM rfl (gM rfl (gM rfl (gB rfl ?_)))
  obtain ⟨ai,hle,hm1,hsub,aj⟩:=hm.take2 (L1:=[_]) (L2:=[_,_,_]) [0] [1,2,3] (by decide) rfl rfl
  refine gCg rfl call91 (spec_l2Expr_rec _ ai (⟨r_.b,aB.2.p⟩:kR) bp0 v1p (GT.mono hle h1p) names v1 (GT.mono hle h1) (w64 (deep - 1)) hm1 ) ?_
  rintro aA bD bE w ⟨aF,rfl,hB⟩
  replace hm:=aj _ _ hB;clear hB
  refine gf rfl (λa hf=>kS (vs:=#[(0,(.agg #[nV aB.1.op,nV aB.1.n_,(tV aB.1.name),aE])),(1,(.agg #[nV aA.1.op,nV aA.1.n_,(tV aA.1.name),aF]))]) (cs:=[nV aB.1.op,nV aB.1.n_,(tV aB.1.name),aE,nV aA.1.op,nV aA.1.n_,(tV aA.1.name),aF]) na hf hm rfl rfl (by kernel_rfl) rfl rfl) ?_
  rintro _ w ⟨aH,rfl,hm⟩
  replace hm:=hm.els_nil (α:=kK)
  replace hm:Mem w0 hz _ [els [] ([]:List kK),blk aH [nV aB.1.op,nV aB.1.n_,(tV aB.1.name),aE,nV aA.1.op,nV aA.1.n_,(tV aA.1.name),aF] 80,blk bp0 [v1p,nV aA.2.p] 86,ow [nV aA.1.op,nV aA.1.n_,(tV aA.1.name),aF] (aA.1:kK),ow [aE] aB.1.kids,ow [sV aL 0 9 9] ([3,3,4,5,6,7,8,9,10]:List Int),blk aG [nV 0,nV 0,(tV (mkS [])),.slice none 0 0] 80]:=ly aA.1 hm 3 rfl
  replace hm:=(hm.els_cons 0 3 (by decide) rfl rfl).pk (L':=[_,_,_,_,_,_]) [0,1,2,4,5,6] rfl rfl
  replace hm:Mem w0 hz _ [els [nV aA.1.op,nV aA.1.n_,(tV aA.1.name),aF] ([aA.1]:List kK),blk aH [nV aB.1.op,nV aB.1.n_,(tV aB.1.name),aE,nV aA.1.op,nV aA.1.n_,(tV aA.1.name),aF] 80,blk bp0 [v1p,nV aA.2.p] 86,ow [nV aB.1.op,nV aB.1.n_,(tV aB.1.name),aE] (aB.1:kK),ow [sV aL 0 9 9] ([3,3,4,5,6,7,8,9,10]:List Int),blk aG [nV 0,nV 0,(tV (mkS [])),.slice none 0 0] 80]:=ly aB.1 hm 3 rfl
  replace hm:=(hm.els_cons 0 3 (by decide) rfl rfl).pk (L':=[_,_,_,_,_]) [0,1,2,4,5] rfl rfl
  replace hm:=(hm.lit_els 1 0 (by decide) rfl rfl rfl rfl).pk (L':=[_,_,_,_]) [1,2,3,4] rfl rfl
  exact gY (yG rfl (kr (vs:=[(0,(nV aM.1)),(3,(sV aH 0 2 2))]) (cs:=#[nV aM.1,nV 0,(tV (mkS [])),sV aH 0 2 2]) rfl rfl (by kernel_rfl))) (gSN hm 3 sizeOf80 (kL rfl (kL rfl (kL rfl (kL rfl ke)))) rfl λw hm=>gE (gRt (grc 3 results91 hm rfl isAgg80 sizeOf80 ⟨sV aH 0 2 2,rfl,hm.pk [1,0] rfl rfl⟩)))
theorem p7 (w0:World) (hz:kX) (r_:kR) (bp0:Nat) (v1p:Value) (h1p:GT.rep hz [v1p] r_.b) (names:List Str) (v1:Value) (h1:GT.rep hz [v1] names) (deep:Int) (hm0:Mem w0 hz w0 [blk bp0 [v1p,nV r_.p] 86]) (r:kK × kR) (hq:mi r_ names deep=some r):Con Tryz.prog 91 [(pV bp0),v1,nV deep] w0 (λv w'=>∃ (x1:Value),v=(.agg #[nV r.1.op,nV r.1.n_,(tV r.1.name),x1])∧Mem w0 hz w' [blk bp0 [v1p,nV r.2.p] 86,ow [x1] r.1.kids]):=yu names r_ deep r hq w0 hz bp0 v1p h1p v1 h1 hm0
theorem mH (w0:World) (hz:kX) (g:lG) (bp100:Nat) (bp0:Nat) (v1p:Value) (h1p:GT.rep hz [v1p] g.fns) (v2p:Value) (h2p:GT.rep hz [v2p] g.vars) (hbbp0:hz bp0=some (.cells ([(pV bp100),v1p,v2p,nV g.next_,nV g.left]:List Value).toArray 109 (0,0))) (gRd:kR) (v3p:Value) (h3p:GT.rep hz [v3p] gRd.b) (deep:Int) (hm0:Mem w0 hz w0 [blk bp100 [v3p,nV gRd.p] 86]) :
    mE Tryz.prog 109 [(pV bp0),nV deep] w0 (lg g gRd deep) λr v w'=>∃ (x1:Value),v=(.agg #[nV r.1.op,nV r.1.n_,(tV r.1.name),x1])∧Mem w0 hz w' [blk bp100 [v3p,nV r.2.p] 86,ow [x1] r.1.kids]:=by
  unfold lg
  refine mR func109 rfl λr=>?_
  have hm:=hm0
  refine gS (gR (gAl hm zeroValue80 rfl λaD w hm=>gE (gS (gJg (λaE a w=>∃ (aO:Nat) (aM:Value),St 99 [(0,(pV bp0)),(4,(pV aD)),(5,(pV aO))] w0 hz [blk aD [nV 0,nV 0,(tV (mkS [])),.slice none 0 0] 80,blk aO [nV aE.1,nV aE.2.1,(tV aE.2.2.1),aM] 80,ow [aM] aE.2.2.2.1,blk bp100 [v3p,nV aE.2.2.2.2] 86] a w) (λaE=>?_) ?_))))
  ·refine gW (.p 0 (.p 1 (.p 2 (.p 4 (.p 5 (.p 6 (.p 8 (.q 3 (.q 7 (.e 9 (.e 10 (.e 11 .fin .nil) .nil) (.e 10 (.e 9 (.e 11 .fin .nil) .nil) .nil))))))))))) [3, 7, 10] [0, 1, 2, 4, 5, 6, 8] hm [0] [_] rfl mxo (by kernel_rfl) (fun _ _ _ h => h.2) fun w hm hS => tP rfl (fun w => yM rfl) (tP rfl (fun w => yG rfl (kj rfl rfl)) (tP rfl (fun w => yF oK rfl) (tP rfl (fun w => yM rfl) (tP rfl (fun w => yG rfl (kj rfl rfl)) (tP rfl (fun w => yF p9 rfl) (tP rfl (fun w => yM rfl) (tQ rfl hS (fun w hm => yl isAgg40 (hm.hz_cell hbbp0 rfl) rfl) (tQ rfl hS (fun w hm => yl isAgg42 (hm.hz_cell hbbp0 rfl) rfl) (gb fun bg ab => tMo ?_ ?_)))))))))
   ·obtain ⟨ao, hle, hm1, hsub, aq⟩ := hm.take2 (L1 := [_]) (L2 := [_]) [1] [0] (by decide) rfl rfl
    refine tf rfl rfl (λa hf=>lK hf rfl call91 rfl (p7 _ ao gRd bp100 v3p (GT.mono hle h3p) g.vars v2p (GT.mono hle h2p) deep hm1  _ ab)) ?_
    rintro bh w ⟨ar,rfl,hB⟩
    replace hm:=aq _ _ hB;clear hB
    refine tAn rfl (tO (tf rfl rfl (λa hf=>mb hm zeroValue80 rfl rfl) ?_))
    rintro _ w ⟨au,rfl,hm⟩
    refine tAk hm [3] rfl λhS=>tO (tf0 rfl rfl (λa hf=>nH 0 hf hm rfl sizeOf80 rfl rfl rfl (kL rfl (kL rfl (kL rfl (kL (ki (hm.ow_rep 2 rfl)) ke)))) rfl rfl) ?_)
    rintro _ w hm
    exact tAn rfl (tE (gZ λa hf=>⟨au,ar,hf.sb rfl,hm.pk [3,0,2,1] rfl rfl⟩))
   refine tO (tf rfl rfl (λa hf=>mb hm zeroValue80 rfl rfl) ?_)
   rintro _ w ⟨av,rfl,hm⟩
   refine tAk hm [1] rfl λhS=>tO ?_
   obtain ⟨aw,hle,hm1,hsub,ax⟩:=hm.take2 (L1:=[_]) (L2:=[_,_]) [2] [0,1] (by decide) rfl rfl
   refine tf rfl rfl (λa hf=>lK hf rfl call91 rfl (p7 _ aw gRd bp100 v3p (GT.mono hle h3p) g.vars v2p (GT.mono hle h2p) deep hm1  _ ab)) ?_
   rintro bi w ⟨ay,rfl,hB⟩
   replace hm:=ax _ _ hB;clear hB
   refine tAn rfl (tO (tf0 rfl rfl (λa hf=>nH 2 hf hm rfl sizeOf80 rfl rfl rfl (kL rfl (kL rfl (kL rfl (kL (ki (hm.ow_rep 1 rfl)) ke)))) rfl rfl) ?_))
   rintro _ w hm
   exact tAn rfl (tE (gZ λa hf=>⟨av,ay,hf.sb rfl,hm.pk [3,2,1,0] rfl rfl⟩))
  repeat clear hm
  rintro aE a w ⟨aO,aM,hf,hm⟩
  refine gv hf (gS (gS (gJ hm (λaI=>[(0,(pV bp0)),(4,(pV aD)),(5,(pV aO)),(32,(.bool (aI.1)))]) (λaI=>[blk aD [nV 0,nV 0,(tV (mkS [])),.slice none 0 0] 80,blk aO [nV aE.1,nV aE.2.1,(tV aE.2.2.1),aM] 80,ow [aM] aE.2.2.2.1,blk bp100 [v3p,nV aI.2] 86]) (λaI=>?_) ?_)))
  ·refine gR (gM rfl (gY (yG rfl (kj rfl rfl)) (gF rn rfl (gY (yl isAgg23 (hm.hz_cell hbbp0 rfl) rfl) ?_))))
   obtain ⟨bj,bk,rfl,bl⟩:=kT h1p
   refine gY (yV nz rfl) (gB rfl (gM rfl (gsd 25 rfl (λaz=>?_) λaz=>?_)))
   ·exact gO rfl (gO rfl (gO rfl (gO rfl (gO rfl (gO rfl (gKt rfl (gE (gz hm [0,1,2,3] rfl))))))))
   refine gM rfl (gY (yG rfl (kj rfl rfl)) (gF oK rfl (gY (yl isAgg40 (hm.hz_cell hbbp0 rfl) rfl) ?_)))
   obtain ⟨bA,hle,hm1,hsub,bB⟩:=hm.take2 (L1:=[_]) (L2:=[_,_,_]) [3] [0,1,2] (by decide) rfl rfl
   refine gCg rfl call39 (ka _ bA (⟨gRd.b,aE.2.2.2.2⟩:kR) bp100 v3p (GT.mono hle h3p) 4 hm1 ) ?_
   rintro bm bo bp w ⟨rfl,hB⟩
   replace hm:=bB _ _ hB;clear hB
   exact gB rfl (gKf rfl (gE (gz hm [1,2,3,0] rfl)))
  repeat clear hm
  intro aI w hm
  refine gs 32 rfl (λbC=>?_) λbC=>?_
  ·exact gct rfl (gS (gR (gY (yn (hm.blk_at 1 rfl) isAgg80 sizeOf80 rfl) (gSN hm 0 sizeOf80 (kL rfl (kL rfl (kL rfl (kL (ki (hm.ow_rep 2 rfl)) ke)))) rfl λw hm=>gE (gRt (grc 0 results109 hm rfl isAgg80 sizeOf80 ⟨aM,rfl,hm.pk [3,2] rfl rfl⟩))))))
  refine gcf rfl (gSk (gS (gJg (λaA a w=>∃ (aG:Nat) (aQ aH:Value),GT.rep hz [aQ] (aA.2.1)∧GT.rep hz [aH] (aA.2.2.1)∧St 99 [(0,(pV bp0)),(4,(pV aD)),(6,(pV aG))] w0 hz [blk aD [nV 0,nV 0,(tV (mkS [])),.slice none 0 0] 80,blk aG [(tV aA.1),aQ,aH] 45,blk bp100 [v3p,nV aA.2.2.2] 86] a w) (λaA=>?_) ?_)))
  ·refine gW (.p 0 (.p 1 (.p 2 (.p 4 (.p 5 (.p 6 (.p 8 (.p 9 (.p 10 (.q 3 (.q 7 (.q 11 (.p 12 (.e 13 (.p 14 (.e 15 (.e 16 (.e 17 .fin .nil) .nil) (.e 16 (.e 15 (.e 17 .fin .nil) .nil) .nil))) (.e 16 (.e 13 (.p 14 (.e 15 (.e 17 .fin .nil) .nil)) .nil) .nil))))))))))))))) [3, 7, 11, 13, 16] [0, 1, 2, 4, 5, 6, 8, 9, 10, 12, 14] hm [0, 1, 2] [_, _, _] rfl mxo (by kernel_rfl) (fun _ _ _ h => h.2) fun w hm hS => tP rfl (fun w => yM rfl) (tP rfl (fun w => yG rfl (kj rfl rfl)) (tP rfl (fun w => yF rn rfl) (tP rfl (fun w => yM rfl) (tP rfl (fun w => yG rfl (kj rfl rfl)) (tP rfl (fun w => yF oK rfl) (tP rfl (fun w => yM rfl) (tP rfl (fun w => yG rfl (kj rfl rfl)) (tP rfl (fun w => yF rn rfl) (tQ rfl hS (fun w hm => yl isAgg23 (hm.hz_cell hbbp0 rfl) rfl) (tQ rfl hS (fun w hm => yl isAgg40 (hm.hz_cell hbbp0 rfl) rfl) (tQ rfl hS (fun w hm => yl isAgg23 (hm.hz_cell hbbp0 rfl) rfl) ?_)))))))))))
   obtain ⟨bq,br,rfl,bs⟩:=kT h1p
   refine tP rfl (λw=>yV nz rfl) (gb λbt ac=>gb λbu ae=>tMo ?_ ?_)
   ·obtain ⟨bD, hle, hm1, hsub, bE⟩ := hm.take2 (L1 := [_]) (L2 := [_, _, _]) [3] [0, 1, 2] (by decide) rfl rfl
    refine tf rfl rfl (λa hf=>lK hf rfl call39 rfl (ka _ bD (⟨gRd.b,aI.2⟩:kR) bp100 v3p (GT.mono hle h3p) (g.fns.length:Int) hm1  _ ac)) ?_
    rintro bv w ⟨rfl,hB⟩
    replace hm:=bE _ _ hB;clear hB
    refine tAk hm [1,2,3] rfl λhS=>?_
    obtain ⟨bF,aV⟩:=rB.1 ae
    obtain ⟨bw,bz,cA,he⟩:=lU h1p aV
    obtain ⟨rfl,_,rfl⟩:=sl3 he
    obtain ⟨af,ag,ah,aR,aS⟩:=sH h1p aV
    refine tP rfl (λw=>yI nz bF (lO aV) rfl) (tMo ?_ ?_)
    ·refine tY rfl (yn (ah.mono hm.lez) isAgg45 sizeOf45 rfl) (tAn rfl (tO (tf rfl rfl (λa hf=>mb hm zeroValue45 rfl rfl) ?_)))
     rintro _ w ⟨bG,rfl,hm⟩
     refine tAk hm [2,3,4] rfl λhS=>tO (tf0 rfl rfl (λa hf=>nH 0 hf hm rfl sizeOf45 rfl rfl rfl (kL rfl (kL (ki aR) (kL (ki aS) ke))) rfl rfl) ?_)
     rintro _ w hm
     exact tAn rfl (tE (gZ λa hf=>⟨bG,af,ag,aR,aS,hf.sb rfl,hm.pk [2,0,1] rfl rfl⟩))
    refine tO (tf rfl rfl (λa hf=>mb hm zeroValue45 rfl rfl) ?_)
    rintro _ w ⟨bH,rfl,hm⟩
    refine tAk hm [2,3,4] rfl λhS=>tO (tY rfl (yn (ah.mono hm.lez) isAgg45 sizeOf45 rfl) (tAn rfl (tO (tf0 rfl rfl (λa hf=>nH 0 hf hm rfl sizeOf45 rfl rfl rfl (kL rfl (kL (ki aR) (kL (ki aS) ke))) rfl rfl) ?_))))
    rintro _ w hm
    exact tAn rfl (tE (gZ λa hf=>⟨bH,af,ag,aR,aS,hf.sb rfl,hm.pk [2,0,1] rfl rfl⟩))
   refine tO (tf rfl rfl (λa hf=>mb hm zeroValue45 rfl rfl) ?_)
   rintro _ w ⟨bJ,rfl,hm⟩
   refine tAk hm [1,2,3] rfl λhS=>tO ?_
   obtain ⟨bK,hle,hm1,hsub,bL⟩:=hm.take2 (L1:=[_]) (L2:=[_,_,_,_]) [4] [0,1,2,3] (by decide) rfl rfl
   refine tf rfl rfl (λa hf=>lK hf rfl call39 rfl (ka _ bK (⟨gRd.b,aI.2⟩:kR) bp100 v3p (GT.mono hle h3p) (g.fns.length:Int) hm1  _ ac)) ?_
   rintro cC w ⟨rfl,hB⟩
   replace hm:=bL _ _ hB;clear hB
   refine tAk hm [2,3,4] rfl λhS=>?_
   obtain ⟨bM,aX⟩:=rB.1 ae
   obtain ⟨cD,cE,cF,he⟩:=lU h1p aX
   obtain ⟨rfl,_,rfl⟩:=sl3 he
   obtain ⟨bN,bO,bP,ai,aj⟩:=sH h1p aX
   refine tP rfl (λw=>yI nz bM (lO aX) rfl) (tO (tY rfl (yn (bP.mono hm.lez) isAgg45 sizeOf45 rfl) (tAn rfl (tO (tf0 rfl rfl (λa hf=>nH 1 hf hm rfl sizeOf45 rfl rfl rfl (kL rfl (kL (ki ai) (kL (ki aj) ke))) rfl rfl) ?_)))))
   rintro _ w hm
   exact tAn rfl (tE (gZ λa hf=>⟨bJ,bN,bO,ai,aj,hf.sb rfl,hm.pk [2,1,0] rfl rfl⟩))
  repeat clear hm
  rintro aA a w ⟨aG,aQ,aH,ak,cG,hf,hm⟩
  refine gv hf (gS (gR (gF sn rfl (gL hm 1 isAgg9 rfl (gY (yG rfl (kr (vs:=[(0,(nV 13)),(2,(tV aA.1))]) (cs:=#[nV 13,nV 0,(tV aA.1),.slice none 0 0]) rfl rfl (by kernel_rfl))) (gAl hm zeroValue80 rfl λaJ w hm=>gSN hm 0 sizeOf80 (kL rfl (kL rfl (kL rfl (kL rfl ke)))) rfl λw hm=>gE (gS (gS (gR (gA rfl (gE (gBk ?_))))))))))))
  replace hm:=hm.nilow (α:=kK)
  refine gNg (λal aK a w=>∃ (aL:Value),St 99 [(0,(pV bp0)),(4,(pV aD)),(6,(pV aG)),(7,(pV aJ)),(8,(nV al))] w0 hz [blk aD [nV 0,nV 0,(tV (mkS [])),.slice none 0 0] 80,blk aG [(tV aA.1),aQ,aH] 45,blk aJ [nV 13,nV 0,(tV aA.1),aL] 80,ow [aL] aK.1,blk bp100 [v3p,nV aK.2] 86] a w) (λa hf=>⟨.slice none 0 0,hf.sb rfl,hm.pk [2,3,1,0,4] rfl rfl⟩) ?_ ?_
  ·repeat clear hm
   rintro _ _ al aK a w ⟨aL,hf,hm⟩ cH cI cJ _
   refine gv hf (gS (gS (gR (gM rfl (gF o6 rfl (gL hm 1 isAgg42 rfl ?_))))))
   obtain ⟨am,an,rfl,cK⟩:=kT ak
   refine gY (yV oG rfl) (gB rfl (gE (go _ 57 rfl (decide_eq_true (by omega)) (gct rfl (gSk (gS (gBk (gW (.p 0 (.p 2 (.p 3 (.p 4 (.p 6 (.p 7 (.p 8 (.q 1 (.q 5 (.e 9 (.e 10 (.e 11 (.e 12 (.p 13 (.e 14 .fin .nil)) .nil) .nil) .nil) .nil)))))))))) [1,5,9,10,11] [0,2,3,4,6,7,8,13] hm [0,1,2,3] [blk aD [nV 0,nV 0,(tV (mkS [])),.slice none 0 0] 80,blk aG [(tV aA.1),.slice am aA.2.1.length an,aH] 45,blk aJ [nV 13,nV 0,(tV aA.1),aL] 80,ow [aL] aK.1] rfl mxo (by kernel_rfl) (λ_ _ _ h=>h.2) λw hm hS=>tP rfl (λw=>yF mJ rfl) (tP rfl (λw=>yM rfl) (tP rfl (λw=>yG rfl (kj rfl rfl)) (tP rfl (λw=>yF oK rfl) (tP rfl (λw=>yM rfl) (tP rfl (λw=>yG rfl (kj rfl rfl)) (tP rfl (λw=>yF p9 rfl) (tQ rfl hS (λw hm=>yL hm 2 isAgg59 rfl) (tQ rfl hS (λw hm=>yl isAgg40 (hm.hz_cell hbbp0 rfl) rfl) (tO (tY rfl (yl isAgg42 (hm.hz_cell hbbp0 rfl) rfl) (tAs hS (tO (gb λaC bQ=>?_)))))))))))))))))))))
   obtain ⟨bR,hle,hm1,hsub,bS⟩:=hm.take2 (L1:=[_]) (L2:=[_,_,_,_]) [4] [0,1,2,3] (by decide) rfl rfl
   refine tf rfl rfl (λa hf=>lK hf rfl call91 rfl (p7 _ bR (⟨gRd.b,aK.2⟩:kR) bp100 v3p (GT.mono hle h3p) g.vars v2p (GT.mono hle h2p) 2 hm1  _ bQ)) ?_
   rintro cL w ⟨aT,rfl,hB⟩
   replace hm:=bS _ _ hB;clear hB
   refine tAk hm [2,3,4,5] rfl λhS=>tO (tf rfl rfl (λa hf=>kS (vs:=#[(0,(.agg #[nV aC.1.op,nV aC.1.n_,(tV aC.1.name),aT]))]) (cs:=[nV aC.1.op,nV aC.1.n_,(tV aC.1.name),aT]) na hf hm rfl rfl (by kernel_rfl) rfl rfl) ?_)
   rintro _ w ⟨bT,rfl,hm⟩
   replace hm:=hm.els_nil (α:=kK)
   replace hm:Mem w0 hz _ [els [] ([]:List kK),blk bT [nV aC.1.op,nV aC.1.n_,(tV aC.1.name),aT] 80,blk bp100 [v3p,nV aC.2.p] 86,ow [nV aC.1.op,nV aC.1.n_,(tV aC.1.name),aT] (aC.1:kK),blk aD [nV 0,nV 0,(tV (mkS [])),.slice none 0 0] 80,blk aG [(tV aA.1),.slice am aA.2.1.length an,aH] 45,blk aJ [nV 13,nV 0,(tV aA.1),aL] 80,ow [aL] aK.1]:=ly aC.1 hm 3 rfl
   replace hm:=(hm.els_cons 0 3 (by decide) rfl rfl).pk (L':=[_,_,_,_,_,_,_]) [0,1,2,4,5,6,7] rfl rfl
   replace hm:=(hm.lit_els 1 0 (by decide) rfl rfl rfl rfl).pk (L':=[_,_,_,_,_,_]) [1,2,3,4,5,6] rfl rfl
   refine tAk hm [2,3,4,5] rfl λhS=>tO (gb λcN bU=>?_)
   obtain ⟨bV,bW⟩:=kb.1 bU
   replace hm:=(hm.both 5 0 (by decide) rfl rfl).pk (L':=[_,_,_,_,_]) [1,2,3,4,5] rfl rfl
   refine tf rfl rfl (λa hf=>lp (xs:=aK.1) (ys:=([aC.1]:List kK)) 4 na hf hm rfl rfl rfl rfl bV) ?_
   rintro bX w hm
   rw [bW] at hm
   refine tAn rfl (tP rfl (λw=>yF mJ rfl) (tO (tf0 rfl rfl (λa hf=>nP 3 hf hm rfl sizeOf59 rfl rfl rfl (ki (hm.ow_rep 4 rfl)) rfl) ?_)))
   rintro _ w hm
   exact tAn rfl (tE (gR (gM rfl (gP (by omega) (by omega) rfl (gA rfl (gE (gZe λa hf=>⟨bX,hf.sb rfl,hm.pk [1,2,3,4,0] rfl rfl⟩)))))))
  repeat clear hm
  rintro cO aU a w ⟨aF,hf,hm⟩ cP cQ
  refine gv hf (gS (gS (gR (gM rfl (gF o6 rfl (gL hm 1 isAgg42 rfl ?_))))))
  obtain ⟨aY,aZ,rfl,cR⟩:=kT ak
  refine gY (yV oG rfl) (gB rfl (gE (go _ 57 rfl (decide_eq_false (by omega)) (gcf rfl (gXt (gHh (gS (gS (gR (gM rfl (gY (yG rfl (kj rfl rfl)) (gF oK rfl (gY (yl isAgg40 (hm.hz_cell hbbp0 rfl) rfl) ?_)))))))))))))
  obtain ⟨bY,hle,hm1,hsub,bZ⟩:=hm.take2 (L1:=[_]) (L2:=[_,_,_,_]) [4] [0,1,2,3] (by decide) rfl rfl
  refine gCg rfl call39 (ka _ bY (⟨gRd.b,aU.2⟩:kR) bp100 v3p (GT.mono hle h3p) 2 hm1 ) ?_
  rintro b8 cS cT w ⟨rfl,hB⟩
  replace hm:=bZ _ _ hB;clear hB
  refine gB rfl (gE (gsd 79 rfl (λb9=>?_) λb9=>?_))
  ·exact gct rfl (gS (gR (gY (yn (hm.blk_at 3 rfl) isAgg80 sizeOf80 rfl) (gSN hm 1 sizeOf80 (kL rfl (kL rfl (kL rfl (kL (ki (hm.ow_rep 4 rfl)) ke)))) rfl λw hm=>gE (gRt (grc 1 results109 hm rfl isAgg80 sizeOf80 ⟨aF,rfl,hm.pk [0,4] rfl rfl⟩))))))
  refine gcf rfl (gSk (gS (gW (.p 0 (.p 1 (.p 2 (.p 7 (.p 8 (.p 9 (.p 11 (.p 12 (.p 13 (.q 3 (.q 6 (.q 10 (.q 14 (.e 4 (.e 5 (.e 15 (.e 16 (.p 17 (.e 18 .fin .nil)) .nil) .nil) .nil) .nil)))))))))))))) [3,4,5,6,10,14,15] [0,1,2,7,8,9,11,12,13,17] hm [1,2,3,4] [blk aD [nV 0,nV 0,(tV (mkS [])),.slice none 0 0] 80,blk aG [(tV aA.1),.slice aY aA.2.1.length aZ,aH] 45,blk aJ [nV 13,nV 0,(tV aA.1),aF] 80,ow [aF] aU.1] rfl mxo (by kernel_rfl) (λ_ _ _ h=>h.2) λw hm hS=>tP rfl (λw=>yM rfl) (tP rfl (λw=>yG rfl (kj rfl rfl)) (tP rfl (λw=>yF oK rfl) (tP rfl (λw=>yM rfl) (tP rfl (λw=>yG rfl (kj rfl rfl)) (tP rfl (λw=>yF oK rfl) (tP rfl (λw=>yM rfl) (tP rfl (λw=>yG rfl (kj rfl rfl)) (tP rfl (λw=>yF p9 rfl) (tQ rfl hS (λw hm=>yl isAgg40 (hm.hz_cell hbbp0 rfl) rfl) (tQ rfl hS (λw hm=>yn (hm.blk_at 2 rfl) isAgg80 sizeOf80 rfl) (tQ rfl hS (λw hm=>yl isAgg40 (hm.hz_cell hbbp0 rfl) rfl) (tQ rfl hS (λw hm=>yl isAgg42 (hm.hz_cell hbbp0 rfl) rfl) (tO (tf rfl rfl (λa hf=>kS (vs:=#[(0,(nV 3)),(1,(nV 4)),(2,(nV 8)),(3,(nV 10))]) (cs:=[nV 3,nV 4,nV 8,nV 10]) rp hf hm rfl rfl (by kernel_rfl) rfl rfl) ?_)))))))))))))))))
  rintro _ w ⟨a8,rfl,hm⟩
  replace hm:=hm.lit (xs:=([3,4,8,10]:List Int)) 0 rfl rfl rfl rfl
  refine tAk hm [2,3,4,5] rfl λhS=>tO (gb λaa ba=>?_)
  obtain ⟨bb,hle,hm1,hsub,bc⟩:=hm.take2 (L1:=[_]) (L2:=[_,_,_,_,_]) [1] [0,2,3,4,5] (by decide) rfl rfl
  refine tf rfl rfl (λa hf=>lK hf rfl call53 rfl (lA _ bb (⟨gRd.b,b8.2.p⟩:kR) bp100 v3p (GT.mono hle h3p) ([3,4,8,10]:List Int) (sV a8 0 4 4) (mY (hsub 0 _ rfl)) hm1  _ ba)) ?_
  rintro cU w ⟨rfl,hB⟩
  replace hm:=bc _ _ hB;clear hB
  refine tAk hm [2,3,4,5] rfl λhS=>tO (gb λaB bd=>?_)
  obtain ⟨be,hle,hm1,hsub,bf⟩:=hm.take2 (L1:=[_]) (L2:=[_,_,_,_,_]) [0] [1,2,3,4,5] (by decide) rfl rfl
  refine tf rfl rfl (λa hf=>lK hf rfl call91 rfl (p7 _ be (⟨gRd.b,aa.2.p⟩:kR) bp100 v3p (GT.mono hle h3p) g.vars v2p (GT.mono hle h2p) 2 hm1  _ bd)) ?_
  rintro cV w ⟨aN,rfl,hB⟩
  replace hm:=bf _ _ hB;clear hB
  refine tAk hm [3,4,5,6] rfl λhS=>tO (tf rfl rfl (λa hf=>kS (vs:=#[(0,(.agg #[nV 13,nV 0,(tV aA.1),aF])),(1,(.agg #[nV aB.1.op,nV aB.1.n_,(tV aB.1.name),aN]))]) (cs:=[nV 13,nV 0,(tV aA.1),aF,nV aB.1.op,nV aB.1.n_,(tV aB.1.name),aN]) na hf hm rfl rfl (by kernel_rfl) rfl rfl) ?_)
  rintro _ w ⟨aP,rfl,hm⟩
  replace hm:=hm.els_nil (α:=kK)
  replace hm:Mem w0 hz _ [els [] ([]:List kK),blk aP [nV 13,nV 0,(tV aA.1),aF,nV aB.1.op,nV aB.1.n_,(tV aB.1.name),aN] 80,blk bp100 [v3p,nV aB.2.p] 86,ow [nV aB.1.op,nV aB.1.n_,(tV aB.1.name),aN] (aB.1:kK),ow [sV a8 0 4 4] ([3,4,8,10]:List Int),blk aD [nV 0,nV 0,(tV (mkS [])),.slice none 0 0] 80,blk aG [(tV aA.1),.slice aY aA.2.1.length aZ,aH] 45,blk aJ [nV 13,nV 0,(tV aA.1),aF] 80,ow [aF] aU.1]:=ly aB.1 hm 3 rfl
  replace hm:=(hm.els_cons 0 3 (by decide) rfl rfl).pk (L':=[_,_,_,_,_,_,_,_]) [0,1,2,4,5,6,7,8] rfl rfl
  replace hm:Mem w0 hz _ [els [nV aB.1.op,nV aB.1.n_,(tV aB.1.name),aN] ([aB.1]:List kK),blk aP [nV 13,nV 0,(tV aA.1),aF,nV aB.1.op,nV aB.1.n_,(tV aB.1.name),aN] 80,blk bp100 [v3p,nV aB.2.p] 86,ow [sV a8 0 4 4] ([3,4,8,10]:List Int),blk aD [nV 0,nV 0,(tV (mkS [])),.slice none 0 0] 80,blk aG [(tV aA.1),.slice aY aA.2.1.length aZ,aH] 45,blk aJ [nV 13,nV 0,(tV aA.1),aF] 80,ow [nV 13,nV 0,(tV aA.1),aF] ((⟨13,0,aA.1,aU.1⟩:kK):kK)]:=oY 13 0 aA.1 hm 7 rfl
  replace hm:=(hm.els_cons 0 7 (by decide) rfl rfl).pk (L':=[_,_,_,_,_,_,_]) [0,1,2,3,4,5,6] rfl rfl
  replace hm:=(hm.lit_els 1 0 (by decide) rfl rfl rfl rfl).pk (L':=[_,_,_,_,_,_]) [1,2,3,4,5,6] rfl rfl
  refine tAn rfl (tP rfl (λw=>yG rfl (kr (vs:=[(0,(nV aa.1)),(3,(sV aP 0 2 2))]) (cs:=#[nV aa.1,nV 0,(tV (mkS [])),sV aP 0 2 2]) rfl rfl (by kernel_rfl))) (tO (tf0 rfl rfl (λa hf=>nH 3 hf hm rfl sizeOf80 rfl rfl rfl (kL rfl (kL rfl (kL rfl (kL rfl ke)))) rfl rfl) ?_)))
  rintro _ w hm
  exact tAn rfl (tE (gRt (grc 3 results109 hm rfl isAgg80 sizeOf80 ⟨sV aP 0 2 2,rfl,hm.pk [1,0] rfl rfl⟩)))
theorem uk (w0:World) (hz:kX) (g:lG) (bp100:Nat) (bp0:Nat) (v1p:Value) (h1p:GT.rep hz [v1p] g.fns) (v2p:Value) (h2p:GT.rep hz [v2p] g.vars) (gRd:kR) (v3p:Value) (h3p:GT.rep hz [v3p] gRd.b) (hm0:Mem w0 hz w0 [blk bp0 [(pV bp100),v1p,v2p,nV g.next_,nV g.left] 109,blk bp100 [v3p,nV gRd.p] 86]) :
    mE Tryz.prog 160 [(pV bp0)] w0 (ot g gRd) λr v w'=>v=(tV r.1)∧Mem w0 hz w' [blk bp0 [(pV bp100),v1p,v2p,nV r.2.1.next_,nV r.2.1.left] 109,blk bp100 [v3p,nV r.2.2.p] 86]:=by
  unfold ot
  refine mR func160 rfl λr=>?_
  have hm:=hm0
  refine gS (gR (gA rfl (gE (gS (gR (gM rfl (gM rfl (gY (yG rfl (kj rfl rfl)) (gF v8 rfl (gL hm 0 isAgg3 rfl (gB rfl (gY (yG rfl (kj rfl rfl)) (gF v8 rfl (gS1 hm 0 sizeOf3 rfl rfl λw hm=>gE (gS (gS (gJ hm (λaA=>[(0,(pV bp0)),(24,(.bool (aA.2)))]) (λaA=>[blk bp0 [(pV bp100),v1p,v2p,nV (w64 (g.next_+1)),nV g.left] 109,blk bp100 [v3p,nV aA.1] 86]) (λaA=>?_) ?_)))))))))))))))))
  ·refine gR (gM rfl (gY (yG rfl (kj rfl rfl)) (gF oK rfl (gL hm 0 isAgg40 rfl ?_))))
   obtain ⟨aB,hle,hm1,hsub,aC⟩:=hm.take2 (L1:=[_]) (L2:=[_]) [1] [0] (by decide) rfl rfl
   refine gCg rfl call39 (ka _ aB gRd bp100 v3p (GT.mono hle h3p) 9 hm1 ) ?_
   rintro aL aM aN w ⟨rfl,hB⟩
   replace hm:=aC _ _ hB;clear hB
   refine gB rfl (gM rfl (gsd 17 rfl (λaD=>?_) λaD=>?_))
   ·refine gM rfl (gY (yG rfl (kj rfl rfl)) (gF p9 rfl (gL hm 1 isAgg42 rfl ?_)))
    obtain ⟨aO,aP,rfl,aQ⟩:=kT h2p
    exact gY (yV oG rfl) (gB rfl (gKt rfl (gE (gz hm [1,0] rfl))))
   exact gO rfl (gO rfl (gO rfl (gO rfl (gO rfl (gO rfl (gKf rfl (gE (gz hm [1,0] rfl))))))))
  repeat clear hm
  intro aA w hm
  refine gs 24 rfl (λaE=>?_) λaE=>?_
  ·refine gct rfl (gS (gW (.p 0 (.p 1 (.p 2 (.p 4 (.p 5 (.p 6 (.q 3 (.e 7 (.e 8 (.p 9 .fin) .nil) .nil)))))))) [7] [0, 1, 2, 4, 5, 6, 9] hm [0, 1] [blk bp0 [(pV bp100), v1p, v2p, nV (w64 (g.next_ + 1)), nV g.left] 109, blk bp100 [v3p, nV aA.1] 86] rfl mxo (by kernel_rfl) (fun _ _ _ h => h.2) fun w hm hS => tP rfl (fun w => yM rfl) (tP rfl (fun w => yG rfl (kj rfl rfl)) (tP rfl (fun w => yF oK rfl) (tP rfl (fun w => yM rfl) (tP rfl (fun w => yG rfl (kj rfl rfl)) (tP rfl (fun w => yF p9 rfl) (tQ rfl hS (fun w hm => yL hm 0 isAgg40 rfl) (tO (tY rfl (yL hm 0 isAgg42 rfl) (tAs hS (tO (gb fun aR aF => ?_)))))))))))))
   obtain ⟨aG,hle,hm1,hsub,aH⟩:=hm.take2 (L1:=[_]) (L2:=[_]) [1] [0] (by decide) rfl rfl
   refine tf rfl rfl (λa hf=>lK hf rfl call40 rfl (mv _ aG (⟨gRd.b,aA.1⟩:kR) bp100 v3p (GT.mono hle h3p) g.vars v2p (GT.mono hle h2p) hm1  _ aF)) ?_
   rintro aS w ⟨rfl,hB⟩
   replace hm:=aH _ _ hB;clear hB
   exact tAn rfl (tP rfl (λw=>yA rfl) (tE (gRt (gr1 results160 rfl ⟨rfl,hm.pk [1,0] rfl rfl⟩))))
  refine gcf rfl (gSk (gS (gW (.p 0 (.p 1 (.p 2 (.p 5 (.p 6 (.p 7 (.q 3 (.p 4 (.e 8 (.p 9 (.p 10 (.p 11 (.p 12 .fin)))) .nil))))))))) [8] [0,1,2,4,5,6,7,9,10,11,12] hm [0,1] [blk bp0 [(pV bp100),v1p,v2p,nV (w64 (g.next_+1)),nV g.left] 109,blk bp100 [v3p,nV aA.1] 86] rfl mxo (by kernel_rfl) (λ_ _ _ h=>h.2) λw hm hS=>tP rfl (λw=>yM rfl) (tP rfl (λw=>yG rfl (kj rfl rfl)) (tP rfl (λw=>yF v8 rfl) (tP rfl (λw=>yM rfl) (tP rfl (λw=>yG rfl (kj rfl rfl)) (tP rfl (λw=>yF v8 rfl) (tQ rfl hS (λw hm=>yL hm 0 isAgg3 rfl) (tP rfl (λw=>yG rfl (zt rfl rfl rfl (by decide))) (tO (tY rfl (yL hm 0 isAgg3 rfl) (tAs hS (tP rfl (λw=>yG rfl (zt rfl rfl rfl (by decide))) (tP rfl (λw=>yB rfl) (gb λaT aI=>?_))))))))))))))))
  obtain ⟨aJ,aK⟩:=rC.1 aI
  refine tP rfl (λw=>yG rfl (zT (s:=(mkS [97,98,99,100,101,103,104,105,106,107,108,109,110,112,113,114,115,116,117,118,119,120,121,122])) underlying9 rfl rfl rfl rfl aJ _)) ?_
  rw [aK]
  exact tP rfl (λw=>yA rfl) (tE (gRt (gr1 results160 rfl ⟨rfl,hm.pk [0,1] rfl rfl⟩)))
theorem sK (w0:World) (hz:kX) (g:lG) (bp100:Nat) (bp0:Nat) (v1p:Value) (h1p:GT.rep hz [v1p] g.fns) (v2p:Value) (h2p:GT.rep hz [v2p] g.vars) (gRd:kR) (v3p:Value) (h3p:GT.rep hz [v3p] gRd.b) (e:kK) (v1:Value) (hm0:Mem w0 hz w0 [blk bp0 [(pV bp100),v1p,v2p,nV g.next_,nV g.left] 109,blk bp100 [v3p,nV gRd.p] 86,ow [v1] e.kids]) :
    mE Tryz.prog 143 [(pV bp0),(.agg #[nV e.op,nV e.n_,(tV e.name),v1])] w0 (og g gRd e) λr v w'=>∃ (x1:Value) (x2:Value) (x3:Value) (x5:Value),v=(.agg #[nV r.1.op,(tV r.1.name),x1,x2,x3])∧Mem w0 hz w' [blk bp0 [(pV bp100),v1p,x5,nV r.2.1.next_,nV r.2.1.left] 109,blk bp100 [v3p,nV r.2.2.p] 86,ow [x1] r.1.args,ow [x2] r.1.body,ow [x3] r.1.else_,opt v2p g.vars x5 r.2.1.vars]:=by
  unfold og
  refine mR func143 rfl λr=>?_
  have hm:=hm0
  replace hm:=hm.opt_new v2p g.vars
  refine gS (gR (gBx hm rfl λaD w hm=>gAl hm zeroValue61 rfl λaE w hm=>gE (gS (gR (gM rfl ?_)))))
  obtain ⟨aF,hle,hm1,hsub,aG⟩:=hm.take2 (L1:=[_,_]) (L2:=[_,_,_,_]) [3,4] [0,1,2,5] (by decide) rfl rfl
  refine gCg rfl call160 (uk _ aF g bp100 bp0 v1p (GT.mono hle h1p) v2p (GT.mono hle h2p) gRd v3p (GT.mono hle h3p) hm1 ) ?_
  rintro aA aP aQ w ⟨rfl,hB⟩
  replace hm:=aG _ _ hB;clear hB
  refine gA rfl (gE (gS (gR (gM rfl (gf rfl (λa hf=>nZ (α:=Str) ox hm rfl) ?_)))))
  rintro aR w hm
  refine gM rfl (gY (yG rfl (kj rfl rfl)) (gF p9 rfl (gL hm 1 isAgg42 rfl (gb λaS aH=>?_))))
  obtain ⟨aI,aJ⟩:=kb.1 aH
  refine gf rfl (λa hf=>lr 0 ox hf hm rfl (hm.now h2p) rfl rfl rfl aI) ?_
  rintro aT w hm
  rw [aJ] at hm
  refine gM rfl (gf rfl (λa hf=>kS (vs:=#[(0,(tV aA.1))]) (cs:=[(tV aA.1)]) ox hf hm rfl rfl (by kernel_rfl) rfl rfl) ?_)
  rintro _ w ⟨aK,rfl,hm⟩
  replace hm:=hm.lit (xs:=([aA.1]:List Str)) 0 rfl rfl rfl rfl
  refine gb λaL aM=>?_
  obtain ⟨aN,aO⟩:=kb.1 aM
  refine gf rfl (λa hf=>lr 1 ox hf hm rfl (hm.ow_rep 0 rfl) rfl rfl rfl aN) ?_
  rintro aC w hm
  rw [aO] at hm
  refine gY (yG rfl (kj rfl rfl)) (gF p9 rfl ?_)
  replace hm:=(hm.opt_own 6 1 (by decide) rfl rfl).pk (L':=[_,_,_,_,_,_,_]) [0,2,3,4,5,6,7] rfl rfl
  refine gS1 hm 1 sizeOf42 (ki (hm.opt_rep 5 rfl h2p)) rfl λw hm=>gE (gS (gR (gM rfl (gY (yn (hm.blk_at 4 rfl) isAgg80 sizeOf80 rfl) (gf rfl (λa hf=>kS (vs:=#[(0,(.agg #[nV e.op,nV e.n_,(tV e.name),v1]))]) (cs:=[nV e.op,nV e.n_,(tV e.name),v1]) na hf hm rfl rfl (by kernel_rfl) rfl rfl) ?_)))))
  rintro _ w ⟨aB,rfl,hm⟩
  replace hm:=hm.els_nil (α:=kK)
  replace hm:Mem w0 hz _ [els [] ([]:List kK),blk aB [nV e.op,nV e.n_,(tV e.name),v1] 80,ow [sV aK 0 1 1] ([aA.1]:List Str),blk bp0 [(pV bp100),v1p,aC,nV aA.2.1.next_,nV aA.2.1.left] 109,blk bp100 [v3p,nV aA.2.2.p] 86,blk aE [nV 0,(tV (mkS [])),.slice none 0 0,.slice none 0 0,.slice none 0 0] 61,blk aD [nV e.op,nV e.n_,(tV e.name),v1] 80,opt v2p g.vars aC aL,ow [nV e.op,nV e.n_,(tV e.name),v1] (e:kK)]:=ly e hm 8 rfl
  replace hm:=(hm.els_cons 0 8 (by decide) rfl rfl).pk (L':=[_,_,_,_,_,_,_,_]) [0,1,2,3,4,5,6,7] rfl rfl
  replace hm:=(hm.lit_els 1 0 (by decide) rfl rfl rfl rfl).pk (L':=[_,_,_,_,_,_,_]) [1,2,3,4,5,6,7] rfl rfl
  refine gY (yG rfl (kr (vs:=[(0,(nV 1)),(1,(tV aA.1)),(2,(sV aB 0 1 1))]) (cs:=#[nV 1,(tV aA.1),sV aB 0 1 1,.slice none 0 0,.slice none 0 0]) rfl rfl (by kernel_rfl))) (gSN hm 4 sizeOf61 (kL rfl (kL rfl (kL rfl (kL rfl (kL rfl ke))))) rfl λw hm=>gE (gRt ?_))
  replace hm:=hm.nilow (α:=kN)
  replace hm:=hm.nilow (α:=kN)
  exact grc 6 results143 hm rfl isAgg61 sizeOf61 ⟨sV aB 0 1 1,.slice none 0 0,.slice none 0 0,aC,rfl,hm.pk [4,5,2,1,0,8] rfl rfl⟩
theorem rq (w0:World) (hz:kX) (g:lG) (bp100:Nat) (bp0:Nat) (v1p:Value) (h1p:GT.rep hz [v1p] g.fns) (v2p:Value) (h2p:GT.rep hz [v2p] g.vars) (hbbp0:hz bp0=some (.cells ([(pV bp100),v1p,v2p,nV g.next_,nV g.left]:List Value).toArray 109 (0,0))) (gRd:kR) (v3p:Value) (h3p:GT.rep hz [v3p] gRd.b) (hm0:Mem w0 hz w0 [blk bp100 [v3p,nV gRd.p] 86]) :
    mE Tryz.prog 144 [(pV bp0)] w0 (oR g gRd) λr v w'=>∃ (x1:Value),v=(.agg #[nV r.1.op,nV r.1.n_,(tV r.1.name),x1])∧Mem w0 hz w' [blk bp100 [v3p,nV r.2.p] 86,ow [x1] r.1.kids]:=by
  unfold oR
  refine mR func144 rfl λr=>?_
  have hm:=hm0
  refine gS (gR (gAl hm zeroValue80 rfl λaC w hm=>gE (gS (gJg (λaH a w=>∃ (aI:Value),St 14 [(2,(pV aC))] w0 hz [blk aC [nV 7,nV 0,(tV (mkS [])),aI] 80,ow [aI] aH.1,blk bp100 [v3p,nV aH.2] 86] a w) (λaH=>?_) ?_))))
  ·refine gW (.p 0 (.p 2 (.p 3 (.p 4 (.q 5 (.e 1 (.e 6 (.e 7 (.p 8 (.e 9 (.p 10 (.e 11 .fin .nil)) .nil)) .nil) .nil) (.e 6 (.e 1 (.e 7 (.p 8 (.e 9 (.p 10 (.e 11 .fin .nil)) .nil)) .nil) .nil) .nil))))))) [1, 6] [0, 2, 3, 4, 8, 10] hm [0] [_] rfl mxo (by kernel_rfl) (fun _ _ _ h => h.2) fun w hm hS => tP rfl (fun w => yM rfl) (tP rfl (fun w => yM rfl) (tP rfl (fun w => yG rfl (kj rfl rfl)) (tP rfl (fun w => yF oK rfl) (tQ rfl hS (fun w hm => yl isAgg40 (hm.hz_cell hbbp0 rfl) rfl) (gb fun aA aL => gb fun aB aM => tMo ?_ ?_)))))
   ·obtain ⟨aN, hle, hm1, hsub, aO⟩ := hm.take2 (L1 := [_]) (L2 := [_]) [1] [0] (by decide) rfl rfl
    refine tf rfl rfl (λa hf=>lK hf rfl call109 rfl (mH _ aN g bp100 bp0 v1p (GT.mono hle h1p) v2p (GT.mono hle h2p) (hle _ _ ((kX.le_refl _) _ _ hbbp0)) gRd v3p (GT.mono hle h3p) 2 hm1  _ aL)) ?_
    rintro aV w ⟨aD,rfl,hB⟩
    replace hm:=aO _ _ hB;clear hB
    refine tAk hm [2] rfl λhS=>tO (tf rfl rfl (λa hf=>kS (vs:=#[(0,(nV 16)),(1,(nV 16)),(2,(nV 16)),(3,(nV 8)),(4,(nV 17)),(5,(nV 0))]) (cs:=[nV 16,nV 16,nV 16,nV 8,nV 17,nV 0]) rp hf hm rfl rfl (by kernel_rfl) rfl rfl) ?_)
    rintro _ w ⟨aJ,rfl,hm⟩
    replace hm:=hm.lit (xs:=([16,16,16,8,17,0]:List Int)) 0 rfl rfl rfl rfl
    refine tAk hm [3] rfl λhS=>tO ?_
    obtain ⟨aP,hle,hm1,hsub,aQ⟩:=hm.take2 (L1:=[_]) (L2:=[_,_,_]) [1] [0,2,3] (by decide) rfl rfl
    refine tf rfl rfl (λa hf=>lK hf rfl call53 rfl (lA _ aP (⟨gRd.b,aA.2.p⟩:kR) bp100 v3p (GT.mono hle h3p) ([16,16,16,8,17,0]:List Int) (sV aJ 0 6 6) (mY (hsub 0 _ rfl)) hm1  _ aM)) ?_
    rintro aX w ⟨rfl,hB⟩
    replace hm:=aQ _ _ hB;clear hB
    refine tAn rfl (tP rfl (λw=>yG rfl (kr (vs:=[(0,(nV 1)),(1,(nV aB.1))]) (cs:=#[nV 1,nV aB.1,(tV (mkS [])),.slice none 0 0]) rfl rfl (by kernel_rfl))) (tO (tf rfl rfl (λa hf=>kS (vs:=#[(0,(.agg #[nV aA.1.op,nV aA.1.n_,(tV aA.1.name),aD])),(1,(.agg #[nV 1,nV aB.1,(tV (mkS [])),.slice none 0 0]))]) (cs:=[nV aA.1.op,nV aA.1.n_,(tV aA.1.name),aD,nV 1,nV aB.1,(tV (mkS [])),.slice none 0 0]) na hf hm rfl rfl (by kernel_rfl) rfl rfl) ?_)))
    rintro _ w ⟨aF,rfl,hm⟩
    replace hm:=hm.els_nil (α:=kK)
    replace hm:=hm.nilow (α:=kK)
    replace hm:Mem w0 hz _ [ow [nV 1,nV aB.1,(tV (mkS [])),.slice none 0 0] ((⟨1,aB.1,(mkS []),[]⟩:kK):kK),els [] ([]:List kK),blk aF [nV aA.1.op,nV aA.1.n_,(tV aA.1.name),aD,nV 1,nV aB.1,(tV (mkS [])),.slice none 0 0] 80,blk bp100 [v3p,nV aB.2.p] 86,ow [sV aJ 0 6 6] ([16,16,16,8,17,0]:List Int),ow [aD] aA.1.kids,blk aC [nV 0,nV 0,(tV (mkS [])),.slice none 0 0] 80]:=oY 1 aB.1 (mkS []) hm 0 rfl
    replace hm:=(hm.els_cons 1 0 (by decide) rfl rfl).pk (L':=[_,_,_,_,_,_]) [1,2,3,4,5,6] rfl rfl
    replace hm:Mem w0 hz _ [els [nV 1,nV aB.1,(tV (mkS [])),.slice none 0 0] ([(⟨1,aB.1,(mkS []),[]⟩:kK)]:List kK),blk aF [nV aA.1.op,nV aA.1.n_,(tV aA.1.name),aD,nV 1,nV aB.1,(tV (mkS [])),.slice none 0 0] 80,blk bp100 [v3p,nV aB.2.p] 86,ow [sV aJ 0 6 6] ([16,16,16,8,17,0]:List Int),ow [nV aA.1.op,nV aA.1.n_,(tV aA.1.name),aD] (aA.1:kK),blk aC [nV 0,nV 0,(tV (mkS [])),.slice none 0 0] 80]:=ly aA.1 hm 4 rfl
    replace hm:=(hm.els_cons 0 4 (by decide) rfl rfl).pk (L':=[_,_,_,_,_]) [0,1,2,3,5] rfl rfl
    replace hm:=(hm.lit_els 1 0 (by decide) rfl rfl rfl rfl).pk (L':=[_,_,_,_]) [1,2,3,4] rfl rfl
    refine tAn rfl (tP rfl (λw=>yG rfl (kr (vs:=[(0,(nV 7)),(3,(sV aF 0 2 2))]) (cs:=#[nV 7,nV 0,(tV (mkS [])),sV aF 0 2 2]) rfl rfl (by kernel_rfl))) (tO (tf0 rfl rfl (λa hf=>nH 3 hf hm rfl sizeOf80 rfl rfl rfl (kL rfl (kL rfl (kL rfl (kL rfl ke)))) rfl rfl) ?_)))
    rintro _ w hm
    exact tAn rfl (tE (gZ λa hf=>⟨sV aF 0 2 2,hf.sb rfl,hm.pk [3,0,1] rfl rfl⟩))
   refine tO (tf rfl rfl (λa hf=>kS (vs:=#[(0,(nV 16)),(1,(nV 16)),(2,(nV 16)),(3,(nV 8)),(4,(nV 17)),(5,(nV 0))]) (cs:=[nV 16,nV 16,nV 16,nV 8,nV 17,nV 0]) rp hf hm rfl rfl (by kernel_rfl) rfl rfl) ?_)
   rintro _ w ⟨aK,rfl,hm⟩
   replace hm:=hm.lit (xs:=([16,16,16,8,17,0]:List Int)) 0 rfl rfl rfl rfl
   refine tAk hm [1] rfl λhS=>tO ?_
   obtain ⟨aR,hle,hm1,hsub,aS⟩:=hm.take2 (L1:=[_]) (L2:=[_,_]) [2] [0,1] (by decide) rfl rfl
   refine tf rfl rfl (λa hf=>lK hf rfl call109 rfl (mH _ aR g bp100 bp0 v1p (GT.mono hle h1p) v2p (GT.mono hle h2p) (hle _ _ ((kX.le_refl _) _ _ hbbp0)) gRd v3p (GT.mono hle h3p) 2 hm1  _ aL)) ?_
   rintro aY w ⟨aE,rfl,hB⟩
   replace hm:=aS _ _ hB;clear hB
   refine tAk hm [3] rfl λhS=>tO ?_
   obtain ⟨aT,hle,hm1,hsub,aU⟩:=hm.take2 (L1:=[_]) (L2:=[_,_,_]) [0] [1,2,3] (by decide) rfl rfl
   refine tf rfl rfl (λa hf=>lK hf rfl call53 rfl (lA _ aT (⟨gRd.b,aA.2.p⟩:kR) bp100 v3p (GT.mono hle h3p) ([16,16,16,8,17,0]:List Int) (sV aK 0 6 6) (mY (hsub 1 _ rfl)) hm1  _ aM)) ?_
   rintro aZ w ⟨rfl,hB⟩
   replace hm:=aU _ _ hB;clear hB
   refine tAn rfl (tP rfl (λw=>yG rfl (kr (vs:=[(0,(nV 1)),(1,(nV aB.1))]) (cs:=#[nV 1,nV aB.1,(tV (mkS [])),.slice none 0 0]) rfl rfl (by kernel_rfl))) (tO (tf rfl rfl (λa hf=>kS (vs:=#[(0,(.agg #[nV aA.1.op,nV aA.1.n_,(tV aA.1.name),aE])),(1,(.agg #[nV 1,nV aB.1,(tV (mkS [])),.slice none 0 0]))]) (cs:=[nV aA.1.op,nV aA.1.n_,(tV aA.1.name),aE,nV 1,nV aB.1,(tV (mkS [])),.slice none 0 0]) na hf hm rfl rfl (by kernel_rfl) rfl rfl) ?_)))
   rintro _ w ⟨aG,rfl,hm⟩
   replace hm:=hm.els_nil (α:=kK)
   replace hm:=hm.nilow (α:=kK)
   replace hm:Mem w0 hz _ [ow [nV 1,nV aB.1,(tV (mkS [])),.slice none 0 0] ((⟨1,aB.1,(mkS []),[]⟩:kK):kK),els [] ([]:List kK),blk aG [nV aA.1.op,nV aA.1.n_,(tV aA.1.name),aE,nV 1,nV aB.1,(tV (mkS [])),.slice none 0 0] 80,blk bp100 [v3p,nV aB.2.p] 86,ow [aE] aA.1.kids,ow [sV aK 0 6 6] ([16,16,16,8,17,0]:List Int),blk aC [nV 0,nV 0,(tV (mkS [])),.slice none 0 0] 80]:=oY 1 aB.1 (mkS []) hm 0 rfl
   replace hm:=(hm.els_cons 1 0 (by decide) rfl rfl).pk (L':=[_,_,_,_,_,_]) [1,2,3,4,5,6] rfl rfl
   replace hm:Mem w0 hz _ [els [nV 1,nV aB.1,(tV (mkS [])),.slice none 0 0] ([(⟨1,aB.1,(mkS []),[]⟩:kK)]:List kK),blk aG [nV aA.1.op,nV aA.1.n_,(tV aA.1.name),aE,nV 1,nV aB.1,(tV (mkS [])),.slice none 0 0] 80,blk bp100 [v3p,nV aB.2.p] 86,ow [nV aA.1.op,nV aA.1.n_,(tV aA.1.name),aE] (aA.1:kK),ow [sV aK 0 6 6] ([16,16,16,8,17,0]:List Int),blk aC [nV 0,nV 0,(tV (mkS [])),.slice none 0 0] 80]:=ly aA.1 hm 3 rfl
   replace hm:=(hm.els_cons 0 3 (by decide) rfl rfl).pk (L':=[_,_,_,_,_]) [0,1,2,4,5] rfl rfl
   replace hm:=(hm.lit_els 1 0 (by decide) rfl rfl rfl rfl).pk (L':=[_,_,_,_]) [1,2,3,4] rfl rfl
   refine tAn rfl (tP rfl (λw=>yG rfl (kr (vs:=[(0,(nV 7)),(3,(sV aG 0 2 2))]) (cs:=#[nV 7,nV 0,(tV (mkS [])),sV aG 0 2 2]) rfl rfl (by kernel_rfl))) (tO (tf0 rfl rfl (λa hf=>nH 3 hf hm rfl sizeOf80 rfl rfl rfl (kL rfl (kL rfl (kL rfl (kL rfl ke)))) rfl rfl) ?_)))
   rintro _ w hm
   exact tAn rfl (tE (gZ λa hf=>⟨sV aG 0 2 2,hf.sb rfl,hm.pk [3,0,1] rfl rfl⟩))
  repeat clear hm
  rintro aH a w ⟨aI,hf,hm⟩
  exact gv hf (gRt (grc 0 results144 hm rfl isAgg80 sizeOf80 ⟨aI,rfl,hm.pk [2,1] rfl rfl⟩))
theorem tp  : (∀ (g:lG) (gRd:kR) (deep:Int) (r:(List kN) × lG × kR),mX g gRd deep=some r→∀ (w0:World) (hz:kX) (bp100:Nat) (bp0:Nat) (v1p:Value) (h1p:GT.rep hz [v1p] g.fns) (v2p:Value) (h2p:GT.rep hz [v2p] g.vars) (v3p:Value) (h3p:GT.rep hz [v3p] gRd.b) (hm0:Mem w0 hz w0 [blk bp0 [(pV bp100),v1p,v2p,nV g.next_,nV g.left] 109,blk bp100 [v3p,nV gRd.p] 86]),Con Tryz.prog 108 [(pV bp0),nV deep] w0 (λv w'=>∃ (x1:Value) (x3:Value),v=x1∧Mem w0 hz w' [blk bp0 [(pV bp100),v1p,x3,nV r.2.1.next_,nV r.2.1.left] 109,blk bp100 [v3p,nV r.2.2.p] 86,ow [x1] r.1,opt v2p g.vars x3 r.2.1.vars])) ∧
    (∀ (g:lG) (gRd:kR) (deep:Int) (r:(List kN) × lG × kR),qL g gRd deep=some r→∀ (w0:World) (hz:kX) (bp100:Nat) (bp0:Nat) (v1p:Value) (h1p:GT.rep hz [v1p] g.fns) (v2p:Value) (h2p:GT.rep hz [v2p] g.vars) (v3p:Value) (h3p:GT.rep hz [v3p] gRd.b) (hm0:Mem w0 hz w0 [blk bp0 [(pV bp100),v1p,v2p,nV g.next_,nV g.left] 109,blk bp100 [v3p,nV gRd.p] 86]),Con Tryz.prog 128 [(pV bp0),nV deep] w0 (λv w'=>∃ (x1:Value) (x3:Value),v=x1∧Mem w0 hz w' [blk bp0 [(pV bp100),v1p,x3,nV r.2.1.next_,nV r.2.1.left] 109,blk bp100 [v3p,nV r.2.2.p] 86,ow [x1] r.1,opt v2p g.vars x3 r.2.1.vars])) ∧
    (∀ (g:lG) (gRd:kR) (deep:Int) (r:(List kN) × lG × kR),qH g gRd deep=some r→∀ (w0:World) (hz:kX) (bp100:Nat) (bp0:Nat) (v1p:Value) (h1p:GT.rep hz [v1p] g.fns) (v2p:Value) (h2p:GT.rep hz [v2p] g.vars) (v3p:Value) (h3p:GT.rep hz [v3p] gRd.b) (hm0:Mem w0 hz w0 [blk bp0 [(pV bp100),v1p,v2p,nV g.next_,nV g.left] 109,blk bp100 [v3p,nV gRd.p] 86]),Con Tryz.prog 145 [(pV bp0),nV deep] w0 (λv w'=>∃ (x1:Value) (x3:Value),v=x1∧Mem w0 hz w' [blk bp0 [(pV bp100),v1p,x3,nV r.2.1.next_,nV r.2.1.left] 109,blk bp100 [v3p,nV r.2.2.p] 86,ow [x1] r.1,opt v2p g.vars x3 r.2.1.vars])):=by
  refine mX.mutual_partial_correctness  (motive_1:=λg gRd deep r=>∀ (w0:World) (hz:kX) (bp100:Nat) (bp0:Nat) (v1p:Value) (h1p:GT.rep hz [v1p] g.fns) (v2p:Value) (h2p:GT.rep hz [v2p] g.vars) (v3p:Value) (h3p:GT.rep hz [v3p] gRd.b) (hm0:Mem w0 hz w0 [blk bp0 [(pV bp100),v1p,v2p,nV g.next_,nV g.left] 109,blk bp100 [v3p,nV gRd.p] 86]),Con Tryz.prog 108 [(pV bp0),nV deep] w0 (λv w'=>∃ (x1:Value) (x3:Value),v=x1∧Mem w0 hz w' [blk bp0 [(pV bp100),v1p,x3,nV r.2.1.next_,nV r.2.1.left] 109,blk bp100 [v3p,nV r.2.2.p] 86,ow [x1] r.1,opt v2p g.vars x3 r.2.1.vars])) (motive_2:=λg gRd deep r=>∀ (w0:World) (hz:kX) (bp100:Nat) (bp0:Nat) (v1p:Value) (h1p:GT.rep hz [v1p] g.fns) (v2p:Value) (h2p:GT.rep hz [v2p] g.vars) (v3p:Value) (h3p:GT.rep hz [v3p] gRd.b) (hm0:Mem w0 hz w0 [blk bp0 [(pV bp100),v1p,v2p,nV g.next_,nV g.left] 109,blk bp100 [v3p,nV gRd.p] 86]),Con Tryz.prog 128 [(pV bp0),nV deep] w0 (λv w'=>∃ (x1:Value) (x3:Value),v=x1∧Mem w0 hz w' [blk bp0 [(pV bp100),v1p,x3,nV r.2.1.next_,nV r.2.1.left] 109,blk bp100 [v3p,nV r.2.2.p] 86,ow [x1] r.1,opt v2p g.vars x3 r.2.1.vars])) (motive_3:=λg gRd deep r=>∀ (w0:World) (hz:kX) (bp100:Nat) (bp0:Nat) (v1p:Value) (h1p:GT.rep hz [v1p] g.fns) (v2p:Value) (h2p:GT.rep hz [v2p] g.vars) (v3p:Value) (h3p:GT.rep hz [v3p] gRd.b) (hm0:Mem w0 hz w0 [blk bp0 [(pV bp100),v1p,v2p,nV g.next_,nV g.left] 109,blk bp100 [v3p,nV gRd.p] 86]),Con Tryz.prog 145 [(pV bp0),nV deep] w0 (λv w'=>∃ (x1:Value) (x3:Value),v=x1∧Mem w0 hz w' [blk bp0 [(pV bp100),v1p,x3,nV r.2.1.next_,nV r.2.1.left] 109,blk bp100 [v3p,nV r.2.2.p] 86,ow [x1] r.1,opt v2p g.vars x3 r.2.1.vars])) ?_ ?_ ?_
  · intro rec_ ih_ g gRd deep r hq w0 hz bp100 bp0 v1p h1p v2p h2p v3p h3p hm0
    have pspec_l3Gen__some_rec:∀ (w0:World) (hz:kX) (g:lG) (bp100:Nat) (bp0:Nat) (v1p:Value) (h1p:GT.rep hz [v1p] g.fns) (v2p:Value) (h2p:GT.rep hz [v2p] g.vars) (gRd:kR) (v3p:Value) (h3p:GT.rep hz [v3p] gRd.b) (deep:Int) (hm0:Mem w0 hz w0 [blk bp0 [(pV bp100),v1p,v2p,nV g.next_,nV g.left] 109,blk bp100 [v3p,nV gRd.p] 86]) (r:(List kN) × lG × kR) (hq:rec_ g gRd deep=some r),Con Tryz.prog 128 [(pV bp0),nV deep] w0 (λv w'=>∃ (x1:Value) (x3:Value),v=x1∧Mem w0 hz w' [blk bp0 [(pV bp100),v1p,x3,nV r.2.1.next_,nV r.2.1.left] 109,blk bp100 [v3p,nV r.2.2.p] 86,ow [x1] r.1,opt v2p g.vars x3 r.2.1.vars]):=λw0 hz g bp100 bp0 v1p h1p v2p h2p gRd v3p h3p deep hm0 r hq=>ih_ g gRd deep r hq w0 hz bp100 bp0 v1p h1p v2p h2p v3p h3p hm0
    refine pO (ρ:=(List kN) × lG × kR) (R:=λr v w'=>∃ (x1:Value) (x3:Value),v=x1∧Mem w0 hz w' [blk bp0 [(pV bp100),v1p,x3,nV r.2.1.next_,nV r.2.1.left] 109,blk bp100 [v3p,nV r.2.2.p] 86,ow [x1] r.1,opt v2p g.vars x3 r.2.1.vars]) func108 rfl hq ?_
    have hm:=hm0
    replace hm:=hm.opt_new v2p g.vars
    refine gS (gR (gA rfl (gE (gS (gR (gM rfl (gY (yG rfl (kj rfl rfl)) (gF p9 rfl (gL hm 1 isAgg42 rfl (gA rfl (gE (gS (gR (gf rfl (λa hf=>nZ (α:=kN) mZ hm rfl) ?_))))))))))))))
    rintro bU w hm
    refine gA rfl (gE (gS (gS (gR (gM rfl (gY (yG rfl (kj rfl rfl)) (gF oK rfl (gL hm 2 isAgg40 rfl (gf rfl (λa hf=>kS (vs:=#[(0,(nV 2)),(1,(nV 3)),(2,(nV 1)),(3,(nV 4))]) (cs:=[nV 2,nV 3,nV 1,nV 4]) rp hf hm rfl rfl (by kernel_rfl) rfl rfl) ?_)))))))))
    rintro _ w ⟨aN,rfl,hm⟩
    replace hm:=hm.lit (xs:=([2,3,1,4]:List Int)) 0 rfl rfl rfl rfl
    obtain ⟨ak,hle,hm1,hsub,al⟩:=hm.take2 (L1:=[_]) (L2:=[_,_,_,_]) [4] [0,1,2,3] (by decide) rfl rfl
    refine gCg rfl call53 (lA _ ak gRd bp100 v3p (GT.mono hle h3p) ([2,3,1,4]:List Int) (sV aN 0 4 4) (mY (hsub 0 _ rfl)) hm1 ) ?_
    rintro aH bV bW w ⟨rfl,hB⟩
    replace hm:=al _ _ hB;clear hB
    refine gA rfl (gE ?_)
    obtain ⟨aV,aX,rfl,bc⟩:=kT (hm.ow_rep 2 rfl)
    refine gJg (λaM a w=>∃ (aD aC:Value),St 40 [(0,(pV bp0)),(5,v2p),(6,aC)] w0 hz [blk bp0 [(pV bp100),v1p,aD,nV aM.2.2.1,nV aM.2.2.2.1] 109,blk bp100 [v3p,nV aM.1] 86,opt v2p g.vars aD aM.2.1,ow [aC] aM.2.2.2.2] a w) (λaM=>?_) ?_
    ·refine gBk (gMg (λaI a w=>∃ (a8 ag:Value),St 40 [(0,(pV bp0)),(1,(nV deep)),(5,v2p),(6,ag),(7,(nV aI.2.2.2.2.2))] w0 hz [blk bp0 [(pV bp100),v1p,a8,nV aI.2.2.1,nV aI.2.2.2.1] 109,blk bp100 [v3p,nV aI.1] 86,opt v2p g.vars a8 aI.2.1,ow [ag] aI.2.2.2.2.1] a w) (λa hf=>⟨v2p,.slice aV ([]:List kN).length aX,hf.sb rfl,hm.pk [4,0,3,2] rfl rfl⟩) ?_)
     repeat clear hm
     rintro bd be aI a w ⟨a8,ag,hf,hm⟩ cv bf
     refine gv hf (gS (gS (gJ hm (λay=>[(0,(pV bp0)),(1,(nV deep)),(5,v2p),(6,ag),(7,(nV aI.2.2.2.2.2)),(27,(.bool (ay)))]) (λay=>[blk bp0 [(pV bp100),v1p,a8,nV aI.2.2.1,nV aI.2.2.2.1] 109,blk bp100 [v3p,nV aI.1] 86,opt v2p g.vars a8 aI.2.1,ow [ag] aI.2.2.2.2.1]) (λay=>?_) ?_)))
     ·refine gR (gM rfl (gB rfl (gM rfl (gsd 21 rfl (λbg=>?_) λbg=>?_))))
      ·exact gM rfl (gY (yG rfl (kj rfl rfl)) (gF rh rfl (gL hm 0 isAgg3 rfl (gB rfl (gKt rfl (gE (gz hm [0,1,2,3] rfl)))))))
      exact gO rfl (gO rfl (gO rfl (gO rfl (gO rfl (gKf rfl (gE (gz hm [0,1,2,3] rfl)))))))
     repeat clear hm
     intro ay w hm
     refine gs 27 rfl (λbh=>?_) λbh=>?_
     ·refine gct rfl (gSk (gS (gBk (gR (gM rfl (gM rfl (gM rfl ?_)))))))
      obtain ⟨bi,hle,hm1,hsub,bj⟩:=hm.take2 (L1:=[_,_]) (L2:=[_,_]) [0,1] [2,3] (by decide) rfl rfl
      refine gCg rfl call128 (pspec_l3Gen__some_rec _ bi (⟨g.fns,aI.2.1,aI.2.2.1,aI.2.2.2.1⟩:lG) bp100 bp0 v1p (GT.mono hle h1p) a8 (tr hle h2p (hsub 0 _ rfl)) (⟨gRd.b,aI.1⟩:kR) v3p (GT.mono hle h3p) deep hm1 ) ?_
      rintro bk cw cx w ⟨_,bl,rfl,hB⟩
      replace hm:=bj _ _ hB;clear hB
      replace hm:=(hm.opt_comp 4 3 (by decide) rfl rfl).pk (L':=[_,_,_,_,_]) [0,1,2,4,5] rfl rfl
      refine gb λcy bm=>?_
      obtain ⟨bo,bp⟩:=kb.1 bm
      replace hm:=(hm.both 4 2 (by decide) rfl rfl).pk (L':=[_,_,_,_]) [0,1,3,4] rfl rfl
      refine gf rfl (λa hf=>lp (xs:=aI.2.2.2.2.1) (ys:=bk.1) 3 mZ hf hm rfl rfl rfl rfl bo) ?_
      rintro bq w hm
      rw [bp] at hm
      exact gA rfl (gE (gR (gM rfl (gB rfl (gA rfl (gE (gZe λa hf=>⟨bl,bq,hf.sb rfl,hm.pk [0,1,2,3] rfl rfl⟩)))))))
     exact gcf rfl (gXt (gHh (gLp bf be (gZ λa hf=>⟨a8,ag,hf.sb rfl,hm.pk [0,1,2,3] rfl rfl⟩))))
    repeat clear hm
    rintro aM a w ⟨aD,aC,hf,hm⟩
    refine gv hf (gS (gR (gM rfl (gM rfl (gY (yG rfl (kj rfl rfl)) (gF p9 rfl ?_))))))
    replace hm:=hm.opt_base 2 rfl
    exact gS1 hm 0 sizeOf42 (ki h2p) rfl λw hm=>gE (gS (gR (gM rfl (gA rfl (gE (gRt (gr1 results108 rfl ⟨aC,v2p,rfl,hm.pk [0,1,3,2] rfl rfl⟩)))))))
  · intro rec_1 rec_2 ih_1 ih_2 g gRd deep r hq w0 hz bp100 bp0 v1p h1p v2p h2p v3p h3p hm0
    have pspec_l3Gen__block_rec:∀ (w0:World) (hz:kX) (g:lG) (bp100:Nat) (bp0:Nat) (v1p:Value) (h1p:GT.rep hz [v1p] g.fns) (v2p:Value) (h2p:GT.rep hz [v2p] g.vars) (gRd:kR) (v3p:Value) (h3p:GT.rep hz [v3p] gRd.b) (deep:Int) (hm0:Mem w0 hz w0 [blk bp0 [(pV bp100),v1p,v2p,nV g.next_,nV g.left] 109,blk bp100 [v3p,nV gRd.p] 86]) (r:(List kN) × lG × kR) (hq:rec_1 g gRd deep=some r),Con Tryz.prog 108 [(pV bp0),nV deep] w0 (λv w'=>∃ (x1:Value) (x3:Value),v=x1∧Mem w0 hz w' [blk bp0 [(pV bp100),v1p,x3,nV r.2.1.next_,nV r.2.1.left] 109,blk bp100 [v3p,nV r.2.2.p] 86,ow [x1] r.1,opt v2p g.vars x3 r.2.1.vars]):=λw0 hz g bp100 bp0 v1p h1p v2p h2p gRd v3p h3p deep hm0 r hq=>ih_1 g gRd deep r hq w0 hz bp100 bp0 v1p h1p v2p h2p v3p h3p hm0
    have pspec_l3Gen__loop_rec:∀ (w0:World) (hz:kX) (g:lG) (bp100:Nat) (bp0:Nat) (v1p:Value) (h1p:GT.rep hz [v1p] g.fns) (v2p:Value) (h2p:GT.rep hz [v2p] g.vars) (gRd:kR) (v3p:Value) (h3p:GT.rep hz [v3p] gRd.b) (deep:Int) (hm0:Mem w0 hz w0 [blk bp0 [(pV bp100),v1p,v2p,nV g.next_,nV g.left] 109,blk bp100 [v3p,nV gRd.p] 86]) (r:(List kN) × lG × kR) (hq:rec_2 g gRd deep=some r),Con Tryz.prog 145 [(pV bp0),nV deep] w0 (λv w'=>∃ (x1:Value) (x3:Value),v=x1∧Mem w0 hz w' [blk bp0 [(pV bp100),v1p,x3,nV r.2.1.next_,nV r.2.1.left] 109,blk bp100 [v3p,nV r.2.2.p] 86,ow [x1] r.1,opt v2p g.vars x3 r.2.1.vars]):=λw0 hz g bp100 bp0 v1p h1p v2p h2p gRd v3p h3p deep hm0 r hq=>ih_2 g gRd deep r hq w0 hz bp100 bp0 v1p h1p v2p h2p v3p h3p hm0
    refine pO (ρ:=(List kN) × lG × kR) (R:=λr v w'=>∃ (x1:Value) (x3:Value),v=x1∧Mem w0 hz w' [blk bp0 [(pV bp100),v1p,x3,nV r.2.1.next_,nV r.2.1.left] 109,blk bp100 [v3p,nV r.2.2.p] 86,ow [x1] r.1,opt v2p g.vars x3 r.2.1.vars]) func128 rfl hq ?_
    have hm:=hm0
    replace hm:=hm.opt_new v2p g.vars
    refine gS (gR (gA rfl (gE (gS (gR (gM rfl (gM rfl (gY (yG rfl (kj rfl rfl)) (gF rh rfl (gL hm 1 isAgg3 rfl (gB rfl (gY (yG rfl (kj rfl rfl)) (gF rh rfl (gS1 hm 1 sizeOf3 rfl rfl λw hm=>gE (gS (gR (gM rfl (gY (yG rfl (kj rfl rfl)) (gF oK rfl (gL hm 1 isAgg40 rfl ?_))))))))))))))))))))
    obtain ⟨ak,hle,hm1,hsub,al⟩:=hm.take2 (L1:=[_]) (L2:=[_,_]) [2] [0,1] (by decide) rfl rfl
    refine gCg rfl call39 (ka _ ak gRd bp100 v3p (GT.mono hle h3p) 13 hm1 ) ?_
    rintro aH bV bU w ⟨rfl,hB⟩
    replace hm:=al _ _ hB;clear hB
    refine gA rfl (gE (gS (gBk (gS (gJ hm (λaM=>[(0,(pV bp0)),(1,(nV deep)),(5,(nV aH.1)),(20,(.bool (aM)))]) (λaM=>[blk bp0 [(pV bp100),v1p,v2p,nV g.next_,nV (w64 (g.left - 1))] 109,blk bp100 [v3p,nV aH.2.p] 86,opt v2p g.vars v2p g.vars]) (λaM=>?_) ?_)))))
    ·refine gR (gM rfl (gB rfl (gM rfl (gsd 23 rfl (λbK=>?_) λbK=>?_))))
     ·refine gM rfl (gY (yG rfl (kj rfl rfl)) (gF p9 rfl (gL hm 2 isAgg42 rfl ?_)))
      obtain ⟨am,an,rfl,br⟩:=kT h2p
      exact gY (yV oG rfl) (gB rfl (gKt rfl (gA rfl (gE (gz hm [2,0,1] rfl)))))
     exact gO rfl (gO rfl (gO rfl (gO rfl (gO rfl (gO rfl (gKf rfl (gA rfl (gE (gz hm [2,0,1] rfl)))))))))
    repeat clear hm
    intro aM w hm
    refine gs 20 rfl (λbs=>?_) λbs=>?_
    ·refine gct rfl (gS (gW (.p 0 (.p 1 (.p 2 (.p 4 (.p 5 (.p 6 (.p 9 (.q 3 (.e 7 (.e 8 (.e 10 (.e 11 (.p 12 (.e 13 (.p 14 .fin) .nil)) .nil) .nil) .nil) .nil))))))))) [7] [0, 1, 2, 4, 5, 6, 9, 12, 14] hm [0, 1, 2] [blk bp0 [(pV bp100), v1p, v2p, nV g.next_, nV (w64 (g.left - 1))] 109, blk bp100 [v3p, nV aH.2.p] 86, opt v2p g.vars v2p g.vars] rfl mxo (by kernel_rfl) (fun _ _ _ h => h.2) fun w hm hS => tP rfl (fun w => yM rfl) (tP rfl (fun w => yG rfl (kj rfl rfl)) (tP rfl (fun w => yF oK rfl) (tP rfl (fun w => yM rfl) (tP rfl (fun w => yG rfl (kj rfl rfl)) (tP rfl (fun w => yF p9 rfl) (tP rfl (fun w => yM rfl) (tQ rfl hS (fun w hm => yL hm 0 isAgg40 rfl) (tO (tY rfl (yL hm 0 isAgg42 rfl) (tAs hS (tO (gb fun aA bX => ?_))))))))))))))
     obtain ⟨bL,hle,hm1,hsub,bM⟩:=hm.take2 (L1:=[_]) (L2:=[_,_]) [1] [0,2] (by decide) rfl rfl
     refine tf rfl rfl (λa hf=>lK hf rfl call40 rfl (mv _ bL (⟨gRd.b,aH.2.p⟩:kR) bp100 v3p (GT.mono hle h3p) g.vars v2p (GT.mono hle h2p) hm1  _ bX)) ?_
     rintro bW w ⟨rfl,hB⟩
     replace hm:=bM _ _ hB;clear hB
     refine tAn rfl (tO (gb λaB bY=>?_))
     obtain ⟨bN,hle,hm1,hsub,bO⟩:=hm.take2 (L1:=[_]) (L2:=[_,_]) [0] [1,2] (by decide) rfl rfl
     refine tf rfl rfl (λa hf=>lK hf rfl call109 rfl (mH _ bN (⟨g.fns,g.vars,g.next_,w64 (g.left - 1)⟩:lG) bp100 bp0 v1p (GT.mono hle h1p) v2p (GT.mono hle h2p) (tv (hsub 0 _ rfl)) (⟨gRd.b,aA.2.p⟩:kR) v3p (GT.mono hle h3p) 3 hm1  _ bY)) ?_
     rintro aD w ⟨aC,rfl,hB⟩
     replace hm:=bO _ _ hB;clear hB
     refine tAn rfl (tO (tf rfl rfl (λa hf=>kS (vs:=#[(0,(.agg #[nV aB.1.op,nV aB.1.n_,(tV aB.1.name),aC]))]) (cs:=[nV aB.1.op,nV aB.1.n_,(tV aB.1.name),aC]) na hf hm rfl rfl (by kernel_rfl) rfl rfl) ?_))
     rintro _ w ⟨aN,rfl,hm⟩
     replace hm:=hm.els_nil (α:=kK)
     replace hm:Mem w0 hz _ [els [] ([]:List kK),blk aN [nV aB.1.op,nV aB.1.n_,(tV aB.1.name),aC] 80,blk bp100 [v3p,nV aB.2.p] 86,ow [nV aB.1.op,nV aB.1.n_,(tV aB.1.name),aC] (aB.1:kK),blk bp0 [(pV bp100),v1p,v2p,nV g.next_,nV (w64 (g.left - 1))] 109,opt v2p g.vars v2p g.vars]:=ly aB.1 hm 3 rfl
     replace hm:=(hm.els_cons 0 3 (by decide) rfl rfl).pk (L':=[_,_,_,_,_]) [0,1,2,4,5] rfl rfl
     replace hm:=(hm.lit_els 1 0 (by decide) rfl rfl rfl rfl).pk (L':=[_,_,_,_]) [1,2,3,4] rfl rfl
     refine tAn rfl (tP rfl (λw=>yG rfl (kr (vs:=[(0,(nV 2)),(1,(tV aA.1)),(2,(sV aN 0 1 1))]) (cs:=#[nV 2,(tV aA.1),sV aN 0 1 1,.slice none 0 0,.slice none 0 0]) rfl rfl (by kernel_rfl))) (tO (tf rfl rfl (λa hf=>kS (vs:=#[(0,(.agg #[nV 2,(tV aA.1),sV aN 0 1 1,.slice none 0 0,.slice none 0 0]))]) (cs:=[nV 2,(tV aA.1),sV aN 0 1 1,.slice none 0 0,.slice none 0 0]) mZ hf hm rfl rfl (by kernel_rfl) rfl rfl) ?_)))
     rintro _ w ⟨aY,rfl,hm⟩
     replace hm:=hm.els_nil (α:=kN)
     replace hm:=hm.nilow (α:=kN)
     replace hm:=hm.nilow (α:=kN)
     replace hm:=(oX 2 aA.1 hm 4 1 0 rfl).pk (L':=[_,_,_,_,_,_]) [2,3,4,5,6,7] rfl rfl
     replace hm:=(hm.els_cons 0 2 (by decide) rfl rfl).pk (L':=[_,_,_,_,_]) [0,1,3,4,5] rfl rfl
     replace hm:=(hm.lit_els 1 0 (by decide) rfl rfl rfl rfl).pk (L':=[_,_,_,_]) [1,2,3,4] rfl rfl
     exact tAn rfl (tP rfl (λw=>yA rfl) (tE (gRt (gr1 results128 rfl ⟨sV aY 0 1 1,v2p,rfl,hm.pk [2,1,0,3] rfl rfl⟩))))
    refine gcf rfl (gS (gR (gM rfl (gB rfl (gA rfl (gE (gsd 45 rfl (λbt=>?_) λbt=>?_)))))))
    ·refine gct rfl (gS (gR (gM rfl (gM rfl ?_))))
     obtain ⟨bu,hle,hm1,hsub,bv⟩:=hm.take2 (L1:=[_]) (L2:=[_,_]) [1] [0,2] (by decide) rfl rfl
     refine gCg rfl call109 (mH _ bu (⟨g.fns,g.vars,g.next_,w64 (g.left - 1)⟩:lG) bp100 bp0 v1p (GT.mono hle h1p) v2p (GT.mono hle h2p) (tv (hsub 0 _ rfl)) (⟨gRd.b,aH.2.p⟩:kR) v3p (GT.mono hle h3p) 3 hm1 ) ?_
     rintro bZ cz aF w ⟨bP,rfl,hB⟩
     replace hm:=bv _ _ hB;clear hB
     obtain ⟨bw,hle,hm1,hsub,bz⟩:=hm.take2 (L1:=[_,_,_]) (L2:=[_]) [2,0,1] [3] (by decide) rfl rfl
     refine gCg rfl call143 (sK _ bw (⟨g.fns,g.vars,g.next_,w64 (g.left - 1)⟩:lG) bp100 bp0 v1p (GT.mono hle h1p) v2p (GT.mono hle h2p) (⟨gRd.b,bZ.2.p⟩:kR) v3p (GT.mono hle h3p) bZ.1 bP hm1 ) ?_
     rintro ao dA ah w ⟨b8,aJ,aa,cA,rfl,hB⟩
     replace hm:=bz _ _ hB;clear hB
     replace hm:=(hm.opt_comp 6 5 (by decide) rfl rfl).pk (L':=[_,_,_,_,_,_]) [0,1,2,3,4,6] rfl rfl
     refine gf rfl (λa hf=>kS (vs:=#[(0,(.agg #[nV ao.1.op,(tV ao.1.name),b8,aJ,aa]))]) (cs:=[nV ao.1.op,(tV ao.1.name),b8,aJ,aa]) mZ hf hm rfl rfl (by kernel_rfl) rfl rfl) ?_
     rintro _ w ⟨aZ,rfl,hm⟩
     replace hm:=hm.els_nil (α:=kN)
     replace hm:=(ta ao.1 hm 4 5 6 rfl).pk (L':=[_,_,_,_,_,_]) [0,1,2,3,4,7] rfl rfl
     replace hm:=(hm.els_cons 0 4 (by decide) rfl rfl).pk (L':=[_,_,_,_,_]) [0,1,2,3,5] rfl rfl
     replace hm:=(hm.lit_els 1 0 (by decide) rfl rfl rfl rfl).pk (L':=[_,_,_,_]) [1,2,3,4] rfl rfl
     exact gA rfl (gE (gRt (gr1 results128 rfl ⟨sV aZ 0 1 1,cA,rfl,hm.pk [1,2,0,3] rfl rfl⟩)))
    refine gcf rfl (gS (gJ hm (λaz=>[(0,(pV bp0)),(1,(nV deep)),(5,(nV aH.1)),(53,(.bool (az)))]) (λaz=>[blk bp0 [(pV bp100),v1p,v2p,nV g.next_,nV (w64 (g.left - 1))] 109,blk bp100 [v3p,nV aH.2.p] 86,opt v2p g.vars v2p g.vars]) (λaz=>?_) ?_))
    ·refine gR (gM rfl (gB rfl (gM rfl (gsd 56 rfl (λbQ=>?_) λbQ=>?_))))
     ·exact gO rfl (gO rfl (gKt rfl (gA rfl (gE (gz hm [0,1,2] rfl)))))
     exact gM rfl (gB rfl (gKf rfl (gA rfl (gE (gz hm [0,1,2] rfl)))))
    repeat clear hm
    intro az w hm
    refine gs 53 rfl (λcC=>?_) λcC=>?_
    ·refine gct rfl (gS (gR (gM rfl ?_)))
     obtain ⟨cD,hle,hm1,hsub,cE⟩:=hm.take2 (L1:=[_]) (L2:=[_,_]) [1] [0,2] (by decide) rfl rfl
     refine gCg rfl call109 (mH _ cD (⟨g.fns,g.vars,g.next_,w64 (g.left - 1)⟩:lG) bp100 bp0 v1p (GT.mono hle h1p) v2p (GT.mono hle h2p) (tv (hsub 0 _ rfl)) (⟨gRd.b,aH.2.p⟩:kR) v3p (GT.mono hle h3p) 3 hm1 ) ?_
     rintro aO dB dC w ⟨bA,rfl,hB⟩
     replace hm:=cE _ _ hB;clear hB
     refine gf rfl (λa hf=>kS (vs:=#[(0,(.agg #[nV aO.1.op,nV aO.1.n_,(tV aO.1.name),bA]))]) (cs:=[nV aO.1.op,nV aO.1.n_,(tV aO.1.name),bA]) na hf hm rfl rfl (by kernel_rfl) rfl rfl) ?_
     rintro _ w ⟨aQ,rfl,hm⟩
     replace hm:=hm.els_nil (α:=kK)
     replace hm:Mem w0 hz _ [els [] ([]:List kK),blk aQ [nV aO.1.op,nV aO.1.n_,(tV aO.1.name),bA] 80,blk bp100 [v3p,nV aO.2.p] 86,ow [nV aO.1.op,nV aO.1.n_,(tV aO.1.name),bA] (aO.1:kK),blk bp0 [(pV bp100),v1p,v2p,nV g.next_,nV (w64 (g.left - 1))] 109,opt v2p g.vars v2p g.vars]:=ly aO.1 hm 3 rfl
     replace hm:=(hm.els_cons 0 3 (by decide) rfl rfl).pk (L':=[_,_,_,_,_]) [0,1,2,4,5] rfl rfl
     replace hm:=(hm.lit_els 1 0 (by decide) rfl rfl rfl rfl).pk (L':=[_,_,_,_]) [1,2,3,4] rfl rfl
     refine gY (yG rfl (kr (vs:=[(0,(nV 3)),(2,(sV aQ 0 1 1))]) (cs:=#[nV 3,(tV (mkS [])),sV aQ 0 1 1,.slice none 0 0,.slice none 0 0]) rfl rfl (by kernel_rfl))) (gf rfl (λa hf=>kS (vs:=#[(0,(.agg #[nV 3,(tV (mkS [])),sV aQ 0 1 1,.slice none 0 0,.slice none 0 0]))]) (cs:=[nV 3,(tV (mkS [])),sV aQ 0 1 1,.slice none 0 0,.slice none 0 0]) mZ hf hm rfl rfl (by kernel_rfl) rfl rfl) ?_)
     rintro _ w ⟨aR,rfl,hm⟩
     replace hm:=hm.els_nil (α:=kN)
     replace hm:=hm.nilow (α:=kN)
     replace hm:=hm.nilow (α:=kN)
     replace hm:=(oX 3 (mkS []) hm 4 1 0 rfl).pk (L':=[_,_,_,_,_,_]) [2,3,4,5,6,7] rfl rfl
     replace hm:=(hm.els_cons 0 2 (by decide) rfl rfl).pk (L':=[_,_,_,_,_]) [0,1,3,4,5] rfl rfl
     replace hm:=(hm.lit_els 1 0 (by decide) rfl rfl rfl rfl).pk (L':=[_,_,_,_]) [1,2,3,4] rfl rfl
     exact gA rfl (gE (gRt (gr1 results128 rfl ⟨sV aR 0 1 1,v2p,rfl,hm.pk [2,1,0,3] rfl rfl⟩)))
    refine gcf rfl (gS (gR (gM rfl (gB rfl (gA rfl (gE (gsd 65 rfl (λcF=>?_) λcF=>?_)))))))
    ·refine gct rfl (gS (gR (gM rfl ?_)))
     obtain ⟨cG,hle,hm1,hsub,cH⟩:=hm.take2 (L1:=[_]) (L2:=[_,_]) [1] [0,2] (by decide) rfl rfl
     refine gCg rfl call144 (rq _ cG (⟨g.fns,g.vars,g.next_,w64 (g.left - 1)⟩:lG) bp100 bp0 v1p (GT.mono hle h1p) v2p (GT.mono hle h2p) (tv (hsub 0 _ rfl)) (⟨gRd.b,aH.2.p⟩:kR) v3p (GT.mono hle h3p) hm1 ) ?_
     rintro aG dD dE w ⟨ai,rfl,hB⟩
     replace hm:=cH _ _ hB;clear hB
     refine gM rfl ?_
     obtain ⟨cI,hle,hm1,hsub,cJ⟩:=hm.take2 (L1:=[_]) (L2:=[_,_,_]) [0] [1,2,3] (by decide) rfl rfl
     refine gCg rfl call109 (mH _ cI (⟨g.fns,g.vars,g.next_,w64 (g.left - 1)⟩:lG) bp100 bp0 v1p (GT.mono hle h1p) v2p (GT.mono hle h2p) (tv (hsub 1 _ rfl)) (⟨gRd.b,aG.2.p⟩:kR) v3p (GT.mono hle h3p) 2 hm1 ) ?_
     rintro aE dF dG w ⟨aj,rfl,hB⟩
     replace hm:=cJ _ _ hB;clear hB
     refine gf rfl (λa hf=>kS (vs:=#[(0,(.agg #[nV aG.1.op,nV aG.1.n_,(tV aG.1.name),ai])),(1,(.agg #[nV aE.1.op,nV aE.1.n_,(tV aE.1.name),aj]))]) (cs:=[nV aG.1.op,nV aG.1.n_,(tV aG.1.name),ai,nV aE.1.op,nV aE.1.n_,(tV aE.1.name),aj]) na hf hm rfl rfl (by kernel_rfl) rfl rfl) ?_
     rintro _ w ⟨aU,rfl,hm⟩
     replace hm:=hm.els_nil (α:=kK)
     replace hm:Mem w0 hz _ [els [] ([]:List kK),blk aU [nV aG.1.op,nV aG.1.n_,(tV aG.1.name),ai,nV aE.1.op,nV aE.1.n_,(tV aE.1.name),aj] 80,blk bp100 [v3p,nV aE.2.p] 86,ow [nV aE.1.op,nV aE.1.n_,(tV aE.1.name),aj] (aE.1:kK),ow [ai] aG.1.kids,blk bp0 [(pV bp100),v1p,v2p,nV g.next_,nV (w64 (g.left - 1))] 109,opt v2p g.vars v2p g.vars]:=ly aE.1 hm 3 rfl
     replace hm:=(hm.els_cons 0 3 (by decide) rfl rfl).pk (L':=[_,_,_,_,_,_]) [0,1,2,4,5,6] rfl rfl
     replace hm:Mem w0 hz _ [els [nV aE.1.op,nV aE.1.n_,(tV aE.1.name),aj] ([aE.1]:List kK),blk aU [nV aG.1.op,nV aG.1.n_,(tV aG.1.name),ai,nV aE.1.op,nV aE.1.n_,(tV aE.1.name),aj] 80,blk bp100 [v3p,nV aE.2.p] 86,ow [nV aG.1.op,nV aG.1.n_,(tV aG.1.name),ai] (aG.1:kK),blk bp0 [(pV bp100),v1p,v2p,nV g.next_,nV (w64 (g.left - 1))] 109,opt v2p g.vars v2p g.vars]:=ly aG.1 hm 3 rfl
     replace hm:=(hm.els_cons 0 3 (by decide) rfl rfl).pk (L':=[_,_,_,_,_]) [0,1,2,4,5] rfl rfl
     replace hm:=(hm.lit_els 1 0 (by decide) rfl rfl rfl rfl).pk (L':=[_,_,_,_]) [1,2,3,4] rfl rfl
     refine gY (yG rfl (kr (vs:=[(0,(nV 4)),(2,(sV aU 0 2 2))]) (cs:=#[nV 4,(tV (mkS [])),sV aU 0 2 2,.slice none 0 0,.slice none 0 0]) rfl rfl (by kernel_rfl))) (gf rfl (λa hf=>kS (vs:=#[(0,(.agg #[nV 4,(tV (mkS [])),sV aU 0 2 2,.slice none 0 0,.slice none 0 0]))]) (cs:=[nV 4,(tV (mkS [])),sV aU 0 2 2,.slice none 0 0,.slice none 0 0]) mZ hf hm rfl rfl (by kernel_rfl) rfl rfl) ?_)
     rintro _ w ⟨cK,rfl,hm⟩
     replace hm:=hm.els_nil (α:=kN)
     replace hm:=hm.nilow (α:=kN)
     replace hm:=hm.nilow (α:=kN)
     replace hm:=(oX 4 (mkS []) hm 4 1 0 rfl).pk (L':=[_,_,_,_,_,_]) [2,3,4,5,6,7] rfl rfl
     replace hm:=(hm.els_cons 0 2 (by decide) rfl rfl).pk (L':=[_,_,_,_,_]) [0,1,3,4,5] rfl rfl
     replace hm:=(hm.lit_els 1 0 (by decide) rfl rfl rfl rfl).pk (L':=[_,_,_,_]) [1,2,3,4] rfl rfl
     exact gA rfl (gE (gRt (gr1 results128 rfl ⟨sV cK 0 1 1,v2p,rfl,hm.pk [2,1,0,3] rfl rfl⟩)))
    refine gcf rfl (gS (gR (gM rfl (gB rfl (gA rfl (gE (gsd 75 rfl (λcL=>?_) λcL=>?_)))))))
    ·refine gct rfl (gS (gR (gM rfl ?_)))
     obtain ⟨cN,hle,hm1,hsub,cO⟩:=hm.take2 (L1:=[_]) (L2:=[_,_]) [1] [0,2] (by decide) rfl rfl
     refine gCg rfl call144 (rq _ cN (⟨g.fns,g.vars,g.next_,w64 (g.left - 1)⟩:lG) bp100 bp0 v1p (GT.mono hle h1p) v2p (GT.mono hle h2p) (tv (hsub 0 _ rfl)) (⟨gRd.b,aH.2.p⟩:kR) v3p (GT.mono hle h3p) hm1 ) ?_
     rintro aK dH dI w ⟨bB,rfl,hB⟩
     replace hm:=cO _ _ hB;clear hB
     refine gf rfl (λa hf=>kS (vs:=#[(0,(.agg #[nV aK.1.op,nV aK.1.n_,(tV aK.1.name),bB]))]) (cs:=[nV aK.1.op,nV aK.1.n_,(tV aK.1.name),bB]) na hf hm rfl rfl (by kernel_rfl) rfl rfl) ?_
     rintro _ w ⟨ab,rfl,hm⟩
     replace hm:=hm.els_nil (α:=kK)
     replace hm:Mem w0 hz _ [els [] ([]:List kK),blk ab [nV aK.1.op,nV aK.1.n_,(tV aK.1.name),bB] 80,blk bp100 [v3p,nV aK.2.p] 86,ow [nV aK.1.op,nV aK.1.n_,(tV aK.1.name),bB] (aK.1:kK),blk bp0 [(pV bp100),v1p,v2p,nV g.next_,nV (w64 (g.left - 1))] 109,opt v2p g.vars v2p g.vars]:=ly aK.1 hm 3 rfl
     replace hm:=(hm.els_cons 0 3 (by decide) rfl rfl).pk (L':=[_,_,_,_,_]) [0,1,2,4,5] rfl rfl
     replace hm:=(hm.lit_els 1 0 (by decide) rfl rfl rfl rfl).pk (L':=[_,_,_,_]) [1,2,3,4] rfl rfl
     refine gY (yG rfl (kr (vs:=[(0,(nV 12)),(3,(sV ab 0 1 1))]) (cs:=#[nV 12,nV 0,(tV (mkS [])),sV ab 0 1 1]) rfl rfl (by kernel_rfl))) (gf rfl (λa hf=>kS (vs:=#[(0,(.agg #[nV 12,nV 0,(tV (mkS [])),sV ab 0 1 1]))]) (cs:=[nV 12,nV 0,(tV (mkS [])),sV ab 0 1 1]) na hf hm rfl rfl (by kernel_rfl) rfl rfl) ?_)
     rintro _ w ⟨aq,rfl,hm⟩
     replace hm:=hm.els_nil (α:=kK)
     replace hm:Mem w0 hz _ [els [] ([]:List kK),blk aq [nV 12,nV 0,(tV (mkS [])),sV ab 0 1 1] 80,ow [nV 12,nV 0,(tV (mkS [])),sV ab 0 1 1] ((⟨12,0,(mkS []),([aK.1]:List kK)⟩:kK):kK),blk bp100 [v3p,nV aK.2.p] 86,blk bp0 [(pV bp100),v1p,v2p,nV g.next_,nV (w64 (g.left - 1))] 109,opt v2p g.vars v2p g.vars]:=oY 12 0 (mkS []) hm 2 rfl
     replace hm:=(hm.els_cons 0 2 (by decide) rfl rfl).pk (L':=[_,_,_,_,_]) [0,1,3,4,5] rfl rfl
     replace hm:=(hm.lit_els 1 0 (by decide) rfl rfl rfl rfl).pk (L':=[_,_,_,_]) [1,2,3,4] rfl rfl
     refine gY (yG rfl (kr (vs:=[(0,(nV 3)),(2,(sV aq 0 1 1))]) (cs:=#[nV 3,(tV (mkS [])),sV aq 0 1 1,.slice none 0 0,.slice none 0 0]) rfl rfl (by kernel_rfl))) (gf rfl (λa hf=>kS (vs:=#[(0,(.agg #[nV 3,(tV (mkS [])),sV aq 0 1 1,.slice none 0 0,.slice none 0 0]))]) (cs:=[nV 3,(tV (mkS [])),sV aq 0 1 1,.slice none 0 0,.slice none 0 0]) mZ hf hm rfl rfl (by kernel_rfl) rfl rfl) ?_)
     rintro _ w ⟨cP,rfl,hm⟩
     replace hm:=hm.els_nil (α:=kN)
     replace hm:=hm.nilow (α:=kN)
     replace hm:=hm.nilow (α:=kN)
     replace hm:=(oX 3 (mkS []) hm 4 1 0 rfl).pk (L':=[_,_,_,_,_,_]) [2,3,4,5,6,7] rfl rfl
     replace hm:=(hm.els_cons 0 2 (by decide) rfl rfl).pk (L':=[_,_,_,_,_]) [0,1,3,4,5] rfl rfl
     replace hm:=(hm.lit_els 1 0 (by decide) rfl rfl rfl rfl).pk (L':=[_,_,_,_]) [1,2,3,4] rfl rfl
     exact gA rfl (gE (gRt (gr1 results128 rfl ⟨sV cP 0 1 1,v2p,rfl,hm.pk [2,1,0,3] rfl rfl⟩)))
    refine gcf rfl (gS (gR (gM rfl (gB rfl (gA rfl (gE (gsd 85 rfl (λcQ=>?_) λcQ=>?_)))))))
    ·refine gct rfl (gS (gR (gM rfl ?_)))
     obtain ⟨cR,hle,hm1,hsub,cS⟩:=hm.take2 (L1:=[_]) (L2:=[_,_]) [1] [0,2] (by decide) rfl rfl
     refine gCg rfl call109 (mH _ cR (⟨g.fns,g.vars,g.next_,w64 (g.left - 1)⟩:lG) bp100 bp0 v1p (GT.mono hle h1p) v2p (GT.mono hle h2p) (tv (hsub 0 _ rfl)) (⟨gRd.b,aH.2.p⟩:kR) v3p (GT.mono hle h3p) 3 hm1 ) ?_
     rintro aL dJ dK w ⟨bC,rfl,hB⟩
     replace hm:=cS _ _ hB;clear hB
     refine gf rfl (λa hf=>kS (vs:=#[(0,(.agg #[nV aL.1.op,nV aL.1.n_,(tV aL.1.name),bC]))]) (cs:=[nV aL.1.op,nV aL.1.n_,(tV aL.1.name),bC]) na hf hm rfl rfl (by kernel_rfl) rfl rfl) ?_
     rintro _ w ⟨ac,rfl,hm⟩
     replace hm:=hm.els_nil (α:=kK)
     replace hm:Mem w0 hz _ [els [] ([]:List kK),blk ac [nV aL.1.op,nV aL.1.n_,(tV aL.1.name),bC] 80,blk bp100 [v3p,nV aL.2.p] 86,ow [nV aL.1.op,nV aL.1.n_,(tV aL.1.name),bC] (aL.1:kK),blk bp0 [(pV bp100),v1p,v2p,nV g.next_,nV (w64 (g.left - 1))] 109,opt v2p g.vars v2p g.vars]:=ly aL.1 hm 3 rfl
     replace hm:=(hm.els_cons 0 3 (by decide) rfl rfl).pk (L':=[_,_,_,_,_]) [0,1,2,4,5] rfl rfl
     replace hm:=(hm.lit_els 1 0 (by decide) rfl rfl rfl rfl).pk (L':=[_,_,_,_]) [1,2,3,4] rfl rfl
     refine gM rfl (gM rfl (gB rfl ?_))
     obtain ⟨cT,hle,hm1,hsub,cU⟩:=hm.take2 (L1:=[_,_]) (L2:=[_,_]) [2,1] [0,3] (by decide) rfl rfl
     refine gCg rfl call108 (pspec_l3Gen__block_rec _ cT (⟨g.fns,g.vars,g.next_,w64 (g.left - 1)⟩:lG) bp100 bp0 v1p (GT.mono hle h1p) v2p (GT.mono hle h2p) (⟨gRd.b,aL.2.p⟩:kR) v3p (GT.mono hle h3p) (w64 (deep - 1)) hm1 ) ?_
     rintro aT dL dM w ⟨_,b9,rfl,hB⟩
     replace hm:=cU _ _ hB;clear hB
     replace hm:=(hm.opt_comp 5 3 (by decide) rfl rfl).pk (L':=[_,_,_,_,_]) [0,1,2,4,5] rfl rfl
     obtain ⟨aV,aX,rfl,bc⟩:=kT (hm.ow_rep 2 rfl)
     refine gY (yG rfl (kr (vs:=[(0,(nV 5)),(2,(sV ac 0 1 1)),(3,(.slice aV aT.1.length aX))]) (cs:=#[nV 5,(tV (mkS [])),sV ac 0 1 1,.slice aV aT.1.length aX,.slice none 0 0]) rfl rfl (by kernel_rfl))) (gAl hm zeroValue61 rfl λba w hm=>gSN hm 0 sizeOf61 (kL rfl (kL rfl (kL rfl (kL rfl (kL rfl ke))))) rfl λw hm=>gE (gS (gS (gR (gM rfl (gY (yG rfl (kj rfl rfl)) (gF oK rfl (gL hm 1 isAgg40 rfl ?_))))))))
     obtain ⟨cV,hle,hm1,hsub,cW⟩:=hm.take2 (L1:=[_]) (L2:=[_,_,_,_,_]) [2] [0,1,3,4,5] (by decide) rfl rfl
     refine gCg rfl call39 (ka _ cV (⟨gRd.b,aT.2.2.p⟩:kR) bp100 v3p (GT.mono hle h3p) 2 hm1 ) ?_
     rintro cX dN dO w ⟨rfl,hB⟩
     replace hm:=cW _ _ hB;clear hB
     refine gB rfl (gE (gJg (λae a w=>∃ (ar bD:Value),St 128 [(6,(pV ba))] w0 hz [blk ba [nV 5,(tV (mkS [])),sV ac 0 1 1,.slice aV aT.1.length aX,ar] 61,ow [sV ac 0 1 1] ([aL.1]:List kK),ow [.slice aV aT.1.length aX] aT.1,ow [ar] ae.1,blk bp0 [(pV bp100),v1p,bD,nV ae.2.2.2.1,nV ae.2.2.2.2] 109,blk bp100 [v3p,nV ae.2.1] 86,opt v2p g.vars bD ae.2.2.1] a w) (λae=>?_) ?_))
     ·refine gsd 101 rfl (λbR=>?_) λbR=>?_
      ·refine gct rfl (gR (gM rfl (gM rfl (gB rfl ?_))))
       obtain ⟨cY,hle,hm1,hsub,cZ⟩:=hm.take2 (L1:=[_,_]) (L2:=[_,_,_,_]) [2,0] [1,3,4,5] (by decide) rfl rfl
       refine gCg rfl call108 (pspec_l3Gen__block_rec _ cY (⟨g.fns,aT.2.1.vars,aT.2.1.next_,aT.2.1.left⟩:lG) bp100 bp0 v1p (GT.mono hle h1p) b9 (tr hle h2p (hsub 3 _ rfl)) (⟨gRd.b,cX.2.p⟩:kR) v3p (GT.mono hle h3p) (w64 (deep - 1)) hm1 ) ?_
       rintro bd dP bb w ⟨_,bS,rfl,hB⟩
       replace hm:=cZ _ _ hB;clear hB
       replace hm:=(hm.opt_comp 7 3 (by decide) rfl rfl).pk (L':=[_,_,_,_,_,_,_]) [0,1,2,4,5,6,7] rfl rfl
       exact gF qJ rfl (gS1 hm 3 sizeOf43 (ki (hm.ow_rep 2 rfl)) rfl λw hm=>gE (gZ λa hf=>⟨bb,bS,hf.sb rfl,hm.pk [3,5,4,2,0,1,6] rfl rfl⟩))
      refine gcf rfl (gSk ?_)
      replace hm:=hm.nilow (α:=kN)
      exact gZ λa hf=>⟨.slice none 0 0,b9,hf.sb rfl,hm.pk [2,5,4,0,3,1,6] rfl rfl⟩
     repeat clear hm
     rintro ae a w ⟨ar,bD,hf,hm⟩
     refine gv hf (gS (gR (gY (yn (hm.blk_at 0 rfl) isAgg61 sizeOf61 rfl) (gf rfl (λa hf=>kS (vs:=#[(0,(.agg #[nV 5,(tV (mkS [])),sV ac 0 1 1,.slice aV aT.1.length aX,ar]))]) (cs:=[nV 5,(tV (mkS [])),sV ac 0 1 1,.slice aV aT.1.length aX,ar]) mZ hf hm rfl rfl (by kernel_rfl) rfl rfl) ?_))))
     rintro _ w ⟨c8,rfl,hm⟩
     replace hm:=hm.els_nil (α:=kN)
     replace hm:=(oX 5 (mkS []) hm 3 4 5 rfl).pk (L':=[_,_,_,_,_,_,_]) [0,1,2,3,6,7,8] rfl rfl
     replace hm:=(hm.els_cons 0 3 (by decide) rfl rfl).pk (L':=[_,_,_,_,_,_]) [0,1,2,4,5,6] rfl rfl
     replace hm:=(hm.lit_els 1 0 (by decide) rfl rfl rfl rfl).pk (L':=[_,_,_,_,_]) [1,2,3,4,5] rfl rfl
     exact gA rfl (gE (gRt (gr1 results128 rfl ⟨sV c8 0 1 1,bD,rfl,hm.pk [2,3,0,4] rfl rfl⟩)))
    refine gcf rfl (gS (gJ hm (λaf=>[(0,(pV bp0)),(1,(nV deep)),(109,(.bool (af.2)))]) (λaf=>[blk bp0 [(pV bp100),v1p,v2p,nV g.next_,nV (w64 (g.left - 1))] 109,blk bp100 [v3p,nV af.1] 86,opt v2p g.vars v2p g.vars]) (λaf=>?_) ?_))
    ·refine gR (gM rfl (gB rfl (gM rfl (gsd 112 rfl (λc9=>?_) λc9=>?_))))
     ·refine gM rfl (gY (yG rfl (kj rfl rfl)) (gF oK rfl (gL hm 0 isAgg40 rfl ?_)))
      obtain ⟨ca,hle,hm1,hsub,cb⟩:=hm.take2 (L1:=[_]) (L2:=[_,_]) [1] [0,2] (by decide) rfl rfl
      refine gCg rfl call39 (ka _ ca (⟨gRd.b,aH.2.p⟩:kR) bp100 v3p (GT.mono hle h3p) 3 hm1 ) ?_
      rintro dQ dR dS w ⟨rfl,hB⟩
      replace hm:=cb _ _ hB;clear hB
      exact gB rfl (gKt rfl (gA rfl (gE (gz hm [1,0,2] rfl))))
     exact gO rfl (gO rfl (gO rfl (gO rfl (gO rfl (gO rfl (gKf rfl (gA rfl (gE (gz hm [0,1,2] rfl)))))))))
    repeat clear hm
    intro af w hm
    refine gs 109 rfl (λcc=>?_) λcc=>?_
    ·refine gct rfl (gS (gR (gM rfl ?_)))
     obtain ⟨cd,hle,hm1,hsub,ce⟩:=hm.take2 (L1:=[_]) (L2:=[_,_]) [1] [0,2] (by decide) rfl rfl
     refine gCg rfl call109 (mH _ cd (⟨g.fns,g.vars,g.next_,w64 (g.left - 1)⟩:lG) bp100 bp0 v1p (GT.mono hle h1p) v2p (GT.mono hle h2p) (tv (hsub 0 _ rfl)) (⟨gRd.b,af.1⟩:kR) v3p (GT.mono hle h3p) 2 hm1 ) ?_
     rintro aP dT dU w ⟨bE,rfl,hB⟩
     replace hm:=ce _ _ hB;clear hB
     refine gf rfl (λa hf=>kS (vs:=#[(0,(.agg #[nV aP.1.op,nV aP.1.n_,(tV aP.1.name),bE]))]) (cs:=[nV aP.1.op,nV aP.1.n_,(tV aP.1.name),bE]) na hf hm rfl rfl (by kernel_rfl) rfl rfl) ?_
     rintro _ w ⟨au,rfl,hm⟩
     replace hm:=hm.els_nil (α:=kK)
     replace hm:Mem w0 hz _ [els [] ([]:List kK),blk au [nV aP.1.op,nV aP.1.n_,(tV aP.1.name),bE] 80,blk bp100 [v3p,nV aP.2.p] 86,ow [nV aP.1.op,nV aP.1.n_,(tV aP.1.name),bE] (aP.1:kK),blk bp0 [(pV bp100),v1p,v2p,nV g.next_,nV (w64 (g.left - 1))] 109,opt v2p g.vars v2p g.vars]:=ly aP.1 hm 3 rfl
     replace hm:=(hm.els_cons 0 3 (by decide) rfl rfl).pk (L':=[_,_,_,_,_]) [0,1,2,4,5] rfl rfl
     replace hm:=(hm.lit_els 1 0 (by decide) rfl rfl rfl rfl).pk (L':=[_,_,_,_]) [1,2,3,4] rfl rfl
     refine gY (yG rfl (kr (vs:=[(0,(nV 7)),(2,(sV au 0 1 1))]) (cs:=#[nV 7,(tV (mkS [])),sV au 0 1 1,.slice none 0 0,.slice none 0 0]) rfl rfl (by kernel_rfl))) (gf rfl (λa hf=>kS (vs:=#[(0,(.agg #[nV 7,(tV (mkS [])),sV au 0 1 1,.slice none 0 0,.slice none 0 0]))]) (cs:=[nV 7,(tV (mkS [])),sV au 0 1 1,.slice none 0 0,.slice none 0 0]) mZ hf hm rfl rfl (by kernel_rfl) rfl rfl) ?_)
     rintro _ w ⟨cf,rfl,hm⟩
     replace hm:=hm.els_nil (α:=kN)
     replace hm:=hm.nilow (α:=kN)
     replace hm:=hm.nilow (α:=kN)
     replace hm:=(oX 7 (mkS []) hm 4 1 0 rfl).pk (L':=[_,_,_,_,_,_]) [2,3,4,5,6,7] rfl rfl
     replace hm:=(hm.els_cons 0 2 (by decide) rfl rfl).pk (L':=[_,_,_,_,_]) [0,1,3,4,5] rfl rfl
     replace hm:=(hm.lit_els 1 0 (by decide) rfl rfl rfl rfl).pk (L':=[_,_,_,_]) [1,2,3,4] rfl rfl
     exact gA rfl (gE (gRt (gr1 results128 rfl ⟨sV cf 0 1 1,v2p,rfl,hm.pk [2,1,0,3] rfl rfl⟩)))
    refine gcf rfl (gSk (gS (gR (gM rfl (gM rfl ?_)))))
    obtain ⟨cg,hle,hm1,hsub,cj⟩:=hm.take2 (L1:=[_,_]) (L2:=[_]) [0,1] [2] (by decide) rfl rfl
    refine gCg rfl call145 (pspec_l3Gen__loop_rec _ cg (⟨g.fns,g.vars,g.next_,w64 (g.left - 1)⟩:lG) bp100 bp0 v1p (GT.mono hle h1p) v2p (GT.mono hle h2p) (⟨gRd.b,af.1⟩:kR) v3p (GT.mono hle h3p) deep hm1 ) ?_
    rintro dV dW ck w ⟨_,cl,rfl,hB⟩
    replace hm:=cj _ _ hB;clear hB
    replace hm:=(hm.opt_comp 4 3 (by decide) rfl rfl).pk (L':=[_,_,_,_]) [0,1,2,4] rfl rfl
    exact gA rfl (gE (gRt (gr1 results128 rfl ⟨ck,cl,rfl,hm.pk [0,1,2,3] rfl rfl⟩)))
  · intro rec_ ih_ g gRd deep r hq w0 hz bp100 bp0 v1p h1p v2p h2p v3p h3p hm0
    have pspec_l3Gen__block_rec:∀ (w0:World) (hz:kX) (g:lG) (bp100:Nat) (bp0:Nat) (v1p:Value) (h1p:GT.rep hz [v1p] g.fns) (v2p:Value) (h2p:GT.rep hz [v2p] g.vars) (gRd:kR) (v3p:Value) (h3p:GT.rep hz [v3p] gRd.b) (deep:Int) (hm0:Mem w0 hz w0 [blk bp0 [(pV bp100),v1p,v2p,nV g.next_,nV g.left] 109,blk bp100 [v3p,nV gRd.p] 86]) (r:(List kN) × lG × kR) (hq:rec_ g gRd deep=some r),Con Tryz.prog 108 [(pV bp0),nV deep] w0 (λv w'=>∃ (x1:Value) (x3:Value),v=x1∧Mem w0 hz w' [blk bp0 [(pV bp100),v1p,x3,nV r.2.1.next_,nV r.2.1.left] 109,blk bp100 [v3p,nV r.2.2.p] 86,ow [x1] r.1,opt v2p g.vars x3 r.2.1.vars]):=λw0 hz g bp100 bp0 v1p h1p v2p h2p gRd v3p h3p deep hm0 r hq=>ih_ g gRd deep r hq w0 hz bp100 bp0 v1p h1p v2p h2p v3p h3p hm0
    refine pO (ρ:=(List kN) × lG × kR) (R:=λr v w'=>∃ (x1:Value) (x3:Value),v=x1∧Mem w0 hz w' [blk bp0 [(pV bp100),v1p,x3,nV r.2.1.next_,nV r.2.1.left] 109,blk bp100 [v3p,nV r.2.2.p] 86,ow [x1] r.1,opt v2p g.vars x3 r.2.1.vars]) func145 rfl hq ?_
    have hm:=hm0
    replace hm:=hm.opt_new v2p g.vars
    refine gS (gR (gA rfl (gE (gS (gR (gM rfl (gM rfl (gY (yG rfl (kj rfl rfl)) (gF oK rfl (gL hm 1 isAgg40 rfl (gf rfl (λa hf=>kS (vs:=#[(0,(nV 2)),(1,(nV 3)),(2,(nV 1)),(3,(nV 0)),(4,(nV 5))]) (cs:=[nV 2,nV 3,nV 1,nV 0,nV 5]) rp hf hm rfl rfl (by kernel_rfl) rfl rfl) ?_)))))))))))
    rintro _ w ⟨aN,rfl,hm⟩
    replace hm:=hm.lit (xs:=([2,3,1,0,5]:List Int)) 0 rfl rfl rfl rfl
    obtain ⟨ak,hle,hm1,hsub,al⟩:=hm.take2 (L1:=[_]) (L2:=[_,_,_]) [3] [0,1,2] (by decide) rfl rfl
    refine gCg rfl call53 (lA _ ak gRd bp100 v3p (GT.mono hle h3p) ([2,3,1,0,5]:List Int) (sV aN 0 5 5) (mY (hsub 0 _ rfl)) hm1 ) ?_
    rintro aH bV bU w ⟨rfl,hB⟩
    replace hm:=al _ _ hB;clear hB
    refine gY (yG rfl (kr (vs:=[(0,(nV 1)),(1,(nV aH.1))]) (cs:=#[nV 1,nV aH.1,(tV (mkS [])),.slice none 0 0]) rfl rfl (by kernel_rfl))) ?_
    replace hm:=hm.nilow (α:=kK)
    obtain ⟨bL,hle,hm1,hsub,bM⟩:=hm.take2 (L1:=[_,_,_]) (L2:=[_,_]) [4,1,0] [2,3] (by decide) rfl rfl
    refine gCg rfl call143 (sK _ bL g bp100 bp0 v1p (GT.mono hle h1p) v2p (GT.mono hle h2p) (⟨gRd.b,aH.2.p⟩:kR) v3p (GT.mono hle h3p) (⟨1,aH.1,(mkS []),([]:List kK)⟩:kK) (.slice none 0 0) hm1 ) ?_
    rintro aA bX bW w ⟨aD,aC,aF,bP,rfl,hB⟩
    replace hm:=bM _ _ hB;clear hB
    replace hm:=(hm.opt_comp 7 5 (by decide) rfl rfl).pk (L':=[_,_,_,_,_,_,_]) [0,1,2,3,4,6,7] rfl rfl
    refine gAl hm zeroValue61 rfl λaY w hm=>gSN hm 0 sizeOf61 (kL rfl (kL rfl (kL (ki (hm.ow_rep 3 rfl)) (kL (ki (hm.ow_rep 4 rfl)) (kL (ki (hm.ow_rep 5 rfl)) ke))))) rfl λw hm=>gE (gS (gR (gF qd rfl (gL hm 0 isAgg9 rfl (gY (yG rfl (kr (vs:=[(0,(nV 2)),(2,(tV aA.1.name))]) (cs:=#[nV 2,nV 0,(tV aA.1.name),.slice none 0 0]) rfl rfl (by kernel_rfl))) (gAl hm zeroValue80 rfl λaZ w hm=>gSN hm 0 sizeOf80 (kL rfl (kL rfl (kL rfl (kL rfl ke)))) rfl λw hm=>gE (gS (gR (gM rfl (gM rfl (gB rfl ?_)))))))))))
    obtain ⟨bN,hle,hm1,hsub,bO⟩:=hm.take2 (L1:=[_,_]) (L2:=[_,_,_,_,_,_,_]) [2,3] [0,1,4,5,6,7,8] (by decide) rfl rfl
    refine gCg rfl call108 (pspec_l3Gen__block_rec _ bN (⟨g.fns,aA.2.1.vars,aA.2.1.next_,aA.2.1.left⟩:lG) bp100 bp0 v1p (GT.mono hle h1p) bP (tr hle h2p (hsub 6 _ rfl)) (⟨gRd.b,aA.2.2.p⟩:kR) v3p (GT.mono hle h3p) (w64 (deep - 1)) hm1 ) ?_
    rintro aB bY ah w ⟨_,aJ,rfl,hB⟩
    replace hm:=bO _ _ hB;clear hB
    replace hm:=(hm.opt_comp 10 3 (by decide) rfl rfl).pk (L':=[_,_,_,_,_,_,_,_,_,_]) [0,1,2,4,5,6,7,8,9,10] rfl rfl
    refine gA rfl (gE (gS (gR (gF qd rfl (gL hm 4 isAgg9 rfl (gY (yn (hm.blk_at 3 rfl) isAgg80 sizeOf80 rfl) (gY (yG rfl (kr (vs:=[(0,(nV 1)),(1,(nV 1))]) (cs:=#[nV 1,nV 1,(tV (mkS [])),.slice none 0 0]) rfl rfl (by kernel_rfl))) (gf rfl (λa hf=>kS (vs:=#[(0,(.agg #[nV 2,nV 0,(tV aA.1.name),.slice none 0 0])),(1,(.agg #[nV 1,nV 1,(tV (mkS [])),.slice none 0 0]))]) (cs:=[nV 2,nV 0,(tV aA.1.name),.slice none 0 0,nV 1,nV 1,(tV (mkS [])),.slice none 0 0]) na hf hm rfl rfl (by kernel_rfl) rfl rfl) ?_))))))))
    rintro _ w ⟨aQ,rfl,hm⟩
    replace hm:=hm.els_nil (α:=kK)
    replace hm:=hm.nilow (α:=kK)
    replace hm:Mem w0 hz _ [ow [nV 1,nV 1,(tV (mkS [])),.slice none 0 0] ((⟨1,1,(mkS []),[]⟩:kK):kK),els [] ([]:List kK),blk aQ [nV 2,nV 0,(tV aA.1.name),.slice none 0 0,nV 1,nV 1,(tV (mkS [])),.slice none 0 0] 80,blk bp0 [(pV bp100),v1p,aJ,nV aB.2.1.next_,nV aB.2.1.left] 109,blk bp100 [v3p,nV aB.2.2.p] 86,ow [ah] aB.1,blk aZ [nV 2,nV 0,(tV aA.1.name),.slice none 0 0] 80,blk aY [nV aA.1.op,(tV aA.1.name),aD,aC,aF] 61,ow [aD] aA.1.args,ow [aC] aA.1.body,ow [aF] aA.1.else_,ow [sV aN 0 5 5] ([2,3,1,0,5]:List Int),opt v2p g.vars aJ aB.2.1.vars]:=oY 1 1 (mkS []) hm 0 rfl
    replace hm:=(hm.els_cons 1 0 (by decide) rfl rfl).pk (L':=[_,_,_,_,_,_,_,_,_,_,_,_]) [1,2,3,4,5,6,7,8,9,10,11,12] rfl rfl
    replace hm:=hm.nilow (α:=kK)
    replace hm:Mem w0 hz _ [ow [nV 2,nV 0,(tV aA.1.name),.slice none 0 0] ((⟨2,0,aA.1.name,[]⟩:kK):kK),els [nV 1,nV 1,(tV (mkS [])),.slice none 0 0] ([(⟨1,1,(mkS []),[]⟩:kK)]:List kK),blk aQ [nV 2,nV 0,(tV aA.1.name),.slice none 0 0,nV 1,nV 1,(tV (mkS [])),.slice none 0 0] 80,blk bp0 [(pV bp100),v1p,aJ,nV aB.2.1.next_,nV aB.2.1.left] 109,blk bp100 [v3p,nV aB.2.2.p] 86,ow [ah] aB.1,blk aZ [nV 2,nV 0,(tV aA.1.name),.slice none 0 0] 80,blk aY [nV aA.1.op,(tV aA.1.name),aD,aC,aF] 61,ow [aD] aA.1.args,ow [aC] aA.1.body,ow [aF] aA.1.else_,ow [sV aN 0 5 5] ([2,3,1,0,5]:List Int),opt v2p g.vars aJ aB.2.1.vars]:=oY 2 0 aA.1.name hm 0 rfl
    replace hm:=(hm.els_cons 1 0 (by decide) rfl rfl).pk (L':=[_,_,_,_,_,_,_,_,_,_,_,_]) [1,2,3,4,5,6,7,8,9,10,11,12] rfl rfl
    replace hm:=(hm.lit_els 1 0 (by decide) rfl rfl rfl rfl).pk (L':=[_,_,_,_,_,_,_,_,_,_,_]) [1,2,3,4,5,6,7,8,9,10,11] rfl rfl
    refine gY (yG rfl (kr (vs:=[(0,(nV 4)),(3,(sV aQ 0 2 2))]) (cs:=#[nV 4,nV 0,(tV (mkS [])),sV aQ 0 2 2]) rfl rfl (by kernel_rfl))) (gf rfl (λa hf=>kS (vs:=#[(0,(.agg #[nV 4,nV 0,(tV (mkS [])),sV aQ 0 2 2]))]) (cs:=[nV 4,nV 0,(tV (mkS [])),sV aQ 0 2 2]) na hf hm rfl rfl (by kernel_rfl) rfl rfl) ?_)
    rintro _ w ⟨aR,rfl,hm⟩
    replace hm:=hm.els_nil (α:=kK)
    replace hm:Mem w0 hz _ [els [] ([]:List kK),blk aR [nV 4,nV 0,(tV (mkS [])),sV aQ 0 2 2] 80,ow [nV 4,nV 0,(tV (mkS [])),sV aQ 0 2 2] ((⟨4,0,(mkS []),([(⟨2,0,aA.1.name,[]⟩:kK),(⟨1,1,(mkS []),[]⟩:kK)]:List kK)⟩:kK):kK),blk bp0 [(pV bp100),v1p,aJ,nV aB.2.1.next_,nV aB.2.1.left] 109,blk bp100 [v3p,nV aB.2.2.p] 86,ow [ah] aB.1,blk aZ [nV 2,nV 0,(tV aA.1.name),.slice none 0 0] 80,blk aY [nV aA.1.op,(tV aA.1.name),aD,aC,aF] 61,ow [aD] aA.1.args,ow [aC] aA.1.body,ow [aF] aA.1.else_,ow [sV aN 0 5 5] ([2,3,1,0,5]:List Int),opt v2p g.vars aJ aB.2.1.vars]:=oY 4 0 (mkS []) hm 2 rfl
    replace hm:=(hm.els_cons 0 2 (by decide) rfl rfl).pk (L':=[_,_,_,_,_,_,_,_,_,_,_,_]) [0,1,3,4,5,6,7,8,9,10,11,12] rfl rfl
    replace hm:=(hm.lit_els 1 0 (by decide) rfl rfl rfl rfl).pk (L':=[_,_,_,_,_,_,_,_,_,_,_]) [1,2,3,4,5,6,7,8,9,10,11] rfl rfl
    refine gY (yG rfl (kr (vs:=[(0,(nV 2)),(1,(tV aA.1.name)),(2,(sV aR 0 1 1))]) (cs:=#[nV 2,(tV aA.1.name),sV aR 0 1 1,.slice none 0 0,.slice none 0 0]) rfl rfl (by kernel_rfl))) (gAl hm zeroValue61 rfl λaU w hm=>gSN hm 0 sizeOf61 (kL rfl (kL rfl (kL rfl (kL rfl (kL rfl ke))))) rfl λw hm=>gE (gS (gR (gM rfl (gM rfl (gY (yG rfl (kj rfl rfl)) (gF rh rfl (gL hm 2 isAgg3 rfl (gB rfl (gY (yG rfl (kj rfl rfl)) (gF rh rfl (gS1 hm 2 sizeOf3 rfl rfl λw hm=>gE (gS (gJg (λaM a w=>∃ (aa:Value),St 50 [(4,aa)] w0 hz [ow [aa] aM,blk bp0 [(pV bp100),v1p,aJ,nV aB.2.1.next_,nV (w64 (aB.2.1.left - 2))] 109,blk bp100 [v3p,nV aB.2.2.p] 86,opt v2p g.vars aJ aB.2.1.vars] a w) (λaM=>?_) ?_))))))))))))))
    ·refine gW (.p 3 (.q 0 (.q 1 (.q 4 (.e 2 (.e 5 (.e 6 (.p 7 (.e 8 (.p 9 .fin) .nil)) .nil) .nil) (.e 5 (.e 2 (.e 6 (.p 7 (.e 8 (.p 9 .fin) .nil)) .nil) (.e 6 (.e 2 (.p 7 (.e 8 (.p 9 .fin) .nil)) .nil) .nil)) .nil)))))) [0, 1, 2, 4, 5, 6] [3, 7, 9] hm [0, 2, 3, 5, 6, 7, 8, 9, 10, 11] [_, _, _, _, _, _, _, _, _, _] rfl mxo (by kernel_rfl) (fun _ _ _ h => h.2) fun w hm hS => tP rfl (fun w => yM rfl) (tQ rfl hS (fun w hm => yn (hm.blk_at 4 rfl) isAgg61 sizeOf61 rfl) (tQ rfl hS (fun w hm => yn (hm.blk_at 3 rfl) isAgg80 sizeOf80 rfl) (tQ rfl hS (fun w hm => yn (hm.blk_at 0 rfl) isAgg61 sizeOf61 rfl) (gb fun aS bT => tMo ?_ ?_))))
     ·refine tf rfl rfl (fun a hf => kS (vs := #[(0, (.agg #[nV 2, nV 0, (tV aA.1.name), .slice none 0 0]))]) (cs := [nV 2, nV 0, (tV aA.1.name), .slice none 0 0]) na hf hm rfl rfl (by kernel_rfl) rfl rfl) ?_
      rintro _ w ⟨av,rfl,hm⟩
      replace hm:=hm.els_nil (α:=kK)
      replace hm:=hm.nilow (α:=kK)
      replace hm:Mem w0 hz _ [ow [nV 2,nV 0,(tV aA.1.name),.slice none 0 0] ((⟨2,0,aA.1.name,[]⟩:kK):kK),els [] ([]:List kK),blk av [nV 2,nV 0,(tV aA.1.name),.slice none 0 0] 80,blk aU [nV 2,(tV aA.1.name),sV aR 0 1 1,.slice none 0 0,.slice none 0 0] 61,ow [sV aR 0 1 1] ([(⟨4,0,(mkS []),([(⟨2,0,aA.1.name,[]⟩:kK),(⟨1,1,(mkS []),[]⟩:kK)]:List kK)⟩:kK)]:List kK),blk bp0 [(pV bp100),v1p,aJ,nV aB.2.1.next_,nV (w64 (aB.2.1.left - 2))] 109,blk bp100 [v3p,nV aB.2.2.p] 86,ow [ah] aB.1,blk aZ [nV 2,nV 0,(tV aA.1.name),.slice none 0 0] 80,blk aY [nV aA.1.op,(tV aA.1.name),aD,aC,aF] 61,ow [aD] aA.1.args,ow [aC] aA.1.body,ow [aF] aA.1.else_,ow [sV aN 0 5 5] ([2,3,1,0,5]:List Int),opt v2p g.vars aJ aB.2.1.vars]:=oY 2 0 aA.1.name hm 0 rfl
      replace hm:=(hm.els_cons 1 0 (by decide) rfl rfl).pk (L':=[_,_,_,_,_,_,_,_,_,_,_,_,_,_]) [1,2,3,4,5,6,7,8,9,10,11,12,13,14] rfl rfl
      replace hm:=(hm.lit_els 1 0 (by decide) rfl rfl rfl rfl).pk (L':=[_,_,_,_,_,_,_,_,_,_,_,_,_]) [1,2,3,4,5,6,7,8,9,10,11,12,13] rfl rfl
      refine tAk hm [1,3,4,6,7,8,9,10,11,12] rfl λhS=>tO (tf rfl rfl (λa hf=>kS (vs:=#[(0,(.agg #[nV 2,(tV aA.1.name),sV aR 0 1 1,.slice none 0 0,.slice none 0 0]))]) (cs:=[nV 2,(tV aA.1.name),sV aR 0 1 1,.slice none 0 0,.slice none 0 0]) mZ hf hm rfl rfl (by kernel_rfl) rfl rfl) ?_)
      rintro _ w ⟨dX,rfl,hm⟩
      replace hm:=hm.els_nil (α:=kN)
      replace hm:=hm.nilow (α:=kN)
      replace hm:=hm.nilow (α:=kN)
      replace hm:=(oX 2 aA.1.name hm 6 1 0 rfl).pk (L':=[_,_,_,_,_,_,_,_,_,_,_,_,_,_,_]) [2,3,4,5,6,7,8,9,10,11,12,13,14,15,16] rfl rfl
      replace hm:=(hm.els_cons 0 4 (by decide) rfl rfl).pk (L':=[_,_,_,_,_,_,_,_,_,_,_,_,_,_]) [0,1,2,3,5,6,7,8,9,10,11,12,13,14] rfl rfl
      replace hm:=(hm.lit_els 1 0 (by decide) rfl rfl rfl rfl).pk (L':=[_,_,_,_,_,_,_,_,_,_,_,_,_]) [1,2,3,4,5,6,7,8,9,10,11,12,13] rfl rfl
      refine tAk hm [2,3,4,6,7,8,9,10,11,12] rfl λhS=>tO ?_
      obtain ⟨bK,cm⟩:=kb.1 bT
      replace hm:=(hm.both 5 0 (by decide) rfl rfl).pk (L':=[_,_,_,_,_,_,_,_,_,_,_,_]) [1,2,3,4,5,6,7,8,9,10,11,12] rfl rfl
      refine tf rfl rfl (λa hf=>lp (xs:=aB.1) (ys:=([(⟨2,aA.1.name,([(⟨4,0,(mkS []),([(⟨2,0,aA.1.name,[]⟩:kK),(⟨1,1,(mkS []),[]⟩:kK)]:List kK)⟩:kK)]:List kK),[],[]⟩:kN)]:List kN)) 4 mZ hf hm rfl rfl rfl rfl bK) ?_
      rintro bb w hm
      rw [cm] at hm
      refine tAk hm [1,2,3,5,6,7,8,9,10,11] rfl λhS=>?_
      obtain ⟨am,an,rfl,br⟩:=kT (hm.ow_rep 4 rfl)
      refine tP rfl (λw=>yG rfl (kr (vs:=[(0,(nV 6)),(2,(sV av 0 1 1)),(3,(.slice am aS.length an))]) (cs:=#[nV 6,(tV (mkS [])),sV av 0 1 1,.slice am aS.length an,.slice none 0 0]) rfl rfl (by kernel_rfl))) (tO (tf rfl rfl (λa hf=>kS (vs:=#[(0,(.agg #[nV aA.1.op,(tV aA.1.name),aD,aC,aF])),(1,(.agg #[nV 6,(tV (mkS [])),sV av 0 1 1,.slice am aS.length an,.slice none 0 0]))]) (cs:=[nV aA.1.op,(tV aA.1.name),aD,aC,aF,nV 6,(tV (mkS [])),sV av 0 1 1,.slice am aS.length an,.slice none 0 0]) mZ hf hm rfl rfl (by kernel_rfl) rfl rfl) ?_))
      rintro _ w ⟨cn,rfl,hm⟩
      replace hm:=hm.els_nil (α:=kN)
      replace hm:=hm.nilow (α:=kN)
      replace hm:=(oX 6 (mkS []) hm 3 7 0 rfl).pk (L':=[_,_,_,_,_,_,_,_,_,_,_,_,_]) [1,2,3,4,5,6,8,9,10,11,12,13,14] rfl rfl
      replace hm:=(hm.els_cons 0 2 (by decide) rfl rfl).pk (L':=[_,_,_,_,_,_,_,_,_,_,_,_]) [0,1,3,4,5,6,7,8,9,10,11,12] rfl rfl
      replace hm:=(ta aA.1 hm 7 8 9 rfl).pk (L':=[_,_,_,_,_,_,_,_,_,_]) [0,1,2,3,4,5,6,7,10,11] rfl rfl
      replace hm:=(hm.els_cons 0 7 (by decide) rfl rfl).pk (L':=[_,_,_,_,_,_,_,_,_]) [0,1,2,3,4,5,6,8,9] rfl rfl
      replace hm:=(hm.lit_els 1 0 (by decide) rfl rfl rfl rfl).pk (L':=[_,_,_,_,_,_,_,_]) [1,2,3,4,5,6,7,8] rfl rfl
      exact tAn rfl (tP rfl (λw=>yA rfl) (tE (gZ λa hf=>⟨sV cn 0 2 2,hf.sb rfl,hm.pk [0,2,3,7] rfl rfl⟩)))
     refine tO (tf rfl rfl (λa hf=>kS (vs:=#[(0,(.agg #[nV 2,(tV aA.1.name),sV aR 0 1 1,.slice none 0 0,.slice none 0 0]))]) (cs:=[nV 2,(tV aA.1.name),sV aR 0 1 1,.slice none 0 0,.slice none 0 0]) mZ hf hm rfl rfl (by kernel_rfl) rfl rfl) ?_)
     rintro _ w ⟨co,rfl,hm⟩
     replace hm:=hm.els_nil (α:=kN)
     replace hm:=hm.nilow (α:=kN)
     replace hm:=hm.nilow (α:=kN)
     replace hm:=(oX 2 aA.1.name hm 5 1 0 rfl).pk (L':=[_,_,_,_,_,_,_,_,_,_,_,_,_,_]) [2,3,4,5,6,7,8,9,10,11,12,13,14,15] rfl rfl
     replace hm:=(hm.els_cons 0 3 (by decide) rfl rfl).pk (L':=[_,_,_,_,_,_,_,_,_,_,_,_,_]) [0,1,2,4,5,6,7,8,9,10,11,12,13] rfl rfl
     replace hm:=(hm.lit_els 1 0 (by decide) rfl rfl rfl rfl).pk (L':=[_,_,_,_,_,_,_,_,_,_,_,_]) [1,2,3,4,5,6,7,8,9,10,11,12] rfl rfl
     refine tAk hm [1,2,3,5,6,7,8,9,10,11] rfl λhS=>tMo ?_ ?_
     ·refine tf rfl rfl (fun a hf => kS (vs := #[(0, (.agg #[nV 2, nV 0, (tV aA.1.name), .slice none 0 0]))]) (cs := [nV 2, nV 0, (tV aA.1.name), .slice none 0 0]) na hf hm rfl rfl (by kernel_rfl) rfl rfl) ?_
      rintro _ w ⟨aw,rfl,hm⟩
      replace hm:=hm.els_nil (α:=kK)
      replace hm:=hm.nilow (α:=kK)
      replace hm:Mem w0 hz _ [ow [nV 2,nV 0,(tV aA.1.name),.slice none 0 0] ((⟨2,0,aA.1.name,[]⟩:kK):kK),els [] ([]:List kK),blk aw [nV 2,nV 0,(tV aA.1.name),.slice none 0 0] 80,ow [sV co 0 1 1] ([(⟨2,aA.1.name,([(⟨4,0,(mkS []),([(⟨2,0,aA.1.name,[]⟩:kK),(⟨1,1,(mkS []),[]⟩:kK)]:List kK)⟩:kK)]:List kK),[],[]⟩:kN)]:List kN),blk aU [nV 2,(tV aA.1.name),sV aR 0 1 1,.slice none 0 0,.slice none 0 0] 61,blk bp0 [(pV bp100),v1p,aJ,nV aB.2.1.next_,nV (w64 (aB.2.1.left - 2))] 109,blk bp100 [v3p,nV aB.2.2.p] 86,ow [ah] aB.1,blk aZ [nV 2,nV 0,(tV aA.1.name),.slice none 0 0] 80,blk aY [nV aA.1.op,(tV aA.1.name),aD,aC,aF] 61,ow [aD] aA.1.args,ow [aC] aA.1.body,ow [aF] aA.1.else_,ow [sV aN 0 5 5] ([2,3,1,0,5]:List Int),opt v2p g.vars aJ aB.2.1.vars]:=oY 2 0 aA.1.name hm 0 rfl
      replace hm:=(hm.els_cons 1 0 (by decide) rfl rfl).pk (L':=[_,_,_,_,_,_,_,_,_,_,_,_,_,_]) [1,2,3,4,5,6,7,8,9,10,11,12,13,14] rfl rfl
      replace hm:=(hm.lit_els 1 0 (by decide) rfl rfl rfl rfl).pk (L':=[_,_,_,_,_,_,_,_,_,_,_,_,_]) [1,2,3,4,5,6,7,8,9,10,11,12,13] rfl rfl
      refine tAk hm [2,3,4,6,7,8,9,10,11,12] rfl λhS=>tO ?_
      obtain ⟨bQ,cq⟩:=kb.1 bT
      replace hm:=(hm.both 5 1 (by decide) rfl rfl).pk (L':=[_,_,_,_,_,_,_,_,_,_,_,_]) [0,2,3,4,5,6,7,8,9,10,11,12] rfl rfl
      refine tf rfl rfl (λa hf=>lp (xs:=aB.1) (ys:=([(⟨2,aA.1.name,([(⟨4,0,(mkS []),([(⟨2,0,aA.1.name,[]⟩:kK),(⟨1,1,(mkS []),[]⟩:kK)]:List kK)⟩:kK)]:List kK),[],[]⟩:kN)]:List kN)) 4 mZ hf hm rfl rfl rfl rfl bQ) ?_
      rintro dY w hm
      rw [cq] at hm
      refine tAk hm [1,2,3,5,6,7,8,9,10,11] rfl λhS=>?_
      obtain ⟨bF,bG,rfl,dZ⟩:=kT (hm.ow_rep 4 rfl)
      refine tP rfl (λw=>yG rfl (kr (vs:=[(0,(nV 6)),(2,(sV aw 0 1 1)),(3,(.slice bF aS.length bG))]) (cs:=#[nV 6,(tV (mkS [])),sV aw 0 1 1,.slice bF aS.length bG,.slice none 0 0]) rfl rfl (by kernel_rfl))) (tO (tf rfl rfl (λa hf=>kS (vs:=#[(0,(.agg #[nV aA.1.op,(tV aA.1.name),aD,aC,aF])),(1,(.agg #[nV 6,(tV (mkS [])),sV aw 0 1 1,.slice bF aS.length bG,.slice none 0 0]))]) (cs:=[nV aA.1.op,(tV aA.1.name),aD,aC,aF,nV 6,(tV (mkS [])),sV aw 0 1 1,.slice bF aS.length bG,.slice none 0 0]) mZ hf hm rfl rfl (by kernel_rfl) rfl rfl) ?_))
      rintro _ w ⟨cr,rfl,hm⟩
      replace hm:=hm.els_nil (α:=kN)
      replace hm:=hm.nilow (α:=kN)
      replace hm:=(oX 6 (mkS []) hm 3 7 0 rfl).pk (L':=[_,_,_,_,_,_,_,_,_,_,_,_,_]) [1,2,3,4,5,6,8,9,10,11,12,13,14] rfl rfl
      replace hm:=(hm.els_cons 0 2 (by decide) rfl rfl).pk (L':=[_,_,_,_,_,_,_,_,_,_,_,_]) [0,1,3,4,5,6,7,8,9,10,11,12] rfl rfl
      replace hm:=(ta aA.1 hm 7 8 9 rfl).pk (L':=[_,_,_,_,_,_,_,_,_,_]) [0,1,2,3,4,5,6,7,10,11] rfl rfl
      replace hm:=(hm.els_cons 0 7 (by decide) rfl rfl).pk (L':=[_,_,_,_,_,_,_,_,_]) [0,1,2,3,4,5,6,8,9] rfl rfl
      replace hm:=(hm.lit_els 1 0 (by decide) rfl rfl rfl rfl).pk (L':=[_,_,_,_,_,_,_,_]) [1,2,3,4,5,6,7,8] rfl rfl
      exact tAn rfl (tP rfl (λw=>yA rfl) (tE (gZ λa hf=>⟨sV cr 0 2 2,hf.sb rfl,hm.pk [0,2,3,7] rfl rfl⟩)))
     refine tO ?_
     obtain ⟨bR,ct⟩:=kb.1 bT
     replace hm:=(hm.both 4 0 (by decide) rfl rfl).pk (L':=[_,_,_,_,_,_,_,_,_,_,_]) [1,2,3,4,5,6,7,8,9,10,11] rfl rfl
     refine tf rfl rfl (λa hf=>lp (xs:=aB.1) (ys:=([(⟨2,aA.1.name,([(⟨4,0,(mkS []),([(⟨2,0,aA.1.name,[]⟩:kK),(⟨1,1,(mkS []),[]⟩:kK)]:List kK)⟩:kK)]:List kK),[],[]⟩:kN)]:List kN)) 3 mZ hf hm rfl rfl rfl rfl bR) ?_
     rintro bS w hm
     rw [ct] at hm
     refine tAk hm [0,1,2,4,5,6,7,8,9,10] rfl λhS=>tO (tf rfl rfl (λa hf=>kS (vs:=#[(0,(.agg #[nV 2,nV 0,(tV aA.1.name),.slice none 0 0]))]) (cs:=[nV 2,nV 0,(tV aA.1.name),.slice none 0 0]) na hf hm rfl rfl (by kernel_rfl) rfl rfl) ?_)
     rintro _ w ⟨ax,rfl,hm⟩
     replace hm:=hm.els_nil (α:=kK)
     replace hm:=hm.nilow (α:=kK)
     replace hm:Mem w0 hz _ [ow [nV 2,nV 0,(tV aA.1.name),.slice none 0 0] ((⟨2,0,aA.1.name,[]⟩:kK):kK),els [] ([]:List kK),blk ax [nV 2,nV 0,(tV aA.1.name),.slice none 0 0] 80,blk aU [nV 2,(tV aA.1.name),sV aR 0 1 1,.slice none 0 0,.slice none 0 0] 61,blk bp0 [(pV bp100),v1p,aJ,nV aB.2.1.next_,nV (w64 (aB.2.1.left - 2))] 109,blk bp100 [v3p,nV aB.2.2.p] 86,ow [bS] aS,blk aZ [nV 2,nV 0,(tV aA.1.name),.slice none 0 0] 80,blk aY [nV aA.1.op,(tV aA.1.name),aD,aC,aF] 61,ow [aD] aA.1.args,ow [aC] aA.1.body,ow [aF] aA.1.else_,ow [sV aN 0 5 5] ([2,3,1,0,5]:List Int),opt v2p g.vars aJ aB.2.1.vars]:=oY 2 0 aA.1.name hm 0 rfl
     replace hm:=(hm.els_cons 1 0 (by decide) rfl rfl).pk (L':=[_,_,_,_,_,_,_,_,_,_,_,_,_]) [1,2,3,4,5,6,7,8,9,10,11,12,13] rfl rfl
     replace hm:=(hm.lit_els 1 0 (by decide) rfl rfl rfl rfl).pk (L':=[_,_,_,_,_,_,_,_,_,_,_,_]) [1,2,3,4,5,6,7,8,9,10,11,12] rfl rfl
     refine tAk hm [1,2,3,5,6,7,8,9,10,11] rfl λhS=>?_
     obtain ⟨bH,bJ,rfl,d1⟩:=kT (hm.ow_rep 4 rfl)
     refine tP rfl (λw=>yG rfl (kr (vs:=[(0,(nV 6)),(2,(sV ax 0 1 1)),(3,(.slice bH aS.length bJ))]) (cs:=#[nV 6,(tV (mkS [])),sV ax 0 1 1,.slice bH aS.length bJ,.slice none 0 0]) rfl rfl (by kernel_rfl))) (tO (tf rfl rfl (λa hf=>kS (vs:=#[(0,(.agg #[nV aA.1.op,(tV aA.1.name),aD,aC,aF])),(1,(.agg #[nV 6,(tV (mkS [])),sV ax 0 1 1,.slice bH aS.length bJ,.slice none 0 0]))]) (cs:=[nV aA.1.op,(tV aA.1.name),aD,aC,aF,nV 6,(tV (mkS [])),sV ax 0 1 1,.slice bH aS.length bJ,.slice none 0 0]) mZ hf hm rfl rfl (by kernel_rfl) rfl rfl) ?_))
     rintro _ w ⟨cu,rfl,hm⟩
     replace hm:=hm.els_nil (α:=kN)
     replace hm:=hm.nilow (α:=kN)
     replace hm:=(oX 6 (mkS []) hm 3 7 0 rfl).pk (L':=[_,_,_,_,_,_,_,_,_,_,_,_,_]) [1,2,3,4,5,6,8,9,10,11,12,13,14] rfl rfl
     replace hm:=(hm.els_cons 0 2 (by decide) rfl rfl).pk (L':=[_,_,_,_,_,_,_,_,_,_,_,_]) [0,1,3,4,5,6,7,8,9,10,11,12] rfl rfl
     replace hm:=(ta aA.1 hm 7 8 9 rfl).pk (L':=[_,_,_,_,_,_,_,_,_,_]) [0,1,2,3,4,5,6,7,10,11] rfl rfl
     replace hm:=(hm.els_cons 0 7 (by decide) rfl rfl).pk (L':=[_,_,_,_,_,_,_,_,_]) [0,1,2,3,4,5,6,8,9] rfl rfl
     replace hm:=(hm.lit_els 1 0 (by decide) rfl rfl rfl rfl).pk (L':=[_,_,_,_,_,_,_,_]) [1,2,3,4,5,6,7,8] rfl rfl
     exact tAn rfl (tP rfl (λw=>yA rfl) (tE (gZ λa hf=>⟨sV cu 0 2 2,hf.sb rfl,hm.pk [0,2,3,7] rfl rfl⟩)))
    repeat clear hm
    rintro aM a w ⟨aa,hf,hm⟩
    exact gv hf (gRt (gr1 results145 rfl ⟨aa,aJ,rfl,hm.pk [1,2,0,3] rfl rfl⟩))
theorem uj (w0:World) (hz:kX) (g:lG) (bp100:Nat) (bp0:Nat) (v1p:Value) (h1p:GT.rep hz [v1p] g.fns) (v2p:Value) (h2p:GT.rep hz [v2p] g.vars) (gRd:kR) (v3p:Value) (h3p:GT.rep hz [v3p] gRd.b) (deep:Int) (hm0:Mem w0 hz w0 [blk bp0 [(pV bp100),v1p,v2p,nV g.next_,nV g.left] 109,blk bp100 [v3p,nV gRd.p] 86]) (r:(List kN) × lG × kR) (hq:mX g gRd deep=some r):Con Tryz.prog 108 [(pV bp0),nV deep] w0 (λv w'=>∃ (x1:Value) (x3:Value),v=x1∧Mem w0 hz w' [blk bp0 [(pV bp100),v1p,x3,nV r.2.1.next_,nV r.2.1.left] 109,blk bp100 [v3p,nV r.2.2.p] 86,ow [x1] r.1,opt v2p g.vars x3 r.2.1.vars]):=(tp ).1 g gRd deep r hq w0 hz bp100 bp0 v1p h1p v2p h2p v3p h3p hm0
theorem qv (w0:World) (hz:kX) (g:lG) (bp100:Nat) (bp0:Nat) (v1p:Value) (h1p:GT.rep hz [v1p] g.fns) (v2p:Value) (h2p:GT.rep hz [v2p] g.vars) (gRd:kR) (v3p:Value) (h3p:GT.rep hz [v3p] gRd.b) (name:Str) (params:Int) (hm0:Mem w0 hz w0 [blk bp0 [(pV bp100),v1p,v2p,nV g.next_,nV g.left] 109,blk bp100 [v3p,nV gRd.p] 86]) :
    mE Tryz.prog 76 [(pV bp0),(tV name),nV params] w0 (pD g gRd name params) λr v w'=>∃ (x1:Value) (x2:Value) (x4:Value),v=(.agg #[(tV r.1.name),x1,x2])∧Mem w0 hz w' [blk bp0 [(pV bp100),v1p,x4,nV r.2.1.next_,nV r.2.1.left] 109,blk bp100 [v3p,nV r.2.2.p] 86,ow [x1] r.1.params,ow [x2] r.1.body,opt v2p g.vars x4 r.2.1.vars]:=by
  unfold pD
  refine mR func76 rfl λr=>?_
  have hm:=hm0
  replace hm:=hm.opt_new v2p g.vars
  refine gS (gR (gAl hm zeroValue45 rfl λaH w hm=>gE (gS (gR (gM rfl (gf rfl (λa hf=>kS (vs:=#[(0,(tV (mkS [97]))),(1,(tV (mkS [98]))),(2,(tV (mkS [99])))]) (cs:=[(tV (mkS [97])),(tV (mkS [98])),(tV (mkS [99]))]) ox hf hm rfl rfl (by kernel_rfl) rfl rfl) ?_))))))
  rintro _ w ⟨aR,rfl,hm⟩
  replace hm:=hm.lit (xs:=([(mkS [97]),(mkS [98]),(mkS [99])]:List Str)) 0 rfl rfl rfl rfl
  refine gM rfl (gb λaO aS=>?_)
  obtain ⟨aT,aU⟩:=te.1 aS
  have aV:=(hm.ow_rep 0 rfl)
  obtain ⟨aP,aQ⟩:∃ nv,nv=wK (GT.sz (Str)) (sV aR 0 3 3) (0:Int).toNat (params:Int).toNat:=⟨_,rfl⟩
  refine gY (yG rfl (ar4 aQ (bh3 (α:=Str) oG aV rfl rfl rfl aT _))) (gY (yG rfl (kj rfl rfl)) (gF p9 rfl ?_))
  replace hm:=hm.imp (c':=ow [aP] aO) 0 rfl (λF h0=>by rw [aQ,← aU];exact zp h0 (by omega) (by omega))
  replace hm:=(hm.opt_own 2 0 (by decide) rfl rfl).pk (L':=[_,_,_,_]) [1,2,3,4] rfl rfl
  refine gS1 hm 2 sizeOf42 (ki (hm.opt_rep 1 rfl h2p)) rfl λw hm=>gE (gS (gR (gM rfl (gM rfl (gB rfl (gY (yG rfl (kj rfl rfl)) (gF v8 rfl (gS1 hm 2 sizeOf3 rfl rfl λw hm=>gE (gS (gR (gM rfl (gf rfl (λa hf=>nZ (α:=Str) ox hm rfl) ?_))))))))))))
  rintro an w hm
  refine gM rfl (gY (yG rfl (kj rfl rfl)) (gF p9 rfl (gL hm 3 isAgg42 rfl (gb λaC aX=>?_))))
  obtain ⟨aY,aZ⟩:=kb.1 aX
  refine gf rfl (λa hf=>lr 0 ox hf hm rfl (hm.opt_rep 2 rfl h2p) rfl rfl rfl aY) ?_
  rintro ao w hm
  rw [aZ] at hm
  obtain ⟨aD,aE,rfl,aq⟩:=kT (hm.ow_rep 0 rfl)
  refine gY (yG rfl (kr (vs:=[(0,(tV name)),(1,(.slice aD aC.length aE))]) (cs:=#[(tV name),.slice aD aC.length aE,.slice none 0 0]) rfl rfl (by kernel_rfl))) (gAl hm zeroValue45 rfl λaI w hm=>gSN hm 0 sizeOf45 (kL rfl (kL rfl (kL rfl ke))) rfl λw hm=>gE (gS (gR (gM rfl ?_))))
  obtain ⟨a8,hle,hm1,hsub,aa⟩:=hm.take2 (L1:=[_,_]) (L2:=[_,_,_,_]) [4,5] [0,1,2,3] (by decide) rfl rfl
  refine gCg rfl call108 (uj _ a8 (⟨g.fns,aO,w64 (params - 1),g.left⟩:lG) bp100 bp0 v1p (GT.mono hle h1p) aP (tr hle h2p (hsub 3 _ rfl)) gRd v3p (GT.mono hle h3p) 3 hm1 ) ?_
  rintro aA ar aG w ⟨_,aF,rfl,hB⟩
  replace hm:=aa _ _ hB;clear hB
  replace hm:=(hm.opt_comp 7 3 (by decide) rfl rfl).pk (L':=[_,_,_,_,_,_,_]) [0,1,2,4,5,6,7] rfl rfl
  refine gF oE rfl (gS1 hm 3 sizeOf43 (ki (hm.ow_rep 2 rfl)) rfl λw hm=>gE (gS (gS (gJ hm (λaJ=>[(0,(pV bp0)),(6,(pV aH)),(7,(pV aI)),(42,(.bool (aJ.2)))]) (λaJ=>[blk bp0 [(pV bp100),v1p,aF,nV aA.2.1.next_,nV aA.2.1.left] 109,blk bp100 [v3p,nV aJ.1] 86,opt v2p g.vars aF aA.2.1.vars,blk aH [(tV (mkS [])),.slice none 0 0,.slice none 0 0] 45,blk aI [(tV name),.slice aD aC.length aE,aG] 45,ow [.slice aD aC.length aE] aC,ow [aG] aA.1]) (λaJ=>?_) ?_))))
  ·refine gR (gM rfl (gY (yG rfl (kj rfl rfl)) (gF rh rfl (gL hm 0 isAgg3 rfl (gB rfl (gM rfl (gsd 35 rfl (λab=>?_) λab=>?_)))))))
   ·refine gM rfl (gY (yG rfl (kj rfl rfl)) (gF oK rfl (gL hm 0 isAgg40 rfl ?_)))
    obtain ⟨ac,hle,hm1,hsub,ae⟩:=hm.take2 (L1:=[_]) (L2:=[_,_,_,_,_,_]) [1] [0,2,3,4,5,6] (by decide) rfl rfl
    refine gCg rfl call39 (ka _ ac (⟨gRd.b,aA.2.2.p⟩:kR) bp100 v3p (GT.mono hle h3p) 4 hm1 ) ?_
    rintro au av aw w ⟨rfl,hB⟩
    replace hm:=ae _ _ hB;clear hB
    exact gB rfl (gKt rfl (gE (gz hm [1,0,6,5,3,4,2] rfl)))
   exact gO rfl (gO rfl (gO rfl (gO rfl (gO rfl (gO rfl (gKf rfl (gE (gz hm [0,1,6,5,3,4,2] rfl))))))))
  repeat clear hm
  intro aJ w hm
  refine gJg (λaK a w=>∃ (aM:Value),St 61 [(6,(pV aH)),(7,(pV aI))] w0 hz [blk aH [(tV (mkS [])),.slice none 0 0,.slice none 0 0] 45,blk aI [(tV name),.slice aD aC.length aE,aM] 45,ow [.slice aD aC.length aE] aC,ow [aM] aK.1,blk bp0 [(pV bp100),v1p,aF,nV aA.2.1.next_,nV aK.2.2] 109,blk bp100 [v3p,nV aK.2.1] 86,opt v2p g.vars aF aA.2.1.vars] a w) (λaK=>?_) ?_
  ·refine gs 42 rfl (λaf=>?_) λaf=>?_
   ·refine gct rfl (gS (gR (gM rfl (gM rfl (gY (yG rfl (kj rfl rfl)) (gF rh rfl (gL hm 0 isAgg3 rfl (gB rfl (gY (yG rfl (kj rfl rfl)) (gF rh rfl (gS1 hm 0 sizeOf3 rfl rfl fun w hm => gE (gW (.p 0 (.p 2 (.q 1 (.e 3 (.e 4 (.p 5 (.e 6 (.e 7 (.p 8 (.e 9 .fin .nil)) .nil) .nil)) .nil) .nil)))) [3, 4, 6] [0, 2, 5, 8] hm [0, 2, 3, 4, 5, 6] [blk bp0 [(pV bp100), v1p, aF, nV aA.2.1.next_, nV (w64 (aA.2.1.left - 1))] 109, opt v2p g.vars aF aA.2.1.vars, blk aH [(tV (mkS [])), .slice none 0 0, .slice none 0 0] 45, blk aI [(tV name), .slice aD aC.length aE, aG] 45, ow [.slice aD aC.length aE] aC, ow [aG] aA.1] rfl mxo (by kernel_rfl) (fun _ _ _ h => h.2) fun w hm hS => tP rfl (fun w => yF oE rfl) (tP rfl (fun w => yM rfl) (tQ rfl hS (fun w hm => yL hm 3 isAgg43 rfl) (tO (gb fun aB ag => ?_))))))))))))))))
    obtain ⟨ah,hle,hm1,hsub,ai⟩:=hm.take2 (L1:=[_]) (L2:=[_,_,_,_,_,_]) [1] [0,2,3,4,5,6] (by decide) rfl rfl
    refine tf rfl rfl (λa hf=>lK hf rfl call109 rfl (mH _ ah (⟨g.fns,aA.2.1.vars,aA.2.1.next_,w64 (aA.2.1.left - 1)⟩:lG) bp100 bp0 v1p (GT.mono hle h1p) aF (tr hle h2p (hsub 1 _ rfl)) (tv (hsub 0 _ rfl)) (⟨gRd.b,aJ.1⟩:kR) v3p (GT.mono hle h3p) 2 hm1  _ ag)) ?_
    rintro ax w ⟨aN,rfl,hB⟩
    replace hm:=ai _ _ hB;clear hB
    refine tAk hm [2,3,4,5,6,7] rfl λhS=>tO (tf rfl rfl (λa hf=>kS (vs:=#[(0,(.agg #[nV aB.1.op,nV aB.1.n_,(tV aB.1.name),aN]))]) (cs:=[nV aB.1.op,nV aB.1.n_,(tV aB.1.name),aN]) na hf hm rfl rfl (by kernel_rfl) rfl rfl) ?_)
    rintro _ w ⟨aL,rfl,hm⟩
    replace hm:=hm.els_nil (α:=kK)
    replace hm:Mem w0 hz _ [els [] ([]:List kK),blk aL [nV aB.1.op,nV aB.1.n_,(tV aB.1.name),aN] 80,blk bp100 [v3p,nV aB.2.p] 86,ow [nV aB.1.op,nV aB.1.n_,(tV aB.1.name),aN] (aB.1:kK),blk bp0 [(pV bp100),v1p,aF,nV aA.2.1.next_,nV (w64 (aA.2.1.left - 1))] 109,opt v2p g.vars aF aA.2.1.vars,blk aH [(tV (mkS [])),.slice none 0 0,.slice none 0 0] 45,blk aI [(tV name),.slice aD aC.length aE,aG] 45,ow [.slice aD aC.length aE] aC,ow [aG] aA.1]:=ly aB.1 hm 3 rfl
    replace hm:=(hm.els_cons 0 3 (by decide) rfl rfl).pk (L':=[_,_,_,_,_,_,_,_,_]) [0,1,2,4,5,6,7,8,9] rfl rfl
    replace hm:=(hm.lit_els 1 0 (by decide) rfl rfl rfl rfl).pk (L':=[_,_,_,_,_,_,_,_]) [1,2,3,4,5,6,7,8] rfl rfl
    refine tAk hm [2,3,4,5,6,7] rfl λhS=>tP rfl (λw=>yG rfl (kr (vs:=[(0,(nV 7)),(2,(sV aL 0 1 1))]) (cs:=#[nV 7,(tV (mkS [])),sV aL 0 1 1,.slice none 0 0,.slice none 0 0]) rfl rfl (by kernel_rfl))) (tO (tf rfl rfl (λa hf=>kS (vs:=#[(0,(.agg #[nV 7,(tV (mkS [])),sV aL 0 1 1,.slice none 0 0,.slice none 0 0]))]) (cs:=[nV 7,(tV (mkS [])),sV aL 0 1 1,.slice none 0 0,.slice none 0 0]) mZ hf hm rfl rfl (by kernel_rfl) rfl rfl) ?_))
    rintro _ w ⟨ay,rfl,hm⟩
    replace hm:=hm.els_nil (α:=kN)
    replace hm:=hm.nilow (α:=kN)
    replace hm:=hm.nilow (α:=kN)
    replace hm:=(oX 7 (mkS []) hm 4 1 0 rfl).pk (L':=[_,_,_,_,_,_,_,_,_,_]) [2,3,4,5,6,7,8,9,10,11] rfl rfl
    replace hm:=(hm.els_cons 0 2 (by decide) rfl rfl).pk (L':=[_,_,_,_,_,_,_,_,_]) [0,1,3,4,5,6,7,8,9] rfl rfl
    replace hm:=(hm.lit_els 1 0 (by decide) rfl rfl rfl rfl).pk (L':=[_,_,_,_,_,_,_,_]) [1,2,3,4,5,6,7,8] rfl rfl
    refine tAk hm [2,3,4,5,6,7] rfl λhS=>tO (gb λaz aj=>?_)
    obtain ⟨ak,al⟩:=kb.1 aj
    replace hm:=(hm.both 7 0 (by decide) rfl rfl).pk (L':=[_,_,_,_,_,_,_]) [1,2,3,4,5,6,7] rfl rfl
    refine tf rfl rfl (λa hf=>lp (xs:=aA.1) (ys:=([(⟨7,(mkS []),([aB.1]:List kK),[],[]⟩:kN)]:List kN)) 6 mZ hf hm rfl rfl rfl rfl ak) ?_
    rintro am w hm
    rw [al] at hm
    refine tAn rfl (tP rfl (λw=>yF oE rfl) (tO (tf0 rfl rfl (λa hf=>nP 4 hf hm rfl sizeOf43 rfl rfl rfl (ki (hm.ow_rep 6 rfl)) rfl) ?_)))
    rintro _ w hm
    exact tAn rfl (tE (gZ λa hf=>⟨am,hf.sb rfl,hm.pk [3,4,5,6,1,0,2] rfl rfl⟩))
   exact gcf rfl (gSk (gZ λa hf=>⟨aG,hf.sb rfl,hm.pk [3,4,5,6,0,1,2] rfl rfl⟩))
  repeat clear hm
  rintro aK a w ⟨aM,hf,hm⟩
  exact gv hf (gS (gR (gY (yn (hm.blk_at 1 rfl) isAgg45 sizeOf45 rfl) (gSN hm 0 sizeOf45 (kL rfl (kL rfl (kL (ki (hm.ow_rep 3 rfl)) ke))) rfl λw hm=>gE (gRt (grc 0 results76 hm rfl isAgg45 sizeOf45 ⟨.slice aD aC.length aE,aM,aF,rfl,hm.pk [4,5,2,3,6] rfl rfl⟩))))))
theorem pJ (w0:World) (n_:Int) (low:Int) (high:Int) :
    mE Tryz.prog 56 [nV n_,nV low,nV high] w0 (pC n_ low high) λr v w'=>v=(.bool (r))∧Below w0.heap.size w0 w':=by
  unfold pC
  refine mR func56 rfl λr=>?_
  have hm:=Mem.start w0
  refine gS (gR (gA rfl (gE (gS (gJ hm (λaA=>[(6,(.bool (aA)))]) (λaA=>[]) (λaA=>?_) ?_)))))
  ·refine gR (gM rfl (gM rfl (gB rfl (gM rfl (gsd 10 rfl (λaB=>?_) λaB=>?_)))))
   ·exact gM rfl (gM rfl (gB rfl (gKt rfl (gA rfl (gE (gz hm [] rfl))))))
   exact gO rfl (gO rfl (gO rfl (gKf rfl (gA rfl (gE (gz hm [] rfl))))))
  repeat clear hm
  intro aA w hm
  exact gRt (gr1 results56 rfl ⟨rfl,hm.below⟩)
theorem y9 (w0:World) (s_:Str) (c_:UInt8) :
    mE Tryz.prog 112 [(tV s_),(.int .u8 ((c_).toNat:Int))] w0 (rM s_ c_) λr v w'=>v=(nV r)∧Below w0.heap.size w0 w':=by
  unfold rM
  refine mR func112 rfl λr=>?_
  have hm:=Mem.start w0
  refine gS (gR (gA rfl (gE (gS (gS (gR (gA rfl (gE (gBk (gNf hm (λaA aB=>[(0,(tV s_)),(1,(.int .u8 ((c_).toNat:Int))),(5,(nV aA))]) (λaA aB=>[]) [] rfl ?_ ?_))))))))))
  ·repeat clear hm
   intro aI aC aA aB w hm aJ aK aL aD
   refine gS (gS (gR (gM rfl (gM rfl (gY (yG rfl (mD (p:=s_) underlying9 rfl rfl)) ?_)))))
   have aM:=(s_).h
   refine gB rfl (gE (go _ 9 rfl (decide_eq_true (by omega)) (gct rfl (gSk (gS (gBk (gS (gR (gM rfl (gM rfl (gg λaE aF aG=>gY (yG rfl (mo (p:=s_) underlying9 rfl rfl rfl aF aG)) (gM rfl (gY (yG rfl (uy (b:=aE) (c:=c_) rfl rfl rfl)) (gE (gsd 16 rfl (λaH=>?_) λaH=>?_)))))))))))))))
   ·exact gct rfl (gS (gR (gM rfl (gA rfl (gE (gRt (gLr aD aC (gr1 results112 rfl ⟨rfl,hm.below⟩))))))))
   exact gcf rfl (gSk (gR (gM rfl (gP (by omega) (by omega) rfl (gA rfl (gE (gze hm [] rfl)))))))
  repeat clear hm
  intro aN aO w hm aP aQ
  refine gS (gS (gR (gM rfl (gM rfl (gY (yG rfl (mD (p:=s_) underlying9 rfl rfl)) ?_)))))
  have aR:=(s_).h
  exact gB rfl (gE (go _ 9 rfl (decide_eq_false (by omega)) (gcf rfl (gXt (gHh (gS (gR (gA rfl (gE (gRt (gr1 results112 rfl ⟨rfl,hm.below⟩)))))))))))
theorem py (w0:World) (b_:UInt8) :
    mE Tryz.prog 80 [(.int .u8 ((b_).toNat:Int))] w0 (mO b_) λr v w'=>v=(nV r)∧Below w0.heap.size w0 w':=by
  unfold mO
  refine mR func80 rfl λr=>?_
  have hm:=Mem.start w0
  refine gS (gR (gA rfl (gE (gS (gBk (gS (gJ hm (λaA=>[(0,(.int .u8 ((b_).toNat:Int))),(3,(.bool (aA)))]) (λaA=>[]) (λaA=>?_) ?_)))))))
  ·refine gR (gM rfl (gY (yG rfl (bh1 (b:=b_) (c:=(97:UInt8)) rfl rfl rfl)) (gM rfl (gsd 6 rfl (λaD=>?_) λaD=>?_))))
   ·exact gM rfl (gY (yG rfl (xd (b:=b_) (c:=(122:UInt8)) rfl rfl rfl)) (gKt rfl (gA rfl (gE (gz hm [] rfl)))))
   exact gO rfl (gO rfl (gKf rfl (gA rfl (gE (gz hm [] rfl)))))
  repeat clear hm
  intro aA w hm
  refine gs 3 rfl (λaE=>?_) λaE=>?_
  ·exact gct rfl (gS (gR (gA rfl (gE (gRt (gr1 results80 rfl ⟨rfl,hm.below⟩))))))
  refine gcf rfl (gS (gJ hm (λaB=>[(0,(.int .u8 ((b_).toNat:Int))),(10,(.bool (aB)))]) (λaB=>[]) (λaB=>?_) ?_))
  ·refine gR (gM rfl (gY (yG rfl (bh1 (b:=b_) (c:=(48:UInt8)) rfl rfl rfl)) (gM rfl (gsd 13 rfl (λaF=>?_) λaF=>?_))))
   ·exact gM rfl (gY (yG rfl (xd (b:=b_) (c:=(57:UInt8)) rfl rfl rfl)) (gKt rfl (gA rfl (gE (gz hm [] rfl)))))
   exact gO rfl (gO rfl (gKf rfl (gA rfl (gE (gz hm [] rfl)))))
  repeat clear hm
  intro aB w hm
  refine gs 10 rfl (λaG=>?_) λaG=>?_
  ·exact gct rfl (gS (gR (gA rfl (gE (gRt (gr1 results80 rfl ⟨rfl,hm.below⟩))))))
  refine gcf rfl (gS (gR (gM rfl (gC hm rfl call112 (y9 _ (mkS [40,41,123,125,59,44,43,45,42,47,37,60,61,38,33,64]) b_) λaK aL w hm=>gB rfl (gA rfl (gE (gsd 17 rfl (λaH=>?_) λaH=>?_)))))))
  ·exact gct rfl (gS (gR (gA rfl (gE (gRt (gr1 results80 rfl ⟨rfl,hm.below⟩))))))
  refine gcf rfl (gS (gJ hm (λaC=>[(21,(.bool (aC)))]) (λaC=>[]) (λaC=>?_) ?_))
  ·refine gR (gM rfl (gY (yG rfl (uy (b:=b_) (c:=(32:UInt8)) rfl rfl rfl)) (gM rfl (gsd 24 rfl (λaI=>?_) λaI=>?_))))
   ·exact gO rfl (gO rfl (gKt rfl (gA rfl (gE (gz hm [] rfl)))))
   exact gM rfl (gY (yG rfl (uy (b:=b_) (c:=(10:UInt8)) rfl rfl rfl)) (gKf rfl (gA rfl (gE (gz hm [] rfl)))))
  repeat clear hm
  intro aC w hm
  refine gs 21 rfl (λaJ=>?_) λaJ=>?_
  ·exact gct rfl (gS (gR (gA rfl (gE (gRt (gr1 results80 rfl ⟨rfl,hm.below⟩))))))
  exact gcf rfl (gSk (gS (gR (gA rfl (gE (gRt (gr1 results80 rfl ⟨rfl,hm.below⟩)))))))
theorem ab6 (w0:World) (s_:Str) (class_:Int) :
    mE Tryz.prog 123 [(tV s_),nV class_] w0 (sZ s_ class_) λr v w'=>v=(.bool (r))∧Below w0.heap.size w0 w':=by
  unfold sZ
  refine mR func123 rfl λr=>?_
  have hm:=Mem.start w0
  refine gS (gR (gA rfl (gE (gS (gS (gR (gA rfl (gE (gBk (gNf hm (λaA aB=>[(0,(tV s_)),(1,(nV class_)),(5,(nV aA))]) (λaA aB=>[]) [] rfl ?_ ?_))))))))))
  ·repeat clear hm
   intro aI aC aA aB w hm aJ aK aL aD
   refine gS (gS (gR (gM rfl (gM rfl (gY (yG rfl (mD (p:=s_) underlying9 rfl rfl)) ?_)))))
   have aM:=(s_).h
   refine gB rfl (gE (go _ 9 rfl (decide_eq_true (by omega)) (gct rfl (gSk (gS (gBk (gS (gR (gM rfl (gM rfl (gg λaE aF aG=>gY (yG rfl (mo (p:=s_) underlying9 rfl rfl rfl aF aG)) (gC hm rfl call80 (py _ aE) λaN aO w hm=>gM rfl (gB rfl (gE (gsd 17 rfl (λaH=>?_) λaH=>?_)))))))))))))))
   ·exact gct rfl (gS (gR (gA rfl (gE (gRt (gLr aD aC (gr1 results123 rfl ⟨rfl,hm.below⟩)))))))
   exact gcf rfl (gSk (gR (gM rfl (gP (by omega) (by omega) rfl (gA rfl (gE (gze hm [] rfl)))))))
  repeat clear hm
  intro aP aQ w hm aR aS
  refine gS (gS (gR (gM rfl (gM rfl (gY (yG rfl (mD (p:=s_) underlying9 rfl rfl)) ?_)))))
  have aT:=(s_).h
  exact gB rfl (gE (go _ 9 rfl (decide_eq_false (by omega)) (gcf rfl (gXt (gHh (gS (gR (gM rfl (gY (yG rfl (mD (p:=s_) underlying9 rfl rfl)) (gB rfl (gA rfl (gE (gRt (gr1 results123 rfl ⟨rfl,hm.below⟩))))))))))))))
theorem xm (w0:World) :
    mE Tryz.prog 111 [] w0 (qm ) λr v w'=>∃ (x1:Value),v=x1∧Mem w0 (hp w0) w' [ow [x1] r]:=by
  unfold qm
  refine mR func111 rfl λr=>?_
  have hm:=Mem.start w0
  refine gS (gR (gA rfl (gE (gS (gR (gf rfl (λa hf=>kS (vs:=#[(0,(tV (mkS [102,110]))),(1,(tV (mkS [108,101,116]))),(2,(tV (mkS [115,97,121]))),(3,(tV (mkS [112,117,116]))),(4,(tV (mkS [105,102]))),(5,(tV (mkS [101,108,115,101]))),(6,(tV (mkS [108,111,111,112]))),(7,(tV (mkS [98,97,99,107]))),(8,(tV (mkS [100,111])))]) (cs:=[(tV (mkS [102,110])),(tV (mkS [108,101,116])),(tV (mkS [115,97,121])),(tV (mkS [112,117,116])),(tV (mkS [105,102])),(tV (mkS [101,108,115,101])),(tV (mkS [108,111,111,112])),(tV (mkS [98,97,99,107])),(tV (mkS [100,111]))]) ox hf hm rfl rfl (by kernel_rfl) rfl rfl) ?_))))))
  rintro _ w ⟨aA,rfl,hm⟩
  replace hm:=hm.lit (xs:=([(mkS [102,110]),(mkS [108,101,116]),(mkS [115,97,121]),(mkS [112,117,116]),(mkS [105,102]),(mkS [101,108,115,101]),(mkS [108,111,111,112]),(mkS [98,97,99,107]),(mkS [100,111])]:List Str)) 0 rfl rfl rfl rfl
  exact gA rfl (gE (gRt (gr1 results111 rfl ⟨sV aA 0 9 9,rfl,hm.pk [0] rfl rfl⟩)))
theorem tA (w0:World) (s_:Str) :
    mE Tryz.prog 114 [(tV s_)] w0 (qy s_) λr v w'=>v=(.bool (r))∧Below w0.heap.size w0 w':=by
  unfold qy
  refine mR func114 rfl λr=>?_
  have hm:=Mem.start w0
  refine gS (gR (gA rfl (gE (gS (gR (gCg rfl call111 (xm _ ) ?_))))))
  rintro aA aL aM w ⟨_,rfl,hB⟩
  replace hm:=hm.give hB;clear hB
  refine gA rfl (gE (gS (gS (gR (gA rfl (gE ?_))))))
  obtain ⟨aD,aE,rfl,aN⟩:=kT (hm.ow_rep 0 rfl)
  refine gBk (gNf hm (λaB aF=>[(0,(tV s_)),(3,(.slice aD aA.length aE)),(4,(nV aB))]) (λaB aF=>[ow [.slice aD aA.length aE] aA]) [0] rfl ?_ ?_)
  ·repeat clear hm
   intro aO aH aB aF w hm aP aQ aR aI
   refine gS (gS (gR (gM rfl (gM rfl (gY (yV oG rfl) (gB rfl (gE (go _ 9 rfl (decide_eq_true (by omega)) (gct rfl (gSk (gS (gBk (gS (gR (gM rfl (gM rfl (gg λaG aJ aC=>?_)))))))))))))))))
   obtain ⟨aS,aT,aU,he⟩:=nb (hm.ow_rep 0 rfl) aC
   obtain ⟨rfl,_,rfl⟩:=sl3 he
   refine gI oG aJ (lO aC) rfl (gY (yl isAgg9 ((lj (cs:=[(tV aG)]) (hm.ow_rep 0 rfl) aC rfl).cell (j:=0) rfl) rfl) (gM rfl (gY (yG rfl (tG (p:=aG) (q:=s_) rfl rfl rfl)) (gE (gsd 17 rfl (λaK=>?_) λaK=>?_)))))
   ·exact gct rfl (gS (gR (gA rfl (gE (gRt (gLr aI aH (gr1 results114 rfl ⟨rfl,hm.below⟩)))))))
   exact gcf rfl (gSk (gR (gM rfl (gP (by omega) (by omega) rfl (gA rfl (gE (gze hm [0] rfl)))))))
  repeat clear hm
  intro aV aX w hm aY aZ
  exact gS (gS (gR (gM rfl (gM rfl (gY (yV oG rfl) (gB rfl (gE (go _ 9 rfl (decide_eq_false (by omega)) (gcf rfl (gXt (gHh (gS (gR (gA rfl (gE (gRt (gr1 results114 rfl ⟨rfl,hm.below⟩)))))))))))))))))
theorem qQ (w0:World) (s_:Str) :
    mE Tryz.prog 96 [(tV s_)] w0 (ob s_) λr v w'=>v=(.bool (r))∧Below w0.heap.size w0 w':=by
  unfold ob
  refine mR func96 rfl λr=>?_
  have hm:=Mem.start w0
  refine gS (gR (gA rfl (gE (gS (gJ hm (λaA=>[(2,(.bool (aA)))]) (λaA=>[]) (λaA=>?_) ?_)))))
  ·refine gR (gM rfl (gC hm rfl call123 (ab6 _ s_ 1) λaD aE w hm=>gM rfl (gs 5 rfl (λaB=>?_) λaB=>?_)))
   ·refine gM rfl (gY (yG rfl (mD (p:=s_) underlying9 rfl rfl)) ?_)
    have aF:=(s_).h
    refine gB rfl (gKt rfl (gM rfl (gsd 10 rfl (λaC=>?_) λaC=>?_)))
    ·exact gM rfl (gC hm rfl call114 (tA _ s_) λaG aH w hm=>gN rfl (gKt rfl (gA rfl (gE (gz hm [] rfl)))))
    exact gO rfl (gO rfl (gO rfl (gKf rfl (gA rfl (gE (gz hm [] rfl))))))
   exact gO rfl (gO rfl (gO rfl (gKf rfl (gM rfl (gO rfl (gO rfl (gO rfl (gKf rfl (gA rfl (gE (gz hm [] rfl)))))))))))
  repeat clear hm
  intro aA w hm
  exact gRt (gr1 results96 rfl ⟨rfl,hm.below⟩)
theorem zr (w0:World) (op:Int) :
    mE Tryz.prog 137 [nV op] w0 (ru op) λr v w'=>v=(nV r)∧Below w0.heap.size w0 w':=by
  unfold ru
  refine mR func137 rfl λr=>?_
  have hm:=Mem.start w0
  refine gS (gR (gA rfl (gE (gS (gS (gR (gM rfl (gB rfl (gE (gsd 4 rfl (λaA=>?_) λaA=>?_))))))))))
  ·exact gct rfl (gS (gR (gA rfl (gE (gRt (gr1 results137 rfl ⟨rfl,hm.below⟩))))))
  exact gcf rfl (gSk (gS (gR (gA rfl (gE (gRt (gr1 results137 rfl ⟨rfl,hm.below⟩)))))))
theorem aa7 (w0:World) (op:Int) :
    mE Tryz.prog 172 [nV op] w0 (ry op) λr v w'=>v=(.tuple #[nV r.1,nV r.2])∧Below w0.heap.size w0 w':=by
  unfold ry
  refine mR func172 rfl λr=>?_
  have hm:=Mem.start w0
  refine gS (gR (gA rfl (gA rfl (gE (gS (gS (gR (gM rfl (gE (gBk (gS (gS (gR (gB rfl (gA rfl (gE (gJ hm (λaA=>[(4,(nV op)),(5,(.bool (aA)))]) (λaA=>[]) (λaA=>?_) ?_)))))))))))))))))
  ·refine gsd 5 rfl (λaC=>?_) λaC=>?_
   ·exact gct rfl (gSk (gz hm [] rfl))
   exact gcf rfl (gR (gB rfl (gA rfl (gE (gz hm [] rfl)))))
  repeat clear hm
  intro aA w hm
  refine gs 5 rfl (λaD=>?_) λaD=>?_
  ·exact gct rfl (gS (gR (gA rfl (gA rfl (gE (gRt (gr2 results172 rfl ⟨rfl,hm.below⟩)))))))
  refine gcf rfl (gS (gS (gR (gB rfl (gA rfl (gE (gJ hm (λaB=>[(4,(nV op)),(8,(.bool (aB)))]) (λaB=>[]) (λaB=>?_) ?_)))))))
  ·refine gsd 8 rfl (λaE=>?_) λaE=>?_
   ·exact gct rfl (gSk (gz hm [] rfl))
   exact gcf rfl (gR (gB rfl (gA rfl (gE (gz hm [] rfl)))))
  repeat clear hm
  intro aB w hm
  refine gs 8 rfl (λaF=>?_) λaF=>?_
  ·exact gct rfl (gS (gR (gA rfl (gA rfl (gE (gRt (gr2 results172 rfl ⟨rfl,hm.below⟩)))))))
  refine gcf rfl (gS (gR (gB rfl (gA rfl (gE (gsd 11 rfl (λaG=>?_) λaG=>?_))))))
  ·exact gct rfl (gS (gR (gA rfl (gA rfl (gE (gRt (gr2 results172 rfl ⟨rfl,hm.below⟩)))))))
  exact gcf rfl (gSk (gS (gR (gA rfl (gA rfl (gE (gRt (gr2 results172 rfl ⟨rfl,hm.below⟩))))))))
theorem yg  : ∀ (e:kK) (deep:Int) (r:Bool),oa e deep=some r→∀ (w0:World) (v1:Value) (h1:GT.rep (hp w0) [v1] e.kids),Con Tryz.prog 157 [(.agg #[nV e.op,nV e.n_,(tV e.name),v1]),nV deep] w0 (λv w'=>v=(.bool (r))∧Below w0.heap.size w0 w'):=by
  refine oa.partial_correctness  (motive:=λe deep r=>∀ (w0:World) (v1:Value) (h1:GT.rep (hp w0) [v1] e.kids),Con Tryz.prog 157 [(.agg #[nV e.op,nV e.n_,(tV e.name),v1]),nV deep] w0 (λv w'=>v=(.bool (r))∧Below w0.heap.size w0 w')) ?_
  intro rec_ ih_ e deep r hq w0 v1 h1
  have spec_l2Form_rec:∀ (w0:World) (e:kK) (v1:Value) (h1:GT.rep (hp w0) [v1] e.kids) (deep:Int) (r:Bool) (hq:rec_ e deep=some r),Con Tryz.prog 157 [(.agg #[nV e.op,nV e.n_,(tV e.name),v1]),nV deep] w0 (λv w'=>v=(.bool (r))∧Below w0.heap.size w0 w'):=λw0 e v1 h1 deep r hq=>ih_ e deep r hq w0 v1 h1
  refine pO (ρ:=Bool) (R:=λr v w'=>v=(.bool (r))∧Below w0.heap.size w0 w') func157 rfl hq ?_
  have hm:=Mem.start w0
  refine gS (gR (gBx hm rfl λaA w hm=>gA rfl (gE (gS (gR (gF mP rfl (gL hm 0 isAgg3 rfl (gC hm rfl call172 (aa7 _ e.op) λaG ac w hm=>gM rfl (gX rfl (gX rfl (gA rfl (gA rfl (gE (gS (gS (gJ hm (λaB=>[(1,(nV deep)),(2,(pV aA)),(31,(.bool (aB)))]) (λaB=>[blk aA [nV e.op,nV e.n_,(tV e.name),v1] 80]) (λaB=>?_) ?_))))))))))))))))
  ·refine gR (gM rfl (gB rfl (gM rfl (gsd 17 rfl (λaI=>?_) λaI=>?_))))
   ·exact gO rfl (gO rfl (gO rfl (gO rfl (gKt rfl (gM rfl (gO rfl (gO rfl (gO rfl (gO rfl (gO rfl (gO rfl (gO rfl (gKt rfl (gE (gz hm [0] rfl)))))))))))))))
   refine gF mP rfl (gL hm 0 isAgg3 rfl (gC hm rfl call56 (pJ _ e.op 1 13) λae af w hm=>gN rfl (gKf rfl (gM rfl (gsn 23 rfl (λaJ=>?_) λaJ=>?_)))))
   ·exact gO rfl (gO rfl (gO rfl (gO rfl (gO rfl (gO rfl (gO rfl (gKt rfl (gE (gz hm [0] rfl)))))))))
   refine gF mJ rfl (gL hm 0 isAgg59 rfl ?_)
   obtain ⟨ag,ah,rfl,ai⟩:=kT h1
   exact gY (yV nL rfl) (gM rfl (gM rfl (gC hm rfl call56 (pJ _ (e.kids.length:Int) aG.1 aG.2) λaj ak w hm=>gN rfl (gKf rfl (gE (gz hm [0] rfl))))))
  repeat clear hm
  intro aB w hm
  refine gs 31 rfl (λaK=>?_) λaK=>?_
  ·exact gct rfl (gS (gR (gA rfl (gE (gRt (gr1 results157 rfl ⟨rfl,hm.below⟩))))))
  refine gcf rfl (gSk (gS (gJ hm (λaC=>[(1,(nV deep)),(2,(pV aA)),(7,(.bool (aC)))]) (λaC=>[blk aA [nV e.op,nV e.n_,(tV e.name),v1] 80]) (λaC=>?_) ?_)))
  ·refine gR (gF mP rfl (gL hm 0 isAgg3 rfl (gB rfl (gM rfl (gsd 35 rfl (λaL=>?_) λaL=>?_)))))
   ·exact gO rfl (gO rfl (gO rfl (gKt rfl (gA rfl (gE (gz hm [0] rfl))))))
   exact gF mP rfl (gL hm 0 isAgg3 rfl (gB rfl (gKf rfl (gA rfl (gE (gz hm [0] rfl))))))
  repeat clear hm
  intro aC w hm
  refine gS (gS (gJ hm (λaD=>[(1,(nV deep)),(2,(pV aA)),(69,(.bool (aD)))]) (λaD=>[blk aA [nV e.op,nV e.n_,(tV e.name),v1] 80]) (λaD=>?_) ?_))
  ·refine gR (gM rfl (gF q9 rfl (gL hm 0 isAgg9 rfl (gC hm rfl call96 (qQ _ e.name) λal am w hm=>gY (yG rfl (ao6 underlying4 rfl rfl rfl)) (gM rfl (gsd 45 rfl (λaM=>?_) λaM=>?_))))))
   ·exact gO rfl (gO rfl (gO rfl (gO rfl (gO rfl (gO rfl (gO rfl (gKt rfl (gM rfl (gO rfl (gO rfl (gO rfl (gO rfl (gKt rfl (gM rfl (gO rfl (gO rfl (gO rfl (gO rfl (gO rfl (gO rfl (gO rfl (gO rfl (gKt rfl (gE (gz hm [0] rfl)))))))))))))))))))))))))
   refine gM rfl (gN rfl (gM rfl (gsn 48 rfl (λaN=>?_) λaN=>?_)))
   ·refine gF q9 rfl (gL hm 0 isAgg9 rfl (gY (yG rfl (vp (p:=e.name) (q:=(mkS [])) rfl rfl rfl)) (gKt rfl (gKf rfl (gM rfl (gsd 54 rfl (λaO=>?_) λaO=>?_))))))
    ·exact gO rfl (gO rfl (gO rfl (gO rfl (gKt rfl (gM rfl (gO rfl (gO rfl (gO rfl (gO rfl (gO rfl (gO rfl (gO rfl (gO rfl (gKt rfl (gE (gz hm [0] rfl))))))))))))))))
    refine gF qe rfl (gL hm 0 isAgg3 rfl (gC hm rfl call56 (pJ _ e.n_ 0 255) λan ao w hm=>gN rfl (gKf rfl (gM rfl (gsn 60 rfl (λaP=>?_) λaP=>?_)))))
    ·exact gO rfl (gO rfl (gO rfl (gO rfl (gO rfl (gO rfl (gO rfl (gO rfl (gKt rfl (gE (gz hm [0] rfl))))))))))
    refine gF mP rfl (gL hm 0 isAgg3 rfl (gB rfl (gM rfl (gsd 64 rfl (λaQ=>?_) λaQ=>?_))))
    ·exact gF qe rfl (gL hm 0 isAgg3 rfl (gB rfl (gKt rfl (gKf rfl (gE (gz hm [0] rfl))))))
    exact gO rfl (gO rfl (gO rfl (gKf rfl (gKf rfl (gE (gz hm [0] rfl))))))
   refine gO rfl (gO rfl (gO rfl (gKf rfl (gKf rfl (gM rfl (gF qe rfl (gL hm 0 isAgg3 rfl (gC hm rfl call56 (pJ _ e.n_ 0 255) λaq ar w hm=>gN rfl (gKf rfl (gM rfl (gsn 60 rfl (λaR=>?_) λaR=>?_)))))))))))
   ·exact gO rfl (gO rfl (gO rfl (gO rfl (gO rfl (gO rfl (gO rfl (gO rfl (gKt rfl (gE (gz hm [0] rfl))))))))))
   refine gF mP rfl (gL hm 0 isAgg3 rfl (gB rfl (gM rfl (gsd 64 rfl (λaS=>?_) λaS=>?_))))
   ·exact gF qe rfl (gL hm 0 isAgg3 rfl (gB rfl (gKt rfl (gKf rfl (gE (gz hm [0] rfl))))))
   exact gO rfl (gO rfl (gO rfl (gKf rfl (gKf rfl (gE (gz hm [0] rfl))))))
  repeat clear hm
  intro aD w hm
  refine gs 69 rfl (λaT=>?_) λaT=>?_
  ·exact gct rfl (gS (gR (gA rfl (gE (gRt (gr1 results157 rfl ⟨rfl,hm.below⟩))))))
  refine gcf rfl (gSk (gS (gS (gR (gA rfl (gE (gBk (gNf hm (λaE aH=>[(1,(nV deep)),(2,(pV aA)),(8,(nV aE))]) (λaE aH=>[blk aA [nV e.op,nV e.n_,(tV e.name),v1] 80]) [0] rfl ?_ ?_))))))))
  ·repeat clear hm
   intro au aU aE aH w hm av aw ax aV
   refine gS (gS (gR (gM rfl (gF mJ rfl (gL hm 0 isAgg59 rfl ?_)))))
   obtain ⟨ay,az,rfl,bA⟩:=kT h1
   refine gY (yV nL rfl) (gB rfl (gE (go _ 74 rfl (decide_eq_true (by omega)) (gct rfl (gSk (gS (gBk (gS (gR (gF mJ rfl (gL hm 0 isAgg59 rfl (gM rfl (gg λaX aY aF=>?_)))))))))))))
   obtain ⟨bB,bC,bD,he⟩:=lU h1 aF
   obtain ⟨rfl,_,rfl⟩:=sl3 he
   obtain ⟨aZ,a8,aa⟩:=n0 h1 aF
   refine gI nL aY (lO aF) rfl (gY (yn (a8.mono hm.lez) isAgg80 sizeOf80 rfl) (gM rfl (gB rfl (gC hm rfl call157 (spec_l2Form_rec _ aX aZ (hm.now aa) (w64 (deep - 1))) λbE bF w hm=>gN rfl (gE (gsn 85 rfl (λab=>?_) λab=>?_))))))
   ·exact gct rfl (gS (gR (gA rfl (gE (gRt (gLr aV aU (gr1 results157 rfl ⟨rfl,hm.below⟩)))))))
   exact gcf rfl (gSk (gR (gM rfl (gP (by omega) (by omega) rfl (gA rfl (gE (gze hm [0] rfl)))))))
  repeat clear hm
  intro bG bH w hm bJ bK
  refine gS (gS (gR (gM rfl (gF mJ rfl (gL hm 0 isAgg59 rfl ?_)))))
  obtain ⟨bL,bM,rfl,bN⟩:=kT h1
  exact gY (yV nL rfl) (gB rfl (gE (go _ 74 rfl (decide_eq_false (by omega)) (gcf rfl (gXt (gHh (gS (gR (gA rfl (gE (gRt (gr1 results157 rfl ⟨rfl,hm.below⟩))))))))))))
theorem za (w0:World) (e:kK) (v1:Value) (h1:GT.rep (hp w0) [v1] e.kids) (deep:Int) (r:Bool) (hq:oa e deep=some r):Con Tryz.prog 157 [(.agg #[nV e.op,nV e.n_,(tV e.name),v1]),nV deep] w0 (λv w'=>v=(.bool (r))∧Below w0.heap.size w0 w'):=yg e deep r hq w0 v1 h1
theorem xc  : ∀ (e:kK) (r:Int),pN e=some r→∀ (w0:World) (v1:Value) (h1:GT.rep (hp w0) [v1] e.kids),Con Tryz.prog 158 [(.agg #[nV e.op,nV e.n_,(tV e.name),v1])] w0 (λv w'=>v=(nV r)∧Below w0.heap.size w0 w'):=by
  refine pN.partial_correctness  (motive:=λe r=>∀ (w0:World) (v1:Value) (h1:GT.rep (hp w0) [v1] e.kids),Con Tryz.prog 158 [(.agg #[nV e.op,nV e.n_,(tV e.name),v1])] w0 (λv w'=>v=(nV r)∧Below w0.heap.size w0 w')) ?_
  intro rec_ ih_ e r hq w0 v1 h1
  have spec_l2Parts_rec:∀ (w0:World) (e:kK) (v1:Value) (h1:GT.rep (hp w0) [v1] e.kids) (r:Int) (hq:rec_ e=some r),Con Tryz.prog 158 [(.agg #[nV e.op,nV e.n_,(tV e.name),v1])] w0 (λv w'=>v=(nV r)∧Below w0.heap.size w0 w'):=λw0 e v1 h1 r hq=>ih_ e r hq w0 v1 h1
  refine pO (ρ:=Int) (R:=λr v w'=>v=(nV r)∧Below w0.heap.size w0 w') func158 rfl hq ?_
  have hm:=Mem.start w0
  refine gS (gR (gBx hm rfl λaD w hm=>gA rfl (gE (gS (gR (gA rfl (gE (gS (gS (gR (gA rfl (gE (gBk (gNf hm (λaA aB=>[(1,(pV aD)),(3,(nV aB)),(4,(nV aA))]) (λaA aB=>[blk aD [nV e.op,nV e.n_,(tV e.name),v1] 80]) [0] rfl ?_ ?_))))))))))))))
  ·repeat clear hm
   intro _ _ aA aB w hm aJ aK aL _
   refine gS (gS (gR (gM rfl (gF mJ rfl (gL hm 0 isAgg59 rfl ?_)))))
   obtain ⟨aM,aN,rfl,aO⟩:=kT h1
   refine gY (yV nL rfl) (gB rfl (gE (go _ 9 rfl (decide_eq_true (by omega)) (gct rfl (gSk (gS (gBk (gR (gM rfl (gF mJ rfl (gL hm 0 isAgg59 rfl (gM rfl (gg λaE aF aC=>?_)))))))))))))
   obtain ⟨aP,aQ,aR,he⟩:=lU h1 aC
   obtain ⟨rfl,_,rfl⟩:=sl3 he
   obtain ⟨aG,aH,aI⟩:=n0 h1 aC
   exact gI nL aF (lO aC) rfl (gY (yn (aH.mono hm.lez) isAgg80 sizeOf80 rfl) (gC hm rfl call158 (spec_l2Parts_rec _ aE aG (hm.now aI)) λaS aT w hm=>gB rfl (gA rfl (gE (gR (gM rfl (gP (by omega) (by omega) rfl (gA rfl (gE (gze hm [0] rfl))))))))))
  repeat clear hm
  intro aU aV w hm aX aY
  refine gS (gS (gR (gM rfl (gF mJ rfl (gL hm 0 isAgg59 rfl ?_)))))
  obtain ⟨aZ,a8,rfl,aa⟩:=kT h1
  exact gY (yV nL rfl) (gB rfl (gE (go _ 9 rfl (decide_eq_false (by omega)) (gcf rfl (gXt (gHh (gS (gR (gM rfl (gA rfl (gE (gRt (gr1 results158 rfl ⟨rfl,hm.below⟩)))))))))))))
theorem yi (w0:World) (e:kK) (v1:Value) (h1:GT.rep (hp w0) [v1] e.kids) (r:Int) (hq:pN e=some r):Con Tryz.prog 158 [(.agg #[nV e.op,nV e.n_,(tV e.name),v1])] w0 (λv w'=>v=(nV r)∧Below w0.heap.size w0 w'):=xc e r hq w0 v1 h1
theorem wi (w0:World) (e:kK) (v1:Value) (h1:GT.rep (hp w0) [v1] e.kids) :
    mE Tryz.prog 138 [(.agg #[nV e.op,nV e.n_,(tV e.name),v1])] w0 (pa e) λr v w'=>v=(.bool (r))∧Below w0.heap.size w0 w':=by
  unfold pa
  refine mR func138 rfl λr=>?_
  have hm:=Mem.start w0
  refine gS (gR (gBx hm rfl λaC w hm=>gA rfl (gE (gS (gJ hm (λaA=>[(2,(.bool (aA)))]) (λaA=>[]) (λaA=>?_) ?_)))))
  ·refine gR (gY (yn (hm.blk_at 0 rfl) isAgg80 sizeOf80 rfl) (gC hm rfl call157 (za _ e v1 (hm.now h1) 6) λaD aE w hm=>gM rfl (gs 5 rfl (λaB=>?_) λaB=>?_)))
   ·exact gY (yn (hm.blk_at 0 rfl) isAgg80 sizeOf80 rfl) (gC hm rfl call158 (yi _ e v1 (hm.now h1)) λaF aG w hm=>gB rfl (gKt rfl (gA rfl (gE (gz hm [] rfl)))))
   exact gO rfl (gO rfl (gO rfl (gKf rfl (gA rfl (gE (gz hm [] rfl))))))
  repeat clear hm
  intro aA w hm
  exact gRt (gr1 results138 rfl ⟨rfl,hm.below⟩)
theorem xn  : (∀ (list:List kN) (deep:Int) (r:Bool),ny list deep=some r→∀ (w0:World) (v1:Value) (h1:GT.rep (hp w0) [v1] list),Con Tryz.prog 97 [v1,nV deep] w0 (λv w'=>v=(.bool (r))∧Below w0.heap.size w0 w')) ∧
    (∀ (s_:kN) (deep:Int) (r:Bool),qS s_ deep=some r→∀ (w0:World) (v1:Value) (h1:GT.rep (hp w0) [v1] s_.args) (v2:Value) (h2:GT.rep (hp w0) [v2] s_.body) (v3:Value) (h3:GT.rep (hp w0) [v3] s_.else_),Con Tryz.prog 124 [(.agg #[nV s_.op,(tV s_.name),v1,v2,v3]),nV deep] w0 (λv w'=>v=(.bool (r))∧Below w0.heap.size w0 w')):=by
  refine ny.mutual_partial_correctness  (motive_1:=λlist deep r=>∀ (w0:World) (v1:Value) (h1:GT.rep (hp w0) [v1] list),Con Tryz.prog 97 [v1,nV deep] w0 (λv w'=>v=(.bool (r))∧Below w0.heap.size w0 w')) (motive_2:=λs_ deep r=>∀ (w0:World) (v1:Value) (h1:GT.rep (hp w0) [v1] s_.args) (v2:Value) (h2:GT.rep (hp w0) [v2] s_.body) (v3:Value) (h3:GT.rep (hp w0) [v3] s_.else_),Con Tryz.prog 124 [(.agg #[nV s_.op,(tV s_.name),v1,v2,v3]),nV deep] w0 (λv w'=>v=(.bool (r))∧Below w0.heap.size w0 w')) ?_ ?_
  · intro rec_ ih_ list deep r hq w0 v1 h1
    have spec_l3Stmt_rec:∀ (w0:World) (s_:kN) (v1:Value) (h1:GT.rep (hp w0) [v1] s_.args) (v2:Value) (h2:GT.rep (hp w0) [v2] s_.body) (v3:Value) (h3:GT.rep (hp w0) [v3] s_.else_) (deep:Int) (r:Bool) (hq:rec_ s_ deep=some r),Con Tryz.prog 124 [(.agg #[nV s_.op,(tV s_.name),v1,v2,v3]),nV deep] w0 (λv w'=>v=(.bool (r))∧Below w0.heap.size w0 w'):=λw0 s_ v1 h1 v2 h2 v3 h3 deep r hq=>ih_ s_ deep r hq w0 v1 h1 v2 h2 v3 h3
    refine pO (ρ:=Bool) (R:=λr v w'=>v=(.bool (r))∧Below w0.heap.size w0 w') func97 rfl hq ?_
    have hm:=Mem.start w0
    refine gS (gR (gA rfl (gE (gS (gS (gR (gA rfl (gE (gBk (gNf hm (λaB aC=>[(0,v1),(1,(nV deep)),(5,(nV aB))]) (λaB aC=>[]) [] rfl ?_ ?_))))))))))
    ·repeat clear hm
     intro a8 aa aB aC w hm ab ac ae aK
     refine gS (gS (gR (gM rfl (gM rfl ?_))))
     obtain ⟨af,ag,rfl,ah⟩:=kT h1
     refine gY (yV pI rfl) (gB rfl (gE (go _ 9 rfl (decide_eq_true (by omega)) (gct rfl (gSk (gS (gBk (gS (gR (gM rfl (gM rfl (gg λaL aM aD=>?_))))))))))))
     obtain ⟨ai,aj,ak,he⟩:=lU h1 aD
     obtain ⟨rfl,_,rfl⟩:=sl3 he
     obtain ⟨aX,aY,al,aN,aO,aP,aQ⟩:=rv h1 aD
     refine gI pI aM (lO aD) rfl (gY (yn (aN.mono hm.lez) isAgg61 sizeOf61 rfl) (gM rfl (gC hm rfl call124 (spec_l3Stmt_rec _ aL aX (hm.now aO) aY (hm.now aP) al (hm.now aQ) deep) λam an w hm=>gN rfl (gE (gsn 18 rfl (λaR=>?_) λaR=>?_)))))
     ·exact gct rfl (gS (gR (gA rfl (gE (gRt (gLr aK aa (gr1 results97 rfl ⟨rfl,hm.below⟩)))))))
     exact gcf rfl (gSk (gR (gM rfl (gP (by omega) (by omega) rfl (gA rfl (gE (gze hm [] rfl)))))))
    repeat clear hm
    intro ao aq w hm ar au
    refine gS (gS (gR (gM rfl (gM rfl ?_))))
    obtain ⟨aS,aT,rfl,av⟩:=kT h1
    exact gY (yV pI rfl) (gB rfl (gE (go _ 9 rfl (decide_eq_false (by omega)) (gcf rfl (gXt (gHh (gS (gR (gA rfl (gE (gRt (gr1 results97 rfl ⟨rfl,hm.below⟩))))))))))))
  · intro rec_ ih_ s_ deep r hq w0 v1 h1 v2 h2 v3 h3
    have spec_l3Stmts_rec:∀ (w0:World) (list:List kN) (v1:Value) (h1:GT.rep (hp w0) [v1] list) (deep:Int) (r:Bool) (hq:rec_ list deep=some r),Con Tryz.prog 97 [v1,nV deep] w0 (λv w'=>v=(.bool (r))∧Below w0.heap.size w0 w'):=λw0 list v1 h1 deep r hq=>ih_ list deep r hq w0 v1 h1
    refine pO (ρ:=Bool) (R:=λr v w'=>v=(.bool (r))∧Below w0.heap.size w0 w') func124 rfl hq ?_
    have hm:=Mem.start w0
    refine gS (gR (gBx hm rfl λaA w hm=>gA rfl (gE (gS (gS (gJ hm (λaE=>[(1,(nV deep)),(2,(pV aA)),(23,(.bool (aE)))]) (λaE=>[blk aA [nV s_.op,(tV s_.name),v1,v2,v3] 61]) (λaE=>?_) ?_))))))
    ·refine gW (.p 0 (.p 1 (.p 2 (.p 3 (.e 4 (.e 5 (.p 6 (.p 7 (.p 8 (.p 9 (.p 12 (.q 10 (.p 11 (.e 13 (.e 14 (.p 15 (.p 16 .fin)) .nil) .nil)))))))) .nil) .nil))))) [13, 14] [0, 1, 2, 3, 6, 7, 8, 9, 11, 12, 15, 16] hm [0] [_] rfl mxo (by kernel_rfl) (fun _ _ _ h => h.2) fun w hm hS => tP rfl (fun w => yM rfl) (tP rfl (fun w => yB rfl) (tP rfl (fun w => yM rfl) (gsd 9 rfl (fun aM => ?_) fun aM => ?_)))
     ·exact tPo rfl rfl (tO (tEo rfl rfl (tAn rfl (tO (tEo rfl rfl (tAn rfl (tPo rfl rfl (tP rfl (λw=>yKt rfl) (tP rfl (λw=>yM rfl) (tPo rfl rfl (tPo rfl rfl (tQo rfl hS rfl (tPo rfl rfl (tO (tEo rfl rfl (tAs hS (tO (tEo rfl rfl (tAs hS (tPo rfl rfl (tP rfl (λw=>yKt rfl) (tE (gz hm [0] rfl)))))))))))))))))))))))
     refine tP rfl (λw=>yF oT rfl) (tO (tY rfl (yL hm 0 isAgg3 rfl) (tAn rfl (tO (gb λam aw=>tf rfl rfl (λa hf=>lK hf rfl call56 rfl (pJ _ s_.op 1 8 _ aw)) ?_)))))
     rintro aX w ⟨rfl,hB⟩
     replace hm:=hm.below' hB;clear hB
     refine tAk hm [0] rfl λhS=>tP rfl (λw=>yN rfl) (tP rfl (λw=>yKf rfl) (tP rfl (λw=>yM rfl) (gsn 15 rfl (λaO=>?_) λaO=>?_)))
     ·exact tPo rfl rfl (tPo rfl rfl (tQo rfl hS rfl (tPo rfl rfl (tO (tEo rfl rfl (tAs hS (tO (tEo rfl rfl (tAs hS (tPo rfl rfl (tP rfl (λw=>yKt rfl) (tE (gz hm [0] rfl)))))))))))))
     refine tP rfl (λw=>yF ov rfl) (tP rfl (λw=>yF oT rfl) (tQ rfl hS (λw hm=>yL hm 0 isAgg59 rfl) ?_))
     obtain ⟨af,ag,rfl,ah⟩:=kT h1
     refine tP rfl (λw=>yV nL rfl) (tO (tY rfl (yL hm 0 isAgg3 rfl) (tAs hS (tO (gb λbP aD=>tf rfl rfl (λa hf=>lK hf rfl call137 rfl (zr _ s_.op _ aD)) ?_)))))
     rintro aY w ⟨rfl,hB⟩
     replace hm:=hm.below' hB;clear hB
     exact tAk hm [0] rfl λhS=>tP rfl (λw=>yB rfl) (tP rfl (λw=>yKf rfl) (tE (gz hm [0] rfl)))
    repeat clear hm
    intro aE w hm
    refine gs 23 rfl (λax=>?_) λax=>?_
    ·exact gct rfl (gS (gR (gA rfl (gE (gRt (gr1 results124 rfl ⟨rfl,hm.below⟩))))))
    refine gcf rfl (gSk (gS (gJ hm (λaF=>[(1,(nV deep)),(2,(pV aA)),(5,(.bool (aF)))]) (λaF=>[blk aA [nV s_.op,(tV s_.name),v1,v2,v3] 61]) (λaF=>?_) ?_)))
    ·refine gR (gF oT rfl (gL hm 0 isAgg3 rfl (gB rfl (gM rfl (gsd 27 rfl (λaP=>?_) λaP=>?_)))))
     ·exact gO rfl (gO rfl (gO rfl (gKt rfl (gA rfl (gE (gz hm [0] rfl))))))
     exact gF oT rfl (gL hm 0 isAgg3 rfl (gB rfl (gKf rfl (gA rfl (gE (gz hm [0] rfl))))))
    repeat clear hm
    intro aF w hm
    refine gS (gS (gJ hm (λaG=>[(1,(nV deep)),(2,(pV aA)),(45,(.bool (aG)))]) (λaG=>[blk aA [nV s_.op,(tV s_.name),v1,v2,v3] 61]) (λaG=>?_) ?_))
    ·refine gR (gM rfl (gF qd rfl (gL hm 0 isAgg9 rfl (gC hm rfl call96 (qQ _ s_.name) λbQ an w hm=>gY (yG rfl (ao6 underlying4 rfl rfl rfl)) (gM rfl (gsd 37 rfl (λaQ=>?_) λaQ=>?_))))))
     ·exact gO rfl (gO rfl (gO rfl (gO rfl (gO rfl (gO rfl (gO rfl (gKt rfl (gE (gz hm [0] rfl)))))))))
     refine gM rfl (gN rfl (gM rfl (gsn 40 rfl (λaR=>?_) λaR=>?_)))
     ·exact gF qd rfl (gL hm 0 isAgg9 rfl (gY (yG rfl (vp (p:=s_.name) (q:=(mkS [])) rfl rfl rfl)) (gKt rfl (gKf rfl (gE (gz hm [0] rfl))))))
     exact gO rfl (gO rfl (gO rfl (gKf rfl (gKf rfl (gE (gz hm [0] rfl))))))
    repeat clear hm
    intro aG w hm
    refine gs 45 rfl (λay=>?_) λay=>?_
    ·exact gct rfl (gS (gR (gA rfl (gE (gRt (gr1 results124 rfl ⟨rfl,hm.below⟩))))))
    refine gcf rfl (gSk (gS (gS (gR (gA rfl (gE (gBk (gNf hm (λaB aC=>[(1,(nV deep)),(2,(pV aA)),(6,(nV aB))]) (λaB aC=>[blk aA [nV s_.op,(tV s_.name),v1,v2,v3] 61]) [0] rfl ?_ ?_))))))))
    ·repeat clear hm
     intro a8 az aB aC w hm ab ac ae aK
     refine gS (gS (gR (gM rfl (gF ov rfl (gL hm 0 isAgg59 rfl ?_)))))
     obtain ⟨bR,ak,rfl,bS⟩:=kT h1
     refine gY (yV nL rfl) (gB rfl (gE (go _ 50 rfl (decide_eq_true (by omega)) (gct rfl (gSk (gS (gBk (gS (gR (gF ov rfl (gL hm 0 isAgg59 rfl (gM rfl (gg λaL bA aU=>?_)))))))))))))
     obtain ⟨ai,aj,bT,he⟩:=lU h1 aU
     obtain ⟨rfl,_,rfl⟩:=sl3 he
     obtain ⟨bB,aN,bC⟩:=n0 h1 aU
     refine gI nL bA (lO aU) rfl (gY (yn (aN.mono hm.lez) isAgg80 sizeOf80 rfl) (gC hm rfl call138 (wi _ aL bB (hm.now bC)) λbU bV w hm=>gN rfl (gE (gsn 59 rfl (λbD=>?_) λbD=>?_))))
     ·exact gct rfl (gS (gR (gA rfl (gE (gRt (gLr aK az (gr1 results124 rfl ⟨rfl,hm.below⟩)))))))
     exact gcf rfl (gSk (gR (gM rfl (gP (by omega) (by omega) rfl (gA rfl (gE (gze hm [0] rfl)))))))
    repeat clear hm
    intro ao aq w hm ar au
    refine gS (gS (gR (gM rfl (gF ov rfl (gL hm 0 isAgg59 rfl ?_)))))
    obtain ⟨aS,aT,rfl,av⟩:=kT h1
    refine gY (yV nL rfl) (gB rfl (gE (go _ 50 rfl (decide_eq_false (by omega)) (gcf rfl (gXt (gHh (gS (gS (gJ hm (λaH=>[(1,(nV deep)),(2,(pV aA)),(70,(.bool (aH)))]) (λaH=>[blk aA [nV s_.op,(tV s_.name),.slice aS s_.args.length aT,v2,v3] 61]) (λaH=>?_) ?_)))))))))
    ·refine gR (gF oT rfl (gL hm 0 isAgg3 rfl (gB rfl (gM rfl (gsd 63 rfl (λbE=>?_) λbE=>?_)))))
     ·refine gF ov rfl (gL hm 0 isAgg59 rfl (gg λbW bF aV=>?_))
      obtain ⟨bX,bY,bZ,he⟩:=lU h1 aV
      obtain ⟨rfl,_,rfl⟩:=sl3 he
      obtain ⟨b8,bG,b9⟩:=n0 h1 aV
      exact gI nL bF (lO aV) rfl (gF mP rfl (gY (yl isAgg3 ((bG.mono hm.lez).cell (j:=0) rfl) rfl) (gB rfl (gKt rfl (gE (gz hm [0] rfl))))))
     exact gO rfl (gO rfl (gO rfl (gO rfl (gO rfl (gO rfl (gKf rfl (gE (gz hm [0] rfl))))))))
    repeat clear hm
    intro aH w hm
    refine gs 70 rfl (λbH=>?_) λbH=>?_
    ·exact gct rfl (gS (gR (gA rfl (gE (gRt (gr1 results124 rfl ⟨rfl,hm.below⟩))))))
    refine gcf rfl (gSk (gS (gS (gJ hm (λaI=>[(1,(nV deep)),(2,(pV aA)),(95,(.bool (aI)))]) (λaI=>[blk aA [nV s_.op,(tV s_.name),.slice aS s_.args.length aT,v2,v3] 61]) (λaI=>?_) ?_))))
    ·refine gR (gF qJ rfl (gL hm 0 isAgg43 rfl ?_))
     obtain ⟨ba,bb,rfl,bc⟩:=kT h3
     refine gY (yV pI rfl) (gB rfl (gM rfl (gsd 75 rfl (λbJ=>?_) λbJ=>?_)))
     ·refine gF oT rfl (gL hm 0 isAgg3 rfl (gB rfl (gKt rfl (gM rfl (gsd 80 rfl (λaZ=>?_) λaZ=>?_)))))
      ·exact gO rfl (gO rfl (gO rfl (gO rfl (gO rfl (gO rfl (gO rfl (gO rfl (gO rfl (gO rfl (gO rfl (gO rfl (gO rfl (gO rfl (gKt rfl (gE (gz hm [0] rfl))))))))))))))))
      refine gF qf rfl (gL hm 0 isAgg43 rfl ?_)
      obtain ⟨bd,be,rfl,bf⟩:=kT h2
      refine gY (yV pI rfl) (gB rfl (gM rfl (gsd 85 rfl (λbK=>?_) λbK=>?_)))
      ·exact gF oT rfl (gL hm 0 isAgg3 rfl (gB rfl (gKt rfl (gM rfl (go _ 90 rfl (decide_eq_false aZ) (gO rfl (gO rfl (gO rfl (gKf rfl (gKf rfl (gE (gz hm [0] rfl))))))))))))
      exact gO rfl (gO rfl (gO rfl (gKf rfl (gM rfl (gO rfl (gO rfl (gO rfl (gKf rfl (gKf rfl (gE (gz hm [0] rfl)))))))))))
     refine gO rfl (gO rfl (gO rfl (gKf rfl (gM rfl (gF qf rfl (gL hm 0 isAgg43 rfl ?_))))))
     obtain ⟨bg,bh,rfl,bi⟩:=kT h2
     refine gY (yV pI rfl) (gB rfl (gM rfl (gsd 85 rfl (λbL=>?_) λbL=>?_)))
     ·refine gF oT rfl (gL hm 0 isAgg3 rfl (gB rfl (gKt rfl (gM rfl (gsd 90 rfl (λbM=>?_) λbM=>?_)))))
      ·exact gF oT rfl (gL hm 0 isAgg3 rfl (gB rfl (gKt rfl (gKf rfl (gE (gz hm [0] rfl))))))
      exact gO rfl (gO rfl (gO rfl (gKf rfl (gKf rfl (gE (gz hm [0] rfl))))))
     exact gO rfl (gO rfl (gO rfl (gKf rfl (gM rfl (gO rfl (gO rfl (gO rfl (gKf rfl (gKf rfl (gE (gz hm [0] rfl)))))))))))
    repeat clear hm
    intro aI w hm
    refine gs 95 rfl (λbN=>?_) λbN=>?_
    ·exact gct rfl (gS (gR (gA rfl (gE (gRt (gr1 results124 rfl ⟨rfl,hm.below⟩))))))
    refine gcf rfl (gSk (gS (gJ hm (λaJ=>[(4,(.bool (aJ)))]) (λaJ=>[]) (λaJ=>?_) ?_)))
    ·refine gR (gF qf rfl (gL hm 0 isAgg43 rfl (gM rfl (gB rfl (gC hm rfl call97 (spec_l3Stmts_rec _ s_.body v2 (hm.now h2) (w64 (deep - 1))) λbj bk w hm=>gM rfl (gs 101 rfl (λbO=>?_) λbO=>?_))))))
     ·exact gF qJ rfl (gL hm 0 isAgg43 rfl (gM rfl (gB rfl (gC hm rfl call97 (spec_l3Stmts_rec _ s_.else_ v3 (hm.now h3) (w64 (deep - 1))) λbl bm w hm=>gKt rfl (gA rfl (gE (gz hm [] rfl)))))))
     exact gO rfl (gO rfl (gO rfl (gO rfl (gO rfl (gKf rfl (gA rfl (gE (gz hm [] rfl))))))))
    repeat clear hm
    intro aJ w hm
    exact gRt (gr1 results124 rfl ⟨rfl,hm.below⟩)
theorem yq (w0:World) (list:List kN) (v1:Value) (h1:GT.rep (hp w0) [v1] list) (deep:Int) (r:Bool) (hq:ny list deep=some r):Con Tryz.prog 97 [v1,nV deep] w0 (λv w'=>v=(.bool (r))∧Below w0.heap.size w0 w'):=(xn ).1 list deep r hq w0 v1 h1
theorem ah3 (w0:World) (f:Fn_) (v1:Value) (h1:GT.rep (hp w0) [v1] f.params) (v2:Value) (h2:GT.rep (hp w0) [v2] f.body) :
    mE Tryz.prog 57 [(.agg #[(tV f.name),v1,v2])] w0 (sR f) λr v w'=>v=(.bool (r))∧Below w0.heap.size w0 w':=by
  unfold sR
  refine mR func57 rfl λr=>?_
  have hm:=Mem.start w0
  refine gS (gR (gBx hm rfl λaD w hm=>gA rfl (gE (gS (gS (gR (gA rfl (gE (gBk (gNf hm (λaB aE=>[(1,(pV aD)),(3,(nV aB))]) (λaB aE=>[blk aD [(tV f.name),v1,v2] 45]) [0] rfl ?_ ?_))))))))))
  ·repeat clear hm
   intro aM aG aB aE w hm aN aO aP aH
   refine gS (gS (gR (gM rfl (gF o6 rfl (gL hm 0 isAgg42 rfl ?_)))))
   obtain ⟨aQ,aR,rfl,aS⟩:=kT h1
   refine gY (yV oG rfl) (gB rfl (gE (go _ 8 rfl (decide_eq_true (by omega)) (gct rfl (gSk (gS (gBk (gS (gR (gF o6 rfl (gL hm 0 isAgg42 rfl (gM rfl (gg λaF aI aC=>?_)))))))))))))
   obtain ⟨aT,aU,aV,he⟩:=nb h1 aC
   obtain ⟨rfl,_,rfl⟩:=sl3 he
   refine gI oG aI (lO aC) rfl (gY (yl isAgg9 ((lj (cs:=[(tV aF)]) (hm.now h1) aC rfl).cell (j:=0) rfl) rfl) (gC hm rfl call96 (qQ _ aF) λaX aY w hm=>gN rfl (gE (gsn 17 rfl (λaJ=>?_) λaJ=>?_))))
   ·exact gct rfl (gS (gR (gA rfl (gE (gRt (gLr aH aG (gr1 results57 rfl ⟨rfl,hm.below⟩)))))))
   exact gcf rfl (gSk (gR (gM rfl (gP (by omega) (by omega) rfl (gA rfl (gE (gze hm [0] rfl)))))))
  repeat clear hm
  intro aZ a8 w hm aa ab
  refine gS (gS (gR (gM rfl (gF o6 rfl (gL hm 0 isAgg42 rfl ?_)))))
  obtain ⟨ac,ae,rfl,af⟩:=kT h1
  refine gY (yV oG rfl) (gB rfl (gE (go _ 8 rfl (decide_eq_false (by omega)) (gcf rfl (gXt (gHh (gS (gJ hm (λaA=>[(2,(.bool (aA)))]) (λaA=>[]) (λaA=>?_) ?_))))))))
  ·refine gR (gF sn rfl (gL hm 0 isAgg9 rfl (gC hm rfl call96 (qQ _ f.name) λag ah w hm=>gM rfl (gs 21 rfl (λaK=>?_) λaK=>?_))))
   ·refine gF o6 rfl (gL hm 0 isAgg42 rfl (gY (yV oG rfl) (gB rfl (gKt rfl (gM rfl (gsd 27 rfl (λaL=>?_) λaL=>?_))))))
    ·exact gF oE rfl (gL hm 0 isAgg43 rfl (gC hm rfl call97 (yq _ f.body v2 (hm.now h2) 4) λai aj w hm=>gKt rfl (gA rfl (gE (gz hm [] rfl)))))
    exact gO rfl (gO rfl (gO rfl (gKf rfl (gA rfl (gE (gz hm [] rfl))))))
   exact gO rfl (gO rfl (gO rfl (gO rfl (gKf rfl (gM rfl (gO rfl (gO rfl (gO rfl (gKf rfl (gA rfl (gE (gz hm [] rfl))))))))))))
  repeat clear hm
  intro aA w hm
  exact gRt (gr1 results57 rfl ⟨rfl,hm.below⟩)
theorem xa  : ∀ (list:List kN) (r:Int),nq list=some r→∀ (w0:World) (v1:Value) (h1:GT.rep (hp w0) [v1] list),Con Tryz.prog 98 [v1] w0 (λv w'=>v=(nV r)∧Below w0.heap.size w0 w'):=by
  refine nq.partial_correctness  (motive:=λlist r=>∀ (w0:World) (v1:Value) (h1:GT.rep (hp w0) [v1] list),Con Tryz.prog 98 [v1] w0 (λv w'=>v=(nV r)∧Below w0.heap.size w0 w')) ?_
  intro rec_ ih_ list r hq w0 v1 h1
  have spec_l3Count_rec:∀ (w0:World) (list:List kN) (v1:Value) (h1:GT.rep (hp w0) [v1] list) (r:Int) (hq:rec_ list=some r),Con Tryz.prog 98 [v1] w0 (λv w'=>v=(nV r)∧Below w0.heap.size w0 w'):=λw0 list v1 h1 r hq=>ih_ list r hq w0 v1 h1
  refine pO (ρ:=Int) (R:=λr v w'=>v=(nV r)∧Below w0.heap.size w0 w') func98 rfl hq ?_
  have hm:=Mem.start w0
  refine gS (gR (gA rfl (gE (gS (gR (gM rfl ?_))))))
  obtain ⟨aG,aH,rfl,aO⟩:=kT h1
  refine gY (yV pI rfl) (gA rfl (gE (gS (gS (gR (gA rfl (gE (gBk (gNf hm (λaB aC=>[(0,(.slice aG list.length aH)),(3,(nV aC)),(4,(nV aB))]) (λaB aC=>[]) [] rfl ?_ ?_)))))))))
  ·repeat clear hm
   intro _ _ aB aC w hm aP aQ aR _
   refine gS (gS (gR (gM rfl (gM rfl (gY (yV pI rfl) (gB rfl (gE (go _ 10 rfl (decide_eq_true (by omega)) (gct rfl (gSk (gS (gBk (gW (.p 0 (.p 1 (.p 2 (.p 3 (.p 4 (.p 8 (.p 9 (.p 10 (.p 11 (.q 5 (.q 12 (.e 6 (.p 7 (.e 13 (.p 14 (.p 15 .fin)) .nil)) .nil)))))))))))) [5,6,12] [0,1,2,3,4,7,8,9,10,11,14,15] hm [] [] rfl mxo (by kernel_rfl) (λ_ _ _ h=>h.2) λw hm hS=>tP rfl (λw=>yM rfl) (tP rfl (λw=>yM rfl) (tP rfl (λw=>yM rfl) (gg λaD aE aA=>?_))))))))))))))))
   obtain ⟨aS,aT,aU,he⟩:=lU h1 aA
   obtain ⟨rfl,_,rfl⟩:=sl3 he
   obtain ⟨aV,aI,aJ,aF,aX,aK,aL⟩:=rv h1 aA
   refine tP rfl (λw=>yI pI aE (lO aA) rfl) (tP rfl (λw=>yF qf rfl) (tP rfl (λw=>yM rfl) (tP rfl (λw=>yM rfl) (tP rfl (λw=>yI pI aE (lO aA) rfl) (tP rfl (λw=>yF qJ rfl) (tQ rfl hS (λw hm=>yl isAgg43 ((aF.mono hm.lez).cell (j:=3) rfl) rfl) (tQ rfl hS (λw hm=>yl isAgg43 ((aF.mono hm.lez).cell (j:=4) rfl) rfl) (tO (gb λaY aM=>tf rfl rfl (λa hf=>lK hf rfl call98 rfl (spec_l3Count_rec _ aD.body aI (hm.now aK) _ aM)) ?_)))))))))
   rintro aZ w ⟨rfl,hB⟩
   replace hm:=hm.below' hB;clear hB
   refine tAk hm [] rfl λhS=>tP rfl (λw=>yB rfl) (tO (gb λa8 aN=>tf rfl rfl (λa hf=>lK hf rfl call98 rfl (spec_l3Count_rec _ aD.else_ aJ (hm.now aL) _ aN)) ?_))
   rintro aa w ⟨rfl,hB⟩
   replace hm:=hm.below' hB;clear hB
   exact tAn rfl (tP rfl (λw=>yB rfl) (tP rfl (λw=>yA rfl) (tE (gR (gM rfl (gP (by omega) (by omega) rfl (gA rfl (gE (gze hm [] rfl)))))))))
  repeat clear hm
  intro ab ac w hm ae af
  exact gS (gS (gR (gM rfl (gM rfl (gY (yV pI rfl) (gB rfl (gE (go _ 10 rfl (decide_eq_false (by omega)) (gcf rfl (gXt (gHh (gS (gR (gM rfl (gA rfl (gE (gRt (gr1 results98 rfl ⟨rfl,hm.below⟩))))))))))))))))))
theorem yj (w0:World) (list:List kN) (v1:Value) (h1:GT.rep (hp w0) [v1] list) (r:Int) (hq:nq list=some r):Con Tryz.prog 98 [v1] w0 (λv w'=>v=(nV r)∧Below w0.heap.size w0 w'):=xa list r hq w0 v1 h1
theorem ab8 (w0:World) (p_:kp) (v1:Value) (h1:GT.rep (hp w0) [v1] p_.fns) :
    mE Tryz.prog 58 [(.agg #[v1])] w0 (sU p_) λr v w'=>v=(nV r)∧Below w0.heap.size w0 w':=by
  unfold sU
  refine mR func58 rfl λr=>?_
  have hm:=Mem.start w0
  refine gS (gR (gBx hm rfl λaD w hm=>gA rfl (gE (gS (gR (gA rfl (gE (gS (gS (gR (gA rfl (gE (gBk (gNf hm (λaA aB=>[(1,(pV aD)),(3,(nV aB)),(4,(nV aA))]) (λaA aB=>[blk aD [v1] 25]) [0] rfl ?_ ?_))))))))))))))
  ·repeat clear hm
   intro _ _ aA aB w hm aJ aK aL _
   refine gS (gS (gR (gM rfl (gF nu rfl (gL hm 0 isAgg23 rfl ?_)))))
   obtain ⟨aM,aN,rfl,aO⟩:=kT h1
   refine gY (yV nz rfl) (gB rfl (gE (go _ 9 rfl (decide_eq_true (by omega)) (gct rfl (gSk (gS (gBk (gR (gM rfl (gF nu rfl (gL hm 0 isAgg23 rfl (gM rfl (gg λaE aF aC=>?_)))))))))))))
   obtain ⟨aP,aQ,aR,he⟩:=lU h1 aC
   obtain ⟨rfl,_,rfl⟩:=sl3 he
   obtain ⟨aS,aG,aH,aT,aI⟩:=sH h1 aC
   exact gI nz aF (lO aC) rfl (gF oE rfl (gY (yl isAgg43 ((aH.mono hm.lez).cell (j:=2) rfl) rfl) (gC hm rfl call98 (yj _ aE.body aG (hm.now aI)) λaU aV w hm=>gB rfl (gA rfl (gE (gR (gM rfl (gP (by omega) (by omega) rfl (gA rfl (gE (gze hm [0] rfl)))))))))))
  repeat clear hm
  intro aX aY w hm aZ a8
  refine gS (gS (gR (gM rfl (gF nu rfl (gL hm 0 isAgg23 rfl ?_)))))
  obtain ⟨aa,ab,rfl,ac⟩:=kT h1
  exact gY (yV nz rfl) (gB rfl (gE (go _ 9 rfl (decide_eq_false (by omega)) (gcf rfl (gXt (gHh (gS (gR (gM rfl (gA rfl (gE (gRt (gr1 results58 rfl ⟨rfl,hm.below⟩)))))))))))))
theorem sE (w0:World) (p_:kp) (v1:Value) (h1:GT.rep (hp w0) [v1] p_.fns) :
    mE Tryz.prog 23 [(.agg #[v1])] w0 (nr p_) λr v w'=>v=(.bool (r))∧Below w0.heap.size w0 w':=by
  unfold nr
  refine mR func23 rfl λr=>?_
  have hm:=Mem.start w0
  refine gS (gR (gBx hm rfl λaC w hm=>gA rfl (gE (gS (gS (gR (gF nu rfl (gL hm 0 isAgg23 rfl ?_))))))))
  obtain ⟨aD,aE,rfl,aR⟩:=kT h1
  refine gY (yV nz rfl) (gC hm rfl call56 (pJ _ (p_.fns.length:Int) 1 4) λaS aT w hm=>gN rfl (gE (gsn 8 rfl (λaG=>?_) λaG=>?_)))
  ·exact gct rfl (gS (gR (gA rfl (gE (gRt (gr1 results23 rfl ⟨rfl,hm.below⟩))))))
  refine gcf rfl (gSk (gS (gS (gR (gA rfl (gE (gBk (gNf hm (λaA aF=>[(1,(pV aC)),(3,(nV aA))]) (λaA aF=>[blk aC [.slice aD p_.fns.length aE] 25]) [0] rfl ?_ ?_))))))))
  ·repeat clear hm
   intro aU aH aA aF w hm aV aX aY aI
   refine gS (gS (gR (gM rfl (gF nu rfl (gL hm 0 isAgg23 rfl (gY (yV nz rfl) (gB rfl (gE (go _ 13 rfl (decide_eq_true (by omega)) (gct rfl (gSk (gS (gBk (gS (gR (gF nu rfl (gL hm 0 isAgg23 rfl (gM rfl (gg λaJ aK aB=>?_)))))))))))))))))))
   obtain ⟨aZ,a8,aa,he⟩:=lU h1 aB
   obtain ⟨rfl,_,rfl⟩:=sl3 he
   obtain ⟨aL,aM,aN,aO,aP⟩:=sH h1 aB
   refine gI nz aK (lO aB) rfl (gY (yn (aN.mono hm.lez) isAgg45 sizeOf45 rfl) (gC hm rfl call57 (ah3 _ aJ aL (hm.now aO) aM (hm.now aP)) λab ac w hm=>gN rfl (gE (gsn 22 rfl (λaQ=>?_) λaQ=>?_))))
   ·exact gct rfl (gS (gR (gA rfl (gE (gRt (gLr aI aH (gr1 results23 rfl ⟨rfl,hm.below⟩)))))))
   exact gcf rfl (gSk (gR (gM rfl (gP (by omega) (by omega) rfl (gA rfl (gE (gze hm [0] rfl)))))))
  repeat clear hm
  intro ae af w hm ag ah
  exact gS (gS (gR (gM rfl (gF nu rfl (gL hm 0 isAgg23 rfl (gY (yV nz rfl) (gB rfl (gE (go _ 13 rfl (decide_eq_false (by omega)) (gcf rfl (gXt (gHh (gS (gR (gY (yn (hm.blk_at 0 rfl) isAgg25 sizeOf25 rfl) (gC hm rfl call58 (ab8 _ p_ (.slice aD p_.fns.length aE) (hm.now h1)) λai aj w hm=>gB rfl (gA rfl (gE (gRt (gr1 results23 rfl ⟨rfl,hm.below⟩))))))))))))))))))))
end Go.Proofs.YtkopacpickeojaaGreatDoor
