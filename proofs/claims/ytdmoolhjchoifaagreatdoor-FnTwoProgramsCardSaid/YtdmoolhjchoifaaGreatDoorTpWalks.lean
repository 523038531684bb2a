/- A part of the proof of FnTwoProgramsCardSaid. -/
import Derived.Test.YtdmoolhjchoifaaGreatDoorTpWalksC
namespace Go.Proofs.YtdmoolhjchoifaaGreatDoor
open Go Go.Wk Go.RowKit
set_option maxRecDepth 4000
set_option maxHeartbeats 4000000
open Tryz
theorem sY (w0:World) (list:List eu) (v1:Value) (h1:GT.rep (hp w0) [v1] list) (hG0:GT.rep (hp w0) [.slice (some ⟨0,0,none⟩) 9 9] fP) :
    iF Tryz.prog 11 [v1] w0 (lP list) λr v w'=>v=(.tuple #[(tV r.1),(.bool (r.2))])∧Below w0.heap.size w0 w':=by
  unfold lP
  refine iR func11 rfl λr=>?_
  have hm:=Mem.start w0
  refine gS (gR (gA rfl (gA rfl (gE (gS (gS (gR (gM rfl ?_))))))))
  obtain ⟨aK,aL,rfl,aY⟩:=fE h1
  refine gY (yV kq rfl) (gB rfl (gE (gsd 10 rfl (λaM=>?_) λaM=>?_)))
  ·exact gct rfl (gS (gR (gA rfl (gA rfl (gE (gRt (gr2 results11 rfl ⟨rfl,hm.below⟩)))))))
  refine gcf rfl (gSk (gS (gR (gM rfl (gY (yV kq rfl) (gb λaB aN=>?_))))))
  obtain ⟨⟨aO,aP⟩,aI⟩:=zl.1 aN
  refine gf rfl (λa hf=>bh2 (x0:=((mkS []):Str)) lK (λ_=>(Flat.own_iff.2 rfl)) hf hm rfl rfl rfl aO (Int.le_refl _) aP) ?_
  rintro aZ w hm
  rw [aI] at hm
  have h0_2l:(aB.length:Int)=(list.length:Int):=by rw [← aI];simp only [List.length_replicate];omega
  refine gA rfl (gE (gS (gS (gR (gM rfl (gY (yV kq rfl) (gM rfl (gE ?_))))))))
  obtain ⟨aD,aE,rfl,a8⟩:=fE (hm.ow_rep 0 rfl)
  refine gBk (gNf hm (λaF aG=>[(4,(.slice aD aB.length aE)),(14,(.slice aK list.length aL)),(15,(nV ((list.length:Int)))),(16,(nV aF))]) (λaF aG=>[ow [.slice aD aB.length aE] aG]) [0] rfl ?_ ?_)
  ·repeat clear hm
   intro aa aQ aF aG w hm ab ac ae aR
   refine gS (gR (gB rfl (gE (gS (go _ 17 rfl (decide_eq_true (by omega)) (gct rfl (gSk (gS (gBk (gS (gR (gM rfl (gg λaA aS aH=>?_)))))))))))))
   obtain ⟨af,ag,ah,he⟩:=iS h1 aH
   obtain ⟨rfl,_,rfl⟩:=sl3 he
   refine gI kq aS (ff aH) rfl (gY (yn (gK (cs:=[nV aA.kind,(tV aA.text)]) (hm.now h1) aH rfl) isAgg36 sizeOf36 rfl) (gAl hm zeroValue36 rfl λai w hm=>gA rfl (gSN hm 0 sizeOf36 (et rfl (et rfl fK)) rfl λw hm=>gE (gS (gS (gR (gY (yn (hm.blk_at 0 rfl) isAgg36 sizeOf36 rfl) (gC hm rfl call32 (pA _ aA (hm.now hG0)) λaj ak w hm=>gN rfl (gE (gsn 23 rfl (λaT=>?_) λaT=>?_))))))))))
   ·exact gct rfl (gS (gR (gA rfl (gA rfl (gE (gRt (gLr aR aQ (gr2 results11 rfl ⟨rfl,hm.below⟩))))))))
   refine gcf rfl (gSk (gR (gM rfl (gM rfl (gF jk rfl (gL hm 0 isAgg9 rfl (gg λal aU aC=>?_)))))))
   obtain ⟨am,an,ao,he⟩:=iS (hm.ow_rep 1 rfl) aC
   obtain ⟨rfl,_,rfl⟩:=sl3 he
   have hL1_1:=rS (hm.ow_rep 1 rfl)
   refine gI jO aU (aa9 aC hL1_1) rfl (gf0 rfl (λa hf=>ah3 (x1:=aA.text) (j:=0) (vs:=[(tV aA.text)]) 1 hf hm rfl aC rfl sizeOf9 rfl rfl rfl (et rfl fK) rfl rfl) ?_)
   rintro _ w hm
   have aq:=List.getElem?_set_self (a:=aA.text) (ff aC)
   exact gE (gR (gP (by omega) (by omega) rfl (gM rfl (gE (gze hm [1] rfl)))))
  repeat clear hm
  intro ar aV w hm au av
  refine gS (gR (gB rfl (gE (gS (go _ 17 rfl (decide_eq_false (by omega)) (gcf rfl (gXt (gHh (gS (gR (gM rfl (gC hm rfl call33 (uo _ aV (.slice aD aB.length aE) (hm.ow_rep 0 rfl) (mkS [32])) λaJ aw w hm=>gA rfl (gE (gS (gS (gR (gM rfl (gY (yG rfl (iH (p:=aJ) underlying9 rfl rfl)) ?_))))))))))))))))))
  have ax:=(aJ).h
  refine gB rfl (gE (gsd 34 rfl (λaX=>?_) λaX=>?_))
  ·exact gct rfl (gS (gR (gA rfl (gA rfl (gE (gRt (gr2 results11 rfl ⟨rfl,hm.below⟩)))))))
  exact gcf rfl (gSk (gS (gR (gM rfl (gA rfl (gA rfl (gE (gRt (gr2 results11 rfl ⟨rfl,hm.below⟩)))))))))
theorem jf (w0:World) (s_:Str) :
    iF Tryz.prog 34 [(tV s_)] w0 (fg s_) λr v w'=>v=(.agg #[nV r.kind,(tV r.text)])∧Below w0.heap.size w0 w':=by
  unfold fg
  refine iR func34 rfl λr=>?_
  have hm:=Mem.start w0
  exact gS (gR (gAl hm zeroValue36 rfl λaA w hm=>gE (gS (gR (gM rfl (gY (yG rfl (fY (vs:=[(0,(nV 4)),(1,(tV s_))]) (cs:=#[nV 4,(tV s_)]) rfl rfl (by kernel_rfl))) (gSN hm 0 sizeOf36 (et rfl (et rfl fK)) rfl λw hm=>gE (gRt (grc 0 results34 hm rfl isAgg36 sizeOf36 ⟨rfl,hm.below⟩)))))))))
theorem kj (w0:World) (s_:Str) :
    iF Tryz.prog 35 [(tV s_)] w0 (gp s_) λr v w'=>v=(.agg #[nV r.kind,(tV r.text)])∧Below w0.heap.size w0 w':=by
  unfold gp
  refine iR func35 rfl λr=>?_
  have hm:=Mem.start w0
  exact gS (gR (gAl hm zeroValue36 rfl λaA w hm=>gE (gS (gR (gM rfl (gY (yG rfl (fY (vs:=[(0,(nV 1)),(1,(tV s_))]) (cs:=#[nV 1,(tV s_)]) rfl rfl (by kernel_rfl))) (gSN hm 0 sizeOf36 (et rfl (et rfl fK)) rfl λw hm=>gE (gRt (grc 0 results35 hm rfl isAgg36 sizeOf36 ⟨rfl,hm.below⟩)))))))))
theorem uk (w0:World) (i_:Int) (hG6:GT.rep (hp w0) [.pointer (some ⟨6,0,none⟩)] fm) :
    iF Tryz.prog 127 [nV i_] w0 (strconv_Itoa i_) λr v w'=>v=(tV r)∧Below w0.heap.size w0 w':=am0 laysM171 (by kernel_rfl) w0 i_ hG6
theorem rW  : ∀ (list:List eu) (e:ey) (around:Bool) (r:(List eu)),iB list e around=some r→∀ (w0:World) (hz:fU) (v1:Value) (v2:Value) (h2:GT.rep hz [v2] e.kids) (hm0:Mem w0 hz w0 [ow [v1] list]) (hG2:GT.rep hz [.slice (some ⟨2,0,none⟩) 1 1] [fA]) (hG6:GT.rep hz [.pointer (some ⟨6,0,none⟩)] fm),Con Tryz.prog 108 [v1,(.agg #[nV e.op,nV e.n_,(tV e.name),v2]),(.bool (around))] w0 (λv w'=>∃ (x1:Value),v=x1∧Mem w0 hz w' [ow [x1] r]):=by
  refine iB.partial_correctness  (motive:=λlist e around r=>∀ (w0:World) (hz:fU) (v1:Value) (v2:Value) (h2:GT.rep hz [v2] e.kids) (hm0:Mem w0 hz w0 [ow [v1] list]) (hG2:GT.rep hz [.slice (some ⟨2,0,none⟩) 1 1] [fA]) (hG6:GT.rep hz [.pointer (some ⟨6,0,none⟩)] fm),Con Tryz.prog 108 [v1,(.agg #[nV e.op,nV e.n_,(tV e.name),v2]),(.bool (around))] w0 (λv w'=>∃ (x1:Value),v=x1∧Mem w0 hz w' [ow [x1] r])) ?_
  intro rec_ ih_ list e around r hq w0 hz v1 v2 h2 hm0 hG2 hG6
  have impl_exprWords_rec:∀ (w0:World) (hz:fU) (list:List eu) (v1:Value) (e:ey) (v2:Value) (h2:GT.rep hz [v2] e.kids) (around:Bool) (hm0:Mem w0 hz w0 [ow [v1] list]) (hG2:GT.rep hz [.slice (some ⟨2,0,none⟩) 1 1] [fA]) (hG6:GT.rep hz [.pointer (some ⟨6,0,none⟩)] fm) (r:(List eu)) (hq:rec_ list e around=some r),Con Tryz.prog 108 [v1,(.agg #[nV e.op,nV e.n_,(tV e.name),v2]),(.bool (around))] w0 (λv w'=>∃ (x1:Value),v=x1∧Mem w0 hz w' [ow [x1] r]):=λw0 hz list v1 e v2 h2 around hm0 hG2 hG6 r hq=>ih_ list e around r hq w0 hz v1 v2 h2 hm0 hG2 hG6
  refine kI (ρ:=(List eu)) (R:=λr v w'=>∃ (x1:Value),v=x1∧Mem w0 hz w' [ow [x1] r]) func108 rfl hq ?_
  have hm:=hm0
  refine gS (gR (gBx hm rfl λaB w hm=>gA rfl (gE (gS (gS (gR (gM rfl (gE (gs 11 rfl (λan=>?_) λan=>?_)))))))))
  ·refine gct rfl (gS (gR (gM rfl (gC hm rfl call36 (gQ _ (mkS [40])) fun aC ca w hm => gf rfl (fun a hf => fL (vs := #[(0, (.agg #[nV aC.kind, (tV aC.text)]))]) (cs := [nV aC.kind, (tV aC.text)]) iY hf hm rfl rfl (by kernel_rfl) rfl rfl) ?_))))
   rintro _ w ⟨cb,rfl,hm⟩
   replace hm:=hm.lit (xs:=([aC]:List eu)) 0 rfl rfl rfl rfl
   refine gb λao aq=>?_
   obtain ⟨ar,au⟩:=fV.1 aq
   refine gf rfl (λa hf=>iL 2 iY hf hm rfl (hm.ow_rep 0 rfl) rfl rfl rfl ar) ?_
   rintro av w hm
   rw [au] at hm
   refine gA rfl (gE (gS (gR (gM rfl (gY (yn (hm.blk_at 1 rfl) isAgg86 sizeOf86 rfl) ?_)))))
   obtain ⟨aw,hle,hm1,hsub,ax⟩:=hm.take2 (L1:=[_]) (L2:=[_,_]) [2] [0,1] (by decide) rfl rfl
   refine gCg rfl call108 (impl_exprWords_rec _ aw ao av e v2 (GT.mono hle h2) false hm1 (GT.mono hle hG2) (GT.mono hle hG6)) ?_
   rintro cc cd ce w ⟨_,rfl,hB⟩
   replace hm:=ax _ _ hB;clear hB
   refine gA rfl (gE (gS (gR (gM rfl (gC hm rfl call36 (gQ _ (mkS [41])) λaD cf w hm=>gf rfl (λa hf=>fL (vs:=#[(0,(.agg #[nV aD.kind,(tV aD.text)]))]) (cs:=[nV aD.kind,(tV aD.text)]) iY hf hm rfl rfl (by kernel_rfl) rfl rfl) ?_)))))
   rintro _ w ⟨cg,rfl,hm⟩
   replace hm:=hm.lit (xs:=([aD]:List eu)) 0 rfl rfl rfl rfl
   refine gb λcj ay=>?_
   obtain ⟨az,bA⟩:=fV.1 ay
   refine gf rfl (λa hf=>iL 1 iY hf hm rfl (hm.ow_rep 0 rfl) rfl rfl rfl az) ?_
   rintro bB w hm
   rw [bA] at hm
   exact gA rfl (gE (gRt (gr1 results108 rfl ⟨bB,rfl,hm.pk [1] rfl rfl⟩)))
  refine gcf rfl (gSk (gS (gR (gF ik rfl (gL hm 0 isAgg3 rfl (gC hm rfl call126 (ld _ e.op (hm.now hG2)) λaV ck w hm=>gA rfl (gE (gS (gBk (gS (gR (gF ik rfl (gL hm 0 isAgg3 rfl (gB rfl (gA rfl (gE (gsd 26 rfl (λbC=>?_) λbC=>?_)))))))))))))))))
  ·refine gct rfl (gS (gR (gM rfl (gF mC rfl (gL hm 0 isAgg3 rfl (gC hm rfl call127 (uk _ e.n_ (hm.now hG6)) fun aE cl w hm => gY (yG rfl (fY (vs := [(0, (nV 2)), (1, (tV aE))]) (cs := #[nV 2, (tV aE)]) rfl rfl (by kernel_rfl))) (gf rfl (fun a hf => fL (vs := #[(0, (.agg #[nV 2, (tV aE)]))]) (cs := [nV 2, (tV aE)]) iY hf hm rfl rfl (by kernel_rfl) rfl rfl) ?_)))))))
   rintro _ w ⟨cm,rfl,hm⟩
   replace hm:=hm.lit (xs:=([(⟨2,aE⟩:eu)]:List eu)) 0 rfl rfl rfl rfl
   refine gb λcn bD=>?_
   obtain ⟨bE,bF⟩:=fV.1 bD
   refine gf rfl (λa hf=>iL 2 iY hf hm rfl (hm.ow_rep 0 rfl) rfl rfl rfl bE) ?_
   rintro bG w hm
   rw [bF] at hm
   exact gA rfl (gE (gRt (gr1 results108 rfl ⟨bG,rfl,hm.pk [2] rfl rfl⟩)))
  refine gcf rfl (gS (gR (gF ik rfl (gL hm 0 isAgg3 rfl (gB rfl (gA rfl (gE (gsd 37 rfl (λbH=>?_) λbH=>?_))))))))
  ·refine gct rfl (gS (gR (gM rfl (gF mB rfl (gL hm 0 isAgg9 rfl (gC hm rfl call35 (kj _ e.name) fun aF co w hm => gf rfl (fun a hf => fL (vs := #[(0, (.agg #[nV aF.kind, (tV aF.text)]))]) (cs := [nV aF.kind, (tV aF.text)]) iY hf hm rfl rfl (by kernel_rfl) rfl rfl) ?_))))))
   rintro _ w ⟨cq,rfl,hm⟩
   replace hm:=hm.lit (xs:=([aF]:List eu)) 0 rfl rfl rfl rfl
   refine gb λcr bJ=>?_
   obtain ⟨bK,bL⟩:=fV.1 bJ
   refine gf rfl (λa hf=>iL 2 iY hf hm rfl (hm.ow_rep 0 rfl) rfl rfl rfl bK) ?_
   rintro bM w hm
   rw [bL] at hm
   exact gA rfl (gE (gRt (gr1 results108 rfl ⟨bM,rfl,hm.pk [2] rfl rfl⟩)))
  refine gcf rfl (gS (gR (gF ik rfl (gL hm 0 isAgg3 rfl (gB rfl (gA rfl (gE (gsd 47 rfl (λbN=>?_) λbN=>?_))))))))
  ·refine gct rfl (gS (gR (gM rfl (gF mB rfl (gL hm 0 isAgg9 rfl (gC hm rfl call35 (kj _ e.name) fun aG ct w hm => gC hm rfl call36 (gQ _ (mkS [40])) fun aH cu w hm => gf rfl (fun a hf => fL (vs := #[(0, (.agg #[nV aG.kind, (tV aG.text)])), (1, (.agg #[nV aH.kind, (tV aH.text)]))]) (cs := [nV aG.kind, (tV aG.text), nV aH.kind, (tV aH.text)]) iY hf hm rfl rfl (by kernel_rfl) rfl rfl) ?_))))))
   rintro _ w ⟨cv,rfl,hm⟩
   replace hm:=hm.lit (xs:=([aG,aH]:List eu)) 0 rfl rfl rfl rfl
   refine gb λbO bP=>?_
   obtain ⟨bQ,bR⟩:=fV.1 bP
   refine gf rfl (λa hf=>iL 2 iY hf hm rfl (hm.ow_rep 0 rfl) rfl rfl rfl bQ) ?_
   rintro cw w hm
   rw [bR] at hm
   refine gA rfl (gE (gS (gS (gR (gF iT rfl (gL hm 1 isAgg69 rfl ?_))))))
   obtain ⟨bS,aX,rfl,cx⟩:=fE h2
   refine gY (yV iu rfl) (gM rfl (gE ?_))
   obtain ⟨bT,bU,rfl,cy⟩:=fE (hm.ow_rep 2 rfl)
   refine gBk (gNg (λaS aY a w=>∃ (aM:Value),St 140 [(0,aM),(59,(.slice bS e.kids.length aX)),(60,(nV ((e.kids.length:Int)))),(61,(nV aS))] w0 hz [ow [aM] aY] a w) (λa hf=>⟨.slice bT bO.length bU,hf.sb rfl,hm.pk [2] rfl rfl⟩) ?_ ?_)
   ·repeat clear hm
    rintro _ _ aS aY a w ⟨aM,hf,hm⟩ cz dA dB _
    refine gv hf (gS (gR (gB rfl (gE (gS (go _ 62 rfl (decide_eq_true (by omega)) (gct rfl (gSk (gS (gBk (gS (gR (gM rfl (gg λaN bV aT=>?_))))))))))))))
    obtain ⟨bW,bX,dC,he⟩:=fp h2 aT
    obtain ⟨rfl,_,rfl⟩:=sl3 he
    obtain ⟨aZ,bY,a8⟩:=jE h2 aT
    refine gI iu bV (ff aT) rfl (gY (yn (bY.mono hm.lez) isAgg86 sizeOf86 rfl) (gAl hm zeroValue86 rfl λaa w hm=>gA rfl (gSN hm 0 sizeOf86 (et rfl (et rfl (et rfl (et (fS a8) fK)))) rfl λw hm=>gE (gS (gS (gR (gM rfl (gB rfl (gE (gJg (λaO a w=>∃ (aP:Value),St 140 [(0,aP),(9,(pV aa)),(59,(sV bW bX e.kids.length aX)),(60,(nV ((e.kids.length:Int)))),(61,(nV aS))] w0 hz [ow [aP] aO,blk aa [nV aN.op,nV aN.n_,(tV aN.name),aZ] 86] a w) (λaO=>?_) ?_))))))))))
    ·refine gsd 67 rfl (λbZ=>?_) λbZ=>?_
     ·refine gct rfl (gR (gM rfl (gC hm rfl call36 (gQ _ (mkS [44])) fun aI dD w hm => gf rfl (fun a hf => fL (vs := #[(0, (.agg #[nV aI.kind, (tV aI.text)]))]) (cs := [nV aI.kind, (tV aI.text)]) iY hf hm rfl rfl (by kernel_rfl) rfl rfl) ?_)))
      rintro _ w ⟨dE,rfl,hm⟩
      replace hm:=hm.lit (xs:=([aI]:List eu)) 0 rfl rfl rfl rfl
      refine gb λdF b8=>?_
      obtain ⟨b9,ba⟩:=fV.1 b8
      refine gf rfl (λa hf=>iL 2 iY hf hm rfl (hm.ow_rep 0 rfl) rfl rfl rfl b9) ?_
      rintro bb w hm
      rw [ba] at hm
      exact gA rfl (gE (gZ λa hf=>⟨bb,hf.sb rfl,hm.pk [2,1] rfl rfl⟩))
     exact gcf rfl (gSk (gZ λa hf=>⟨aM,hf.sb rfl,hm.pk [1,0] rfl rfl⟩))
    repeat clear hm
    rintro aO a w ⟨aP,hf,hm⟩
    refine gv hf (gR (gM rfl (gY (yn (hm.blk_at 1 rfl) isAgg86 sizeOf86 rfl) ?_)))
    obtain ⟨bc,hle,hm1,hsub,bd⟩:=hm.take2 (L1:=[_]) (L2:=[_]) [0] [1] (by decide) rfl rfl
    refine gCg rfl call108 (impl_exprWords_rec _ bc aO aP aN aZ (GT.mono hle a8) false hm1 (GT.mono hle hG2) (GT.mono hle hG6)) ?_
    rintro dG dH be w ⟨_,rfl,hB⟩
    replace hm:=bd _ _ hB;clear hB
    exact gA rfl (gE (gR (gP (by omega) (by omega) rfl (gM rfl (gE (gZe λa hf=>⟨be,hf.sb rfl,hm.pk [0] rfl rfl⟩))))))
   repeat clear hm
   rintro dI dJ a w ⟨dK,hf,hm⟩ dL dM
   refine gv hf (gS (gR (gB rfl (gE (gS (go _ 62 rfl (decide_eq_false (by omega)) (gcf rfl (gXt (gHh (gS (gR (gM rfl (gC hm rfl call36 (gQ _ (mkS [41])) λaJ dN w hm=>gf rfl (λa hf=>fL (vs:=#[(0,(.agg #[nV aJ.kind,(tV aJ.text)]))]) (cs:=[nV aJ.kind,(tV aJ.text)]) iY hf hm rfl rfl (by kernel_rfl) rfl rfl) ?_)))))))))))))
   rintro _ w ⟨dO,rfl,hm⟩
   replace hm:=hm.lit (xs:=([aJ]:List eu)) 0 rfl rfl rfl rfl
   refine gb λdP bf=>?_
   obtain ⟨bg,bh⟩:=fV.1 bf
   refine gf rfl (λa hf=>iL 1 iY hf hm rfl (hm.ow_rep 0 rfl) rfl rfl rfl bg) ?_
   rintro bi w hm
   rw [bh] at hm
   exact gA rfl (gE (gRt (gr1 results108 rfl ⟨bi,rfl,hm.pk [1] rfl rfl⟩)))
  refine gcf rfl (gS (gR (gM rfl (gB rfl (gA rfl (gE (gsd 80 rfl (λbj=>?_) λbj=>?_)))))))
  ·refine gct rfl (gS (gR (gA rfl (gE (gS (gS (gR (gF ik rfl (gL hm 0 isAgg3 rfl (gB rfl (gE (gJ hm (λaK=>[(0,v1),(4,(pV aB)),(10,(tV aK))]) (λaK=>[ow [v1] list,blk aB [nV e.op,nV e.n_,(tV e.name),v2] 86]) (λaK=>?_) ?_))))))))))))
   ·refine gsd 85 rfl (λbk=>?_) λbk=>?_
    ·exact gct rfl (gR (gA rfl (gE (gz hm [1,0] rfl))))
    exact gcf rfl (gSk (gz hm [1,0] rfl))
   repeat clear hm
   intro aK w hm
   refine gS (gW (.p 0 (.p 1 (.p 5 (.p 9 (.q 6 (.p 7 (.q 8 (.q 10 (.p 11 (.p 12 (.q 13 (.e 2 (.e 3 (.e 4 (.e 14 (.p 15 (.e 16 (.p 17 .fin) .nil)) .nil) .nil) .nil) .nil)))))))))))) [2,3,4,6,8,10,13,14] [0,1,5,7,9,11,12,15,17] hm [1] [blk aB [nV e.op,nV e.n_,(tV e.name),v2] 86] rfl mxo (by kernel_rfl) (λ_ _ _ h=>h.2) λw hm hS=>tP rfl (λw=>yM rfl) (tP rfl (λw=>yM rfl) (tP rfl (λw=>yF iT rfl) (tP rfl (λw=>yF iT rfl) (tQ rfl hS (λw hm=>yL hm 0 isAgg69 rfl) (gg λab ac aQ=>?_))))))
   obtain ⟨dQ,dR,dS,he⟩:=fp h2 aQ
   subst he
   obtain ⟨bl,ae,bm⟩:=jE h2 aQ
   refine tP rfl (λw=>yI iu ac (ff aQ) rfl) (tQ rfl hS (λw hm=>yn (ae.mono hm.lez) isAgg86 sizeOf86 rfl) (tQ rfl hS (λw hm=>yL hm 0 isAgg69 rfl) (tP rfl (λw=>yI iu ac (ff aQ) rfl) (tP rfl (λw=>yF ik rfl) (tQ rfl hS (λw hm=>yl isAgg3 ((ae.mono hm.lez).cell (j:=0) rfl) rfl) (tO (gb λaL bo=>tf rfl rfl (λa hf=>fo hf rfl call36 rfl (gQ _ aK _ bo)) ?_)))))))
   rintro dT w ⟨rfl,hB⟩
   replace hm:=hm.below' hB;clear hB
   refine tAk hm [1] rfl λhS=>tO (tf rfl rfl (λa hf=>fL (vs:=#[(0,(.agg #[nV aL.kind,(tV aL.text)]))]) (cs:=[nV aL.kind,(tV aL.text)]) iY hf hm rfl rfl (by kernel_rfl) rfl rfl) ?_)
   rintro _ w ⟨dU,rfl,hm⟩
   replace hm:=hm.lit (xs:=([aL]:List eu)) 0 rfl rfl rfl rfl
   refine tAk hm [2] rfl λhS=>tO (gb λbp bq=>?_)
   obtain ⟨br,bs⟩:=fV.1 bq
   refine tf rfl rfl (λa hf=>iL 1 iY hf hm rfl (hm.ow_rep 0 rfl) rfl rfl rfl br) ?_
   rintro bt w hm
   rw [bs] at hm
   refine tAk hm [2] rfl λhS=>tO (gb λbu bv=>tf rfl rfl (λa hf=>fo hf rfl call126 rfl (ld _ ab.op (hm.now hG2) _ bv)) ?_)
   rintro dV w ⟨rfl,hB⟩
   replace hm:=hm.below' hB;clear hB
   refine tAk hm [2] rfl λhS=>tP rfl (λw=>yB rfl) (tO (gb λdW bw=>?_))
   obtain ⟨bz,hle,hm1,hsub,cA⟩:=hm.take2 (L1:=[_]) (L2:=[_,_]) [1] [0,2] (by decide) rfl rfl
   refine tf rfl rfl (λa hf=>fo hf rfl call108 rfl (impl_exprWords_rec _ bz bp bt ab bl (GT.mono hle bm) (decide (bu<5)) hm1 (GT.mono hle hG2) (GT.mono hle hG6) _ bw)) ?_
   rintro cC w ⟨_,rfl,hB⟩
   replace hm:=cA _ _ hB;clear hB
   exact tAn rfl (tP rfl (λw=>yA rfl) (tE (gRt (gr1 results108 rfl ⟨cC,rfl,hm.pk [0] rfl rfl⟩))))
  refine gcf rfl (gSk (gS (gW (.p 0 (.p 1 (.p 5 (.p 11 (.q 2 (.p 3 (.q 4 (.e 6 (.p 7 (.p 8 (.e 9 (.e 10 (.p 12 (.e 13 (.p 14 .fin) .nil)) .nil) .nil))) .nil)))))))) [6,9,10] [0,1,3,5,7,8,11,12,14] hm [0,1] [blk aB [nV e.op,nV e.n_,(tV e.name),v2] 86,ow [v1] list] rfl mxo (by kernel_rfl) (λ_ _ _ h=>h.2) λw hm hS=>tP rfl (λw=>yM rfl) (tP rfl (λw=>yF iT rfl) (tP rfl (λw=>yF iT rfl) (tP rfl (λw=>yM rfl) (tQ rfl hS (λw hm=>yL hm 0 isAgg69 rfl) (gg λaf ag aR=>?_))))))))
  obtain ⟨cD,cE,cF,he⟩:=fp h2 aR
  subst he
  obtain ⟨cG,ah,cH⟩:=jE h2 aR
  refine tP rfl (λw=>yI iu ag (ff aR) rfl) (tQ rfl hS (λw hm=>yn (ah.mono hm.lez) isAgg86 sizeOf86 rfl) (tO (tY rfl (yL hm 0 isAgg69 rfl) (tAs hS (tP rfl (λw=>yI iu ag (ff aR) rfl) (tP rfl (λw=>yF ik rfl) (tO (tY rfl (yl isAgg3 ((ah.mono hm.lez).cell (j:=0) rfl) rfl) (tAs hS (tO (gb λcI cJ=>tf rfl rfl (λa hf=>fo hf rfl call126 rfl (ld _ af.op (hm.now hG2) _ cJ)) ?_)))))))))))
  rintro dX w ⟨rfl,hB⟩
  replace hm:=hm.below' hB;clear hB
  refine tAk hm [0,1] rfl λhS=>tP rfl (λw=>yB rfl) (tO (gb λdY cK=>?_))
  obtain ⟨cL,hle,hm1,hsub,cN⟩:=hm.take2 (L1:=[_]) (L2:=[_]) [1] [0] (by decide) rfl rfl
  refine tf rfl rfl (λa hf=>fo hf rfl call108 rfl (impl_exprWords_rec _ cL list v1 af cG (GT.mono hle cH) (decide (cI<aV)) hm1 (GT.mono hle hG2) (GT.mono hle hG6) _ cK)) ?_
  rintro dZ w ⟨_,rfl,hB⟩
  replace hm:=cN _ _ hB;clear hB
  refine tAn rfl (tP rfl (λw=>yA rfl) (tE (gS (gR (gM rfl ?_)))))
  obtain ⟨d4,cO,cP⟩:=pY hG2 rfl
  refine gY (yl isAgg153 ((iK.mono hm.lez (cO)).cell (j:=0) rfl) rfl) (gF ik rfl (gL hm 1 isAgg3 rfl (gY (yG rfl (vg (key:=e.op) (m:=(fA:jm fO)) (z:=(⟨(mkS []),0⟩:fO)) (v2:=(.agg #[(tV (((jm.get fA e.op).getD (⟨(mkS []),0⟩:fO)).sign)),nV (((jm.get fA e.op).getD (⟨(mkS []),0⟩:fO)).level)])) underlying3 underlying153 zeroValue152 (hm.now cP) rfl rfl rfl rfl rfl)) (gY (yG rfl (sD underlying152 rfl rfl isAgg9 rfl rfl rfl)) (gC hm rfl call36 (gQ _ (((jm.get fA e.op).getD (⟨(mkS []),0⟩:fO)).sign)) λaA d5 w hm=>gf rfl (λa hf=>fL (vs:=#[(0,(.agg #[nV aA.kind,(tV aA.text)]))]) (cs:=[nV aA.kind,(tV aA.text)]) iY hf hm rfl rfl (by kernel_rfl) rfl rfl) ?_)))))
  rintro _ w ⟨cQ,rfl,hm⟩
  replace hm:=hm.lit (xs:=([aA]:List eu)) 0 rfl rfl rfl rfl
  refine gb λai cR=>?_
  obtain ⟨cS,cT⟩:=fV.1 cR
  refine gf rfl (λa hf=>iL 1 iY hf hm rfl (hm.ow_rep 0 rfl) rfl rfl rfl cS) ?_
  rintro aj w hm
  rw [cT] at hm
  refine gA rfl (gE (gS (gW (.p 0 (.p 1 (.p 5 (.p 11 (.q 2 (.p 3 (.q 4 (.e 6 (.p 7 (.p 8 (.e 9 (.e 10 (.p 12 (.e 13 (.p 14 .fin) .nil)) .nil) .nil))) .nil)))))))) [6,9,10] [0,1,3,5,7,8,11,12,14] hm [0,1,2] [ow [sV cQ 0 1 1] ([aA]:List eu),ow [aj] ai,blk aB [nV e.op,nV e.n_,(tV e.name),sV cD cE e.kids.length cF] 86] rfl mxo (by kernel_rfl) (λ_ _ _ h=>h.2) λw hm hS=>tP rfl (λw=>yM rfl) (tP rfl (λw=>yF iT rfl) (tP rfl (λw=>yF iT rfl) (tP rfl (λw=>yM rfl) (tQ rfl hS (λw hm=>yL hm 2 isAgg69 rfl) (gg λak al aU=>?_))))))))
  obtain ⟨cU,am,cV⟩:=jE h2 aU
  refine tP rfl (λw=>yI iu al (ff aU) rfl) (tQ rfl hS (λw hm=>yn (am.mono hm.lez) isAgg86 sizeOf86 rfl) (tO (tY rfl (yL hm 2 isAgg69 rfl) (tAs hS (tP rfl (λw=>yI iu al (ff aU) rfl) (tP rfl (λw=>yF ik rfl) (tO (tY rfl (yl isAgg3 ((am.mono hm.lez).cell (j:=0) rfl) rfl) (tAs hS (tO (gb λcW cX=>tf rfl rfl (λa hf=>fo hf rfl call126 rfl (ld _ ak.op (hm.now hG2) _ cX)) ?_)))))))))))
  rintro d6 w ⟨rfl,hB⟩
  replace hm:=hm.below' hB;clear hB
  refine tAk hm [0,1,2] rfl λhS=>tP rfl (λw=>yB rfl) (tO (gb λd7 cY=>?_))
  obtain ⟨cZ,hle,hm1,hsub,c8⟩:=hm.take2 (L1:=[_]) (L2:=[_,_]) [1] [0,2] (by decide) rfl rfl
  refine tf rfl rfl (λa hf=>fo hf rfl call108 rfl (impl_exprWords_rec _ cZ ai aj ak cU (GT.mono hle cV) (decide (cW≤aV)) hm1 (GT.mono hle hG2) (GT.mono hle hG6) _ cY)) ?_
  rintro c9 w ⟨_,rfl,hB⟩
  replace hm:=c8 _ _ hB;clear hB
  exact tAn rfl (tP rfl (λw=>yA rfl) (tE (gRt (gr1 results108 rfl ⟨c9,rfl,hm.pk [0] rfl rfl⟩))))
theorem sZ (w0:World) (hz:fU) (list:List eu) (v1:Value) (e:ey) (v2:Value) (h2:GT.rep hz [v2] e.kids) (around:Bool) (hm0:Mem w0 hz w0 [ow [v1] list]) (hG2:GT.rep hz [.slice (some ⟨2,0,none⟩) 1 1] [fA]) (hG6:GT.rep hz [.pointer (some ⟨6,0,none⟩)] fm) (r:(List eu)) (hq:iB list e around=some r):Con Tryz.prog 108 [v1,(.agg #[nV e.op,nV e.n_,(tV e.name),v2]),(.bool (around))] w0 (λv w'=>∃ (x1:Value),v=x1∧Mem w0 hz w' [ow [x1] r]):=rW list e around r hq w0 hz v1 v2 h2 hm0 hG2 hG6
theorem rK  : (∀ (list:List eu) (body:List fB) (r:(List eu)),iJ list body=some r→∀ (w0:World) (hz:fU) (v1:Value) (v2:Value) (h2:GT.rep hz [v2] body) (hm0:Mem w0 hz w0 [ow [v1] list]) (hG2:GT.rep hz [.slice (some ⟨2,0,none⟩) 1 1] [fA]) (hG6:GT.rep hz [.pointer (some ⟨6,0,none⟩)] fm),Con Tryz.prog 37 [v1,v2] w0 (λv w'=>∃ (x1:Value),v=x1∧Mem w0 hz w' [ow [x1] r])) ∧
    (∀ (list:List eu) (body:List fB) (r:(List eu)),lN list body=some r→∀ (w0:World) (hz:fU) (v1:Value) (v2:Value) (h2:GT.rep hz [v2] body) (hm0:Mem w0 hz w0 [ow [v1] list]) (hG2:GT.rep hz [.slice (some ⟨2,0,none⟩) 1 1] [fA]) (hG6:GT.rep hz [.pointer (some ⟨6,0,none⟩)] fm),Con Tryz.prog 76 [v1,v2] w0 (λv w'=>∃ (x1:Value),v=x1∧Mem w0 hz w' [ow [x1] r])):=by
  refine iJ.mutual_partial_correctness  (motive_1:=λlist body r=>∀ (w0:World) (hz:fU) (v1:Value) (v2:Value) (h2:GT.rep hz [v2] body) (hm0:Mem w0 hz w0 [ow [v1] list]) (hG2:GT.rep hz [.slice (some ⟨2,0,none⟩) 1 1] [fA]) (hG6:GT.rep hz [.pointer (some ⟨6,0,none⟩)] fm),Con Tryz.prog 37 [v1,v2] w0 (λv w'=>∃ (x1:Value),v=x1∧Mem w0 hz w' [ow [x1] r])) (motive_2:=λlist body r=>∀ (w0:World) (hz:fU) (v1:Value) (v2:Value) (h2:GT.rep hz [v2] body) (hm0:Mem w0 hz w0 [ow [v1] list]) (hG2:GT.rep hz [.slice (some ⟨2,0,none⟩) 1 1] [fA]) (hG6:GT.rep hz [.pointer (some ⟨6,0,none⟩)] fm),Con Tryz.prog 76 [v1,v2] w0 (λv w'=>∃ (x1:Value),v=x1∧Mem w0 hz w' [ow [x1] r])) ?_ ?_
  · intro rec_ ih_ list body r hq w0 hz v1 v2 h2 hm0 hG2 hG6
    have impl_stmtWords_rec:∀ (w0:World) (hz:fU) (list:List eu) (v1:Value) (body:List fB) (v2:Value) (h2:GT.rep hz [v2] body) (hm0:Mem w0 hz w0 [ow [v1] list]) (hG2:GT.rep hz [.slice (some ⟨2,0,none⟩) 1 1] [fA]) (hG6:GT.rep hz [.pointer (some ⟨6,0,none⟩)] fm) (r:(List eu)) (hq:rec_ list body=some r),Con Tryz.prog 76 [v1,v2] w0 (λv w'=>∃ (x1:Value),v=x1∧Mem w0 hz w' [ow [x1] r]):=λw0 hz list v1 body v2 h2 hm0 hG2 hG6 r hq=>ih_ list body r hq w0 hz v1 v2 h2 hm0 hG2 hG6
    refine kI (ρ:=(List eu)) (R:=λr v w'=>∃ (x1:Value),v=x1∧Mem w0 hz w' [ow [x1] r]) func37 rfl hq ?_
    have hm:=hm0
    refine gS (gR (gA rfl (gE (gS (gR (gM rfl (gC hm rfl call36 (gQ _ (mkS [123])) λaK dS w hm=>gf rfl (λa hf=>fL (vs:=#[(0,(.agg #[nV aK.kind,(tV aK.text)]))]) (cs:=[nV aK.kind,(tV aK.text)]) iY hf hm rfl rfl (by kernel_rfl) rfl rfl) ?_)))))))
    rintro _ w ⟨dT,rfl,hm⟩
    replace hm:=hm.lit (xs:=([aK]:List eu)) 0 rfl rfl rfl rfl
    refine gb λb8 b9=>?_
    obtain ⟨ba,bb⟩:=fV.1 b9
    refine gf rfl (λa hf=>iL 1 iY hf hm rfl (hm.ow_rep 0 rfl) rfl rfl rfl ba) ?_
    rintro bc w hm
    rw [bb] at hm
    refine gM rfl ?_
    obtain ⟨bd,hle,hm1,hsub,be⟩:=hm.take2 (L1:=[_]) (L2:=[_]) [1] [0] (by decide) rfl rfl
    refine gCg rfl call76 (impl_stmtWords_rec _ bd b8 bc body v2 (GT.mono hle h2) hm1 (GT.mono hle hG2) (GT.mono hle hG6)) ?_
    rintro dU dV dW w ⟨_,rfl,hB⟩
    replace hm:=be _ _ hB;clear hB
    refine gC hm rfl call36 (gQ _ (mkS [125])) λaL dX w hm=>gf rfl (λa hf=>fL (vs:=#[(0,(.agg #[nV aL.kind,(tV aL.text)]))]) (cs:=[nV aL.kind,(tV aL.text)]) iY hf hm rfl rfl (by kernel_rfl) rfl rfl) ?_
    rintro _ w ⟨dY,rfl,hm⟩
    replace hm:=hm.lit (xs:=([aL]:List eu)) 0 rfl rfl rfl rfl
    refine gb λdZ bf=>?_
    obtain ⟨bg,bh⟩:=fV.1 bf
    refine gf rfl (λa hf=>iL 1 iY hf hm rfl (hm.ow_rep 0 rfl) rfl rfl rfl bg) ?_
    rintro bi w hm
    rw [bh] at hm
    exact gA rfl (gE (gRt (gr1 results37 rfl ⟨bi,rfl,hm.pk [1] rfl rfl⟩)))
  · intro rec_ ih_ list body r hq w0 hz v1 v2 h2 hm0 hG2 hG6
    have impl_blockWords_rec:∀ (w0:World) (hz:fU) (list:List eu) (v1:Value) (body:List fB) (v2:Value) (h2:GT.rep hz [v2] body) (hm0:Mem w0 hz w0 [ow [v1] list]) (hG2:GT.rep hz [.slice (some ⟨2,0,none⟩) 1 1] [fA]) (hG6:GT.rep hz [.pointer (some ⟨6,0,none⟩)] fm) (r:(List eu)) (hq:rec_ list body=some r),Con Tryz.prog 37 [v1,v2] w0 (λv w'=>∃ (x1:Value),v=x1∧Mem w0 hz w' [ow [x1] r]):=λw0 hz list v1 body v2 h2 hm0 hG2 hG6 r hq=>ih_ list body r hq w0 hz v1 v2 h2 hm0 hG2 hG6
    refine kI (ρ:=(List eu)) (R:=λr v w'=>∃ (x1:Value),v=x1∧Mem w0 hz w' [ow [x1] r]) func76 rfl hq ?_
    have hm:=hm0
    refine gS (gR (gA rfl (gE (gS (gS (gR (gM rfl ?_)))))))
    obtain ⟨bP,aD,rfl,d4⟩:=fE h2
    refine gY (yV jN rfl) (gM rfl (gE ?_))
    obtain ⟨bj,bk,rfl,d5⟩:=fE (hm.ow_rep 0 rfl)
    refine gBk (gNg (λaC ax a w=>∃ (aM:Value),St 119 [(0,aM),(9,(.slice bP body.length aD)),(10,(nV ((body.length:Int)))),(11,(nV aC))] w0 hz [ow [aM] ax] a w) (λa hf=>⟨.slice bj list.length bk,hf.sb rfl,hm.pk [0] rfl rfl⟩) ?_ ?_)
    ·repeat clear hm
     rintro _ _ aC ax a w ⟨aM,hf,hm⟩ d6 d7 d8 _
     refine gv hf (gS (gR (gB rfl (gE (gS (go _ 12 rfl (decide_eq_true (by omega)) (gct rfl (gSk (gS (gJg (λay a w=>∃ (ab:Value),St 119 [(0,ab),(9,(.slice bP body.length aD)),(10,(nV ((body.length:Int)))),(11,(nV aC))] w0 hz [ow [ab] ay] a w) (λay=>?_) ?_))))))))))
     ·refine gBk (gS (gR (gg λaA bl az=>?_)))
      obtain ⟨aF,aG,d9,he⟩:=fp h2 az
      obtain ⟨rfl,_,rfl⟩:=sl3 he
      obtain ⟨aI,aE,aH,bm,ac,bQ,bA⟩:=lJ h2 az
      refine gI jN bl (ff az) rfl (gY (yn (bm.mono hm.lez) isAgg71 sizeOf71 rfl) (gAl hm zeroValue71 rfl λaB w hm=>gSN hm 0 sizeOf71 (et rfl (et rfl (et (fS ac) (et (fS bQ) (et (fS bA) fK))))) rfl λw hm=>gE (gS (gS (gR (gF jY rfl (gL hm 0 isAgg3 rfl (gE (gJg (λae a w=>∃ (bB:Value),St 119 [(0,bB),(6,(pV aB)),(9,(sV aF aG body.length aD)),(10,(nV ((body.length:Int)))),(11,(nV aC))] w0 hz [ow [bB] ae,blk aB [nV aA.op,(tV aA.name),aI,aE,aH] 71] a w) (λae=>?_) ?_)))))))))
      ·refine gBk (gS (gR (gB rfl (gA rfl (gE (gJg (λbC a w=>∃ (af:Value),St 119 [(0,af),(6,(pV aB)),(9,(sV aF aG body.length aD)),(10,(nV ((body.length:Int)))),(11,(nV aC))] w0 hz [ow [af] bC,blk aB [nV aA.op,(tV aA.name),aI,aE,aH] 71] a w) (λbC=>?_) ?_))))))
       ·refine gsd 17 rfl (λbo=>?_) λbo=>?_
        ·refine gct rfl (gW (.p 0 (.p 2 (.q 3 (.e 1 (.e 4 (.e 5 (.e 6 (.e 7 (.p 8 .fin) .nil) .nil) .nil) .nil) .nil)))) [1] [0, 2, 8] hm [0, 1] [blk aB [nV aA.op, (tV aA.name), aI, aE, aH] 71, ow [aM] ax] rfl mxo (by kernel_rfl) (fun _ _ _ h => h.2) fun w hm hS => tP rfl (fun w => yM rfl) (tP rfl (fun w => yF lL rfl) (tQ rfl hS (fun w hm => yL hm 0 isAgg9 rfl) (tO (gb fun aN bp => tf rfl rfl (fun a hf => fo hf rfl call34 rfl (jf _ (mkS [108, 101, 116]) _ bp)) ?_)))))
         rintro da w ⟨rfl,hB⟩
         replace hm:=hm.below' hB;clear hB
         refine tAk hm [0,1] rfl λhS=>tO (gb λaO bq=>tf rfl rfl (λa hf=>fo hf rfl call35 rfl (kj _ aA.name _ bq)) ?_)
         rintro db w ⟨rfl,hB⟩
         replace hm:=hm.below' hB;clear hB
         refine tAn rfl (tO (gb λaP br=>tf rfl rfl (λa hf=>fo hf rfl call36 rfl (gQ _ (mkS [61]) _ br)) ?_))
         rintro dc w ⟨rfl,hB⟩
         replace hm:=hm.below' hB;clear hB
         refine tAn rfl (tO (tf rfl rfl (λa hf=>fL (vs:=#[(0,(.agg #[nV aN.kind,(tV aN.text)])),(1,(.agg #[nV aO.kind,(tV aO.text)])),(2,(.agg #[nV aP.kind,(tV aP.text)]))]) (cs:=[nV aN.kind,(tV aN.text),nV aO.kind,(tV aO.text),nV aP.kind,(tV aP.text)]) iY hf hm rfl rfl (by kernel_rfl) rfl rfl) ?_))
         rintro _ w ⟨dd,rfl,hm⟩
         replace hm:=hm.lit (xs:=([aN,aO,aP]:List eu)) 0 rfl rfl rfl rfl
         refine tAn rfl (tO (gb λde bs=>?_))
         obtain ⟨bt,bu⟩:=fV.1 bs
         refine tf rfl rfl (λa hf=>iL 2 iY hf hm rfl (hm.ow_rep 0 rfl) rfl rfl rfl bt) ?_
         rintro bv w hm
         rw [bu] at hm
         exact tAn rfl (tP rfl (λw=>yA rfl) (tE (gZ λa hf=>⟨bv,hf.sb rfl,hm.pk [2,1] rfl rfl⟩)))
        refine gcf rfl (gS (gR (gB rfl (gA rfl (gE (gJg (λbD a w=>∃ (ag:Value),St 119 [(0,ag),(6,(pV aB)),(9,(sV aF aG body.length aD)),(10,(nV ((body.length:Int)))),(11,(nV aC))] w0 hz [ow [ag] bD,blk aB [nV aA.op,(tV aA.name),aI,aE,aH] 71] a w) (λbD=>?_) ?_))))))
        ·refine gsd 27 rfl (λbw=>?_) λbw=>?_
         ·refine gct rfl (gR (gM rfl (gF lL rfl (gL hm 0 isAgg9 rfl (gC hm rfl call35 (kj _ aA.name) fun aQ df w hm => gC hm rfl call36 (gQ _ (mkS [61])) fun aR dg w hm => gf rfl (fun a hf => fL (vs := #[(0, (.agg #[nV aQ.kind, (tV aQ.text)])), (1, (.agg #[nV aR.kind, (tV aR.text)]))]) (cs := [nV aQ.kind, (tV aQ.text), nV aR.kind, (tV aR.text)]) iY hf hm rfl rfl (by kernel_rfl) rfl rfl) ?_)))))
          rintro _ w ⟨dh,rfl,hm⟩
          replace hm:=hm.lit (xs:=([aQ,aR]:List eu)) 0 rfl rfl rfl rfl
          refine gb λdi bz=>?_
          obtain ⟨cA,cC⟩:=fV.1 bz
          refine gf rfl (λa hf=>iL 2 iY hf hm rfl (hm.ow_rep 0 rfl) rfl rfl rfl cA) ?_
          rintro cD w hm
          rw [cC] at hm
          exact gA rfl (gE (gZ λa hf=>⟨cD,hf.sb rfl,hm.pk [2,1] rfl rfl⟩))
         refine gcf rfl (gS (gR (gB rfl (gA rfl (gE (gJg (λbE a w=>∃ (ah:Value),St 119 [(0,ah),(6,(pV aB)),(9,(sV aF aG body.length aD)),(10,(nV ((body.length:Int)))),(11,(nV aC))] w0 hz [ow [ah] bE,blk aB [nV aA.op,(tV aA.name),aI,aE,aH] 71] a w) (λbE=>?_) ?_))))))
         ·refine gsd 36 rfl (λcE=>?_) λcE=>?_
          ·refine gct rfl (gR (gM rfl (gC hm rfl call34 (jf _ (mkS [115, 97, 121])) fun aS dk w hm => gf rfl (fun a hf => fL (vs := #[(0, (.agg #[nV aS.kind, (tV aS.text)]))]) (cs := [nV aS.kind, (tV aS.text)]) iY hf hm rfl rfl (by kernel_rfl) rfl rfl) ?_)))
           rintro _ w ⟨dl,rfl,hm⟩
           replace hm:=hm.lit (xs:=([aS]:List eu)) 0 rfl rfl rfl rfl
           refine gb λdm cF=>?_
           obtain ⟨cG,cH⟩:=fV.1 cF
           refine gf rfl (λa hf=>iL 2 iY hf hm rfl (hm.ow_rep 0 rfl) rfl rfl rfl cG) ?_
           rintro cI w hm
           rw [cH] at hm
           exact gA rfl (gE (gZ λa hf=>⟨cI,hf.sb rfl,hm.pk [2,1] rfl rfl⟩))
          refine gcf rfl (gS (gR (gB rfl (gA rfl (gE (gJg (λbF a w=>∃ (ai:Value),St 119 [(0,ai),(6,(pV aB)),(9,(sV aF aG body.length aD)),(10,(nV ((body.length:Int)))),(11,(nV aC))] w0 hz [ow [ai] bF,blk aB [nV aA.op,(tV aA.name),aI,aE,aH] 71] a w) (λbF=>?_) ?_))))))
          ·refine gsd 42 rfl (λcJ=>?_) λcJ=>?_
           ·refine gct rfl (gR (gM rfl (gC hm rfl call34 (jf _ (mkS [112, 117, 116])) fun aT dp w hm => gf rfl (fun a hf => fL (vs := #[(0, (.agg #[nV aT.kind, (tV aT.text)]))]) (cs := [nV aT.kind, (tV aT.text)]) iY hf hm rfl rfl (by kernel_rfl) rfl rfl) ?_)))
            rintro _ w ⟨dq,rfl,hm⟩
            replace hm:=hm.lit (xs:=([aT]:List eu)) 0 rfl rfl rfl rfl
            refine gb λdr cK=>?_
            obtain ⟨cL,cN⟩:=fV.1 cK
            refine gf rfl (λa hf=>iL 2 iY hf hm rfl (hm.ow_rep 0 rfl) rfl rfl rfl cL) ?_
            rintro cO w hm
            rw [cN] at hm
            exact gA rfl (gE (gZ λa hf=>⟨cO,hf.sb rfl,hm.pk [2,1] rfl rfl⟩))
           refine gcf rfl (gS (gR (gB rfl (gA rfl (gE (gJg (λbG a w=>∃ (aj:Value),St 119 [(0,aj),(6,(pV aB)),(9,(sV aF aG body.length aD)),(10,(nV ((body.length:Int)))),(11,(nV aC))] w0 hz [ow [aj] bG,blk aB [nV aA.op,(tV aA.name),aI,aE,aH] 71] a w) (λbG=>?_) ?_))))))
           ·refine gsd 48 rfl (λcP=>?_) λcP=>?_
            ·refine gct rfl (gR (gM rfl (gC hm rfl call34 (jf _ (mkS [105, 102])) fun aU dt w hm => gf rfl (fun a hf => fL (vs := #[(0, (.agg #[nV aU.kind, (tV aU.text)]))]) (cs := [nV aU.kind, (tV aU.text)]) iY hf hm rfl rfl (by kernel_rfl) rfl rfl) ?_)))
             rintro _ w ⟨du,rfl,hm⟩
             replace hm:=hm.lit (xs:=([aU]:List eu)) 0 rfl rfl rfl rfl
             refine gb λdv cQ=>?_
             obtain ⟨cR,cS⟩:=fV.1 cQ
             refine gf rfl (λa hf=>iL 2 iY hf hm rfl (hm.ow_rep 0 rfl) rfl rfl rfl cR) ?_
             rintro cT w hm
             rw [cS] at hm
             exact gA rfl (gE (gZ λa hf=>⟨cT,hf.sb rfl,hm.pk [2,1] rfl rfl⟩))
            refine gcf rfl (gS (gR (gB rfl (gA rfl (gE (gJg (λbH a w=>∃ (ak:Value),St 119 [(0,ak),(6,(pV aB)),(9,(sV aF aG body.length aD)),(10,(nV ((body.length:Int)))),(11,(nV aC))] w0 hz [ow [ak] bH,blk aB [nV aA.op,(tV aA.name),aI,aE,aH] 71] a w) (λbH=>?_) ?_))))))
            ·refine gsd 54 rfl (λcU=>?_) λcU=>?_
             ·refine gct rfl (gR (gM rfl (gC hm rfl call34 (jf _ (mkS [108, 111, 111, 112])) fun aV dw w hm => gf rfl (fun a hf => fL (vs := #[(0, (.agg #[nV aV.kind, (tV aV.text)]))]) (cs := [nV aV.kind, (tV aV.text)]) iY hf hm rfl rfl (by kernel_rfl) rfl rfl) ?_)))
              rintro _ w ⟨dx,rfl,hm⟩
              replace hm:=hm.lit (xs:=([aV]:List eu)) 0 rfl rfl rfl rfl
              refine gb λdy cV=>?_
              obtain ⟨cW,cX⟩:=fV.1 cV
              refine gf rfl (λa hf=>iL 2 iY hf hm rfl (hm.ow_rep 0 rfl) rfl rfl rfl cW) ?_
              rintro cY w hm
              rw [cX] at hm
              exact gA rfl (gE (gZ λa hf=>⟨cY,hf.sb rfl,hm.pk [2,1] rfl rfl⟩))
             refine gcf rfl (gS (gR (gB rfl (gA rfl (gE (gJg (λbJ a w=>∃ (al:Value),St 119 [(0,al),(6,(pV aB)),(9,(sV aF aG body.length aD)),(10,(nV ((body.length:Int)))),(11,(nV aC))] w0 hz [ow [al] bJ,blk aB [nV aA.op,(tV aA.name),aI,aE,aH] 71] a w) (λbJ=>?_) ?_))))))
             ·refine gsd 60 rfl (λcZ=>?_) λcZ=>?_
              ·refine gct rfl (gR (gM rfl (gC hm rfl call34 (jf _ (mkS [98, 97, 99, 107])) fun aX dz w hm => gf rfl (fun a hf => fL (vs := #[(0, (.agg #[nV aX.kind, (tV aX.text)]))]) (cs := [nV aX.kind, (tV aX.text)]) iY hf hm rfl rfl (by kernel_rfl) rfl rfl) ?_)))
               rintro _ w ⟨eA,rfl,hm⟩
               replace hm:=hm.lit (xs:=([aX]:List eu)) 0 rfl rfl rfl rfl
               refine gb λeD c8=>?_
               obtain ⟨c9,ca⟩:=fV.1 c8
               refine gf rfl (λa hf=>iL 2 iY hf hm rfl (hm.ow_rep 0 rfl) rfl rfl rfl c9) ?_
               rintro cb w hm
               rw [ca] at hm
               exact gA rfl (gE (gZ λa hf=>⟨cb,hf.sb rfl,hm.pk [2,1] rfl rfl⟩))
              refine gcf rfl (gS (gR (gB rfl (gA rfl (gE (gJg (λbK a w=>∃ (am:Value),St 119 [(0,am),(6,(pV aB)),(9,(sV aF aG body.length aD)),(10,(nV ((body.length:Int)))),(11,(nV aC))] w0 hz [ow [am] bK,blk aB [nV aA.op,(tV aA.name),aI,aE,aH] 71] a w) (λbK=>?_) ?_))))))
              ·refine gsd 66 rfl (λcc=>?_) λcc=>?_
               ·refine gct rfl (gR (gM rfl (gC hm rfl call34 (jf _ (mkS [100, 111])) fun aY eF w hm => gf rfl (fun a hf => fL (vs := #[(0, (.agg #[nV aY.kind, (tV aY.text)]))]) (cs := [nV aY.kind, (tV aY.text)]) iY hf hm rfl rfl (by kernel_rfl) rfl rfl) ?_)))
                rintro _ w ⟨eG,rfl,hm⟩
                replace hm:=hm.lit (xs:=([aY]:List eu)) 0 rfl rfl rfl rfl
                refine gb λeH cd=>?_
                obtain ⟨ce,cf⟩:=fV.1 cd
                refine gf rfl (λa hf=>iL 2 iY hf hm rfl (hm.ow_rep 0 rfl) rfl rfl rfl ce) ?_
                rintro cg w hm
                rw [cf] at hm
                exact gA rfl (gE (gZ λa hf=>⟨cg,hf.sb rfl,hm.pk [2,1] rfl rfl⟩))
               exact gcf rfl (gSk (gZ λa hf=>⟨aM,hf.sb rfl,hm.pk [1,0] rfl rfl⟩))
              repeat clear hm
              rintro bK a w ⟨am,hf,hm⟩
              exact gv hf (gZ λa hf=>⟨am,hf.sb rfl,hm.pk [0,1] rfl rfl⟩)
             repeat clear hm
             rintro bJ a w ⟨al,hf,hm⟩
             exact gv hf (gZ λa hf=>⟨al,hf.sb rfl,hm.pk [0,1] rfl rfl⟩)
            repeat clear hm
            rintro bH a w ⟨ak,hf,hm⟩
            exact gv hf (gZ λa hf=>⟨ak,hf.sb rfl,hm.pk [0,1] rfl rfl⟩)
           repeat clear hm
           rintro bG a w ⟨aj,hf,hm⟩
           exact gv hf (gZ λa hf=>⟨aj,hf.sb rfl,hm.pk [0,1] rfl rfl⟩)
          repeat clear hm
          rintro bF a w ⟨ai,hf,hm⟩
          exact gv hf (gZ λa hf=>⟨ai,hf.sb rfl,hm.pk [0,1] rfl rfl⟩)
         repeat clear hm
         rintro bE a w ⟨ah,hf,hm⟩
         exact gv hf (gZ λa hf=>⟨ah,hf.sb rfl,hm.pk [0,1] rfl rfl⟩)
        repeat clear hm
        rintro bD a w ⟨ag,hf,hm⟩
        exact gv hf (gZ λa hf=>⟨ag,hf.sb rfl,hm.pk [0,1] rfl rfl⟩)
       repeat clear hm
       rintro bC a w ⟨af,hf,hm⟩
       exact gv hf (gZ λa hf=>⟨af,hf.sb rfl,hm.pk [0,1] rfl rfl⟩)
      repeat clear hm
      rintro ae a w ⟨bB,hf,hm⟩
      refine gv hf (gS (gS (gR (gF je rfl (gL hm 1 isAgg69 rfl ?_)))))
      obtain ⟨an,aJ,rfl,eI⟩:=fE ac
      refine gY (yV iu rfl) (gM rfl (gE ?_))
      obtain ⟨cj,ck,rfl,eJ⟩:=fE (hm.ow_rep 0 rfl)
      refine gBk (gNg (λbL bR a w=>∃ (ao:Value),St 119 [(0,ao),(6,(pV aB)),(9,(sV aF aG body.length aD)),(10,(nV ((body.length:Int)))),(11,(nV aC)),(73,(.slice an aA.args.length aJ)),(74,(nV ((aA.args.length:Int)))),(75,(nV bL))] w0 hz [ow [ao] bR,blk aB [nV aA.op,(tV aA.name),.slice an aA.args.length aJ,aE,aH] 71] a w) (λa hf=>⟨.slice cj ae.length ck,hf.sb rfl,hm.pk [0,1] rfl rfl⟩) ?_ ?_)
      ·repeat clear hm
       rintro _ _ bL bR a w ⟨ao,hf,hm⟩ eM eN eO _
       refine gv hf (gS (gR (gB rfl (gE (gS (go _ 76 rfl (decide_eq_true (by omega)) (gct rfl (gSk (gS (gBk (gS (gR (gM rfl (gg λaq cl bM=>?_))))))))))))))
       obtain ⟨bS,bT,eP,he⟩:=fp ac bM
       obtain ⟨rfl,_,rfl⟩:=sl3 he
       obtain ⟨bU,cm,bV⟩:=jE ac bM
       refine gI iu cl (ff bM) rfl (gY (yn (cm.mono hm.lez) isAgg86 sizeOf86 rfl) (gAl hm zeroValue86 rfl λbW w hm=>gA rfl (gSN hm 0 sizeOf86 (et rfl (et rfl (et rfl (et (fS bV) fK)))) rfl λw hm=>gE (gS (gS (gR (gM rfl (gB rfl (gE (gJg (λar a w=>∃ (au:Value),St 119 [(0,au),(6,(pV aB)),(8,(pV bW)),(9,(sV aF aG body.length aD)),(10,(nV ((body.length:Int)))),(11,(nV aC)),(73,(sV bS bT aA.args.length aJ)),(74,(nV ((aA.args.length:Int)))),(75,(nV bL))] w0 hz [ow [au] ar,blk aB [nV aA.op,(tV aA.name),sV bS bT aA.args.length aJ,aE,aH] 71,blk bW [nV aq.op,nV aq.n_,(tV aq.name),bU] 86] a w) (λar=>?_) ?_))))))))))
       ·refine gsd 81 rfl (λcn=>?_) λcn=>?_
        ·refine gct rfl (gR (gM rfl (gC hm rfl call36 (gQ _ (mkS [44])) fun aZ eR w hm => gf rfl (fun a hf => fL (vs := #[(0, (.agg #[nV aZ.kind, (tV aZ.text)]))]) (cs := [nV aZ.kind, (tV aZ.text)]) iY hf hm rfl rfl (by kernel_rfl) rfl rfl) ?_)))
         rintro _ w ⟨eS,rfl,hm⟩
         replace hm:=hm.lit (xs:=([aZ]:List eu)) 0 rfl rfl rfl rfl
         refine gb λeT co=>?_
         obtain ⟨cq,cr⟩:=fV.1 co
         refine gf rfl (λa hf=>iL 2 iY hf hm rfl (hm.ow_rep 0 rfl) rfl rfl rfl cq) ?_
         rintro ct w hm
         rw [cr] at hm
         exact gA rfl (gE (gZ λa hf=>⟨ct,hf.sb rfl,hm.pk [2,3,1] rfl rfl⟩))
        exact gcf rfl (gSk (gZ λa hf=>⟨ao,hf.sb rfl,hm.pk [1,2,0] rfl rfl⟩))
       repeat clear hm
       rintro ar a w ⟨au,hf,hm⟩
       refine gv hf (gR (gM rfl (gY (yn (hm.blk_at 2 rfl) isAgg86 sizeOf86 rfl) ?_)))
       obtain ⟨cu,hle,hm1,hsub,cv⟩:=hm.take2 (L1:=[_]) (L2:=[_,_]) [0] [1,2] (by decide) rfl rfl
       refine gCg rfl call108 (sZ _ cu ar au aq bU (GT.mono hle bV) false hm1 (GT.mono hle hG2) (GT.mono hle hG6)) ?_
       rintro eU eV cw w ⟨_,rfl,hB⟩
       replace hm:=cv _ _ hB;clear hB
       exact gA rfl (gE (gR (gP (by omega) (by omega) rfl (gM rfl (gE (gZe λa hf=>⟨cw,hf.sb rfl,hm.pk [0,1] rfl rfl⟩))))))
      repeat clear hm
      rintro eW bX a w ⟨bN,hf,hm⟩ eX eY
      refine gv hf (gS (gR (gB rfl (gE (gS (go _ 76 rfl (decide_eq_false (by omega)) (gcf rfl (gXt (gHh (gS (gS (gJ hm (λav=>[(0,bN),(6,(pV aB)),(9,(sV aF aG body.length aD)),(10,(nV ((body.length:Int)))),(11,(nV aC)),(97,(.bool (av)))]) (λav=>[ow [bN] bX,blk aB [nV aA.op,(tV aA.name),.slice an aA.args.length aJ,aE,aH] 71]) (λav=>?_) ?_))))))))))))
      ·refine gR (gF jY rfl (gL hm 1 isAgg3 rfl (gB rfl (gM rfl (gsd 93 rfl (λcx=>?_) λcx=>?_)))))
       ·exact gF jY rfl (gL hm 1 isAgg3 rfl (gB rfl (gKt rfl (gE (gz hm [0,1] rfl)))))
       exact gO rfl (gO rfl (gO rfl (gKf rfl (gE (gz hm [0,1] rfl)))))
      repeat clear hm
      intro av w hm
      refine gs 97 rfl (λcy=>?_) λcy=>?_
      ·refine gct rfl (gS (gR (gM rfl (gC hm rfl call36 (gQ _ (mkS [59])) fun a8 eZ w hm => gf rfl (fun a hf => fL (vs := #[(0, (.agg #[nV a8.kind, (tV a8.text)]))]) (cs := [nV a8.kind, (tV a8.text)]) iY hf hm rfl rfl (by kernel_rfl) rfl rfl) ?_))))
       rintro _ w ⟨ec,rfl,hm⟩
       replace hm:=hm.lit (xs:=([a8]:List eu)) 0 rfl rfl rfl rfl
       refine gb λed cz=>?_
       obtain ⟨dA,dB⟩:=fV.1 cz
       refine gf rfl (λa hf=>iL 1 iY hf hm rfl (hm.ow_rep 0 rfl) rfl rfl rfl dA) ?_
       rintro dC w hm
       rw [dB] at hm
       exact gA rfl (gE (gXt (gHh (gZ λa hf=>⟨dC,hf.sb rfl,hm.pk [1] rfl rfl⟩))))
      refine gcf rfl (gSk (gS (gR (gM rfl (gF lB rfl (gL hm 1 isAgg52 rfl ?_))))))
      obtain ⟨dD,hle,hm1,hsub,dE⟩:=hm.take2 (L1:=[_]) (L2:=[_]) [0] [1] (by decide) rfl rfl
      refine gCg rfl call37 (impl_blockWords_rec _ dD bX bN aA.body aE (GT.mono hle bQ) hm1 (GT.mono hle hG2) (GT.mono hle hG6)) ?_
      rintro ee ef dF w ⟨_,rfl,hB⟩
      replace hm:=dE _ _ hB;clear hB
      refine gA rfl (gE (gS (gR (gF lH rfl (gL hm 1 isAgg52 rfl ?_)))))
      obtain ⟨bY,bZ,rfl,eh⟩:=fE bA
      refine gY (yV jN rfl) (gB rfl (gE (gJg (λbO a w=>∃ (aw:Value),St 119 [(0,aw),(9,(sV aF aG body.length aD)),(10,(nV ((body.length:Int)))),(11,(nV aC))] w0 hz [ow [aw] bO] a w) (λbO=>?_) ?_)))
      ·refine gsd 109 rfl (λdG=>?_) λdG=>?_
       ·refine gct rfl (gW (.p 0 (.p 4 (.q 5 (.e 1 (.e 2 (.e 3 (.e 6 (.p 7 .fin) .nil) .nil) .nil) .nil)))) [1, 2, 3] [0, 4, 7] hm [1] [blk aB [nV aA.op, (tV aA.name), .slice an aA.args.length aJ, aE, .slice bY aA.else_.length bZ] 71] rfl mxo (by kernel_rfl) (fun _ _ _ h => h.2) fun w hm hS => tP rfl (fun w => yM rfl) (tP rfl (fun w => yF lH rfl) (tQ rfl hS (fun w hm => yL hm 0 isAgg52 rfl) (tO (gb fun aa dH => tf rfl rfl (fun a hf => fo hf rfl call34 rfl (jf _ (mkS [101, 108, 115, 101]) _ dH)) ?_)))))
        rintro ei w ⟨rfl,hB⟩
        replace hm:=hm.below' hB;clear hB
        refine tAk hm [1] rfl λhS=>tO (tf rfl rfl (λa hf=>fL (vs:=#[(0,(.agg #[nV aa.kind,(tV aa.text)]))]) (cs:=[nV aa.kind,(tV aa.text)]) iY hf hm rfl rfl (by kernel_rfl) rfl rfl) ?_)
        rintro _ w ⟨ej,rfl,hm⟩
        replace hm:=hm.lit (xs:=([aa]:List eu)) 0 rfl rfl rfl rfl
        refine tAk hm [2] rfl λhS=>tO (gb λdI dJ=>?_)
        obtain ⟨dK,dL⟩:=fV.1 dJ
        refine tf rfl rfl (λa hf=>iL 1 iY hf hm rfl (hm.ow_rep 0 rfl) rfl rfl rfl dK) ?_
        rintro dM w hm
        rw [dL] at hm
        refine tAk hm [2] rfl λhS=>tO (gb λek dN=>?_)
        obtain ⟨dO,hle,hm1,hsub,dP⟩:=hm.take2 (L1:=[_]) (L2:=[_,_]) [1] [0,2] (by decide) rfl rfl
        refine tf rfl rfl (λa hf=>fo hf rfl call37 rfl (impl_blockWords_rec _ dO dI dM aA.else_ (.slice bY aA.else_.length bZ) (GT.mono hle bA) hm1 (GT.mono hle hG2) (GT.mono hle hG6) _ dN)) ?_
        rintro dQ w ⟨_,rfl,hB⟩
        replace hm:=dP _ _ hB;clear hB
        exact tAn rfl (tP rfl (λw=>yA rfl) (tE (gZ λa hf=>⟨dQ,hf.sb rfl,hm.pk [0] rfl rfl⟩)))
       exact gcf rfl (gSk (gZ λa hf=>⟨dF,hf.sb rfl,hm.pk [0] rfl rfl⟩))
      repeat clear hm
      rintro bO a w ⟨aw,hf,hm⟩
      exact gv hf (gZ λa hf=>⟨aw,hf.sb rfl,hm.pk [0] rfl rfl⟩)
     repeat clear hm
     rintro ay a w ⟨ab,hf,hm⟩
     exact gv hf (gR (gP (by omega) (by omega) rfl (gM rfl (gE (gZe λa hf=>⟨ab,hf.sb rfl,hm.pk [0] rfl rfl⟩)))))
    repeat clear hm
    rintro el en a w ⟨dR,hf,hm⟩ eo ep
    exact gv hf (gS (gR (gB rfl (gE (gS (go _ 12 rfl (decide_eq_false (by omega)) (gcf rfl (gXt (gHh (gS (gR (gM rfl (gA rfl (gE (gRt (gr1 results76 rfl ⟨dR,rfl,hm.pk [0] rfl rfl⟩))))))))))))))))
theorem ru (w0:World) (hz:fU) (list:List eu) (v1:Value) (body:List fB) (v2:Value) (h2:GT.rep hz [v2] body) (hm0:Mem w0 hz w0 [ow [v1] list]) (hG2:GT.rep hz [.slice (some ⟨2,0,none⟩) 1 1] [fA]) (hG6:GT.rep hz [.pointer (some ⟨6,0,none⟩)] fm) (r:(List eu)) (hq:iJ list body=some r):Con Tryz.prog 37 [v1,v2] w0 (λv w'=>∃ (x1:Value),v=x1∧Mem w0 hz w' [ow [x1] r]):=(rK ).1 list body r hq w0 hz v1 v2 h2 hm0 hG2 hG6
theorem rL (w0:World) (p_:fZ) (v1:Value) (h1:GT.rep (hp w0) [v1] p_.fns) (hG0:GT.rep (hp w0) [.slice (some ⟨0,0,none⟩) 9 9] fP) (hG2:GT.rep (hp w0) [.slice (some ⟨2,0,none⟩) 1 1] [fA]) (hG6:GT.rep (hp w0) [.pointer (some ⟨6,0,none⟩)] fm) :
    iF Tryz.prog 12 [(.agg #[v1])] w0 (jP p_) λr v w'=>v=(.tuple #[(tV r.1),(.bool (r.2))])∧Below w0.heap.size w0 w':=by
  unfold jP
  refine iR func12 rfl λr=>?_
  have hm:=Mem.start w0
  refine gS (gR (gBx hm rfl λbS w hm=>gA rfl (gA rfl (gE (gS (gS (gR (gY (yn (hm.blk_at 0 rfl) isAgg26 sizeOf26 rfl) (gC hm rfl call22 (mG _ p_ v1 (hm.now h1) (hm.now hG0) (hm.now hG2)) λbT bU w hm=>gN rfl (gE (gsn 11 rfl (λae=>?_) λae=>?_)))))))))))
  ·exact gct rfl (gS (gR (gA rfl (gA rfl (gE (gRt (gr2 results12 rfl ⟨rfl,hm.below⟩)))))))
  refine gcf rfl (gSk (gS (gR (gA rfl (gE (gS (gS (gR (gF im rfl (gL hm 0 isAgg24 rfl ?_))))))))))
  obtain ⟨af,aO,rfl,bV⟩:=fE h1
  refine gY (yV jW rfl) (gM rfl (gE (gBk ?_)))
  replace hm:=hm.nilow (α:=eu)
  refine gNg (λaK aP a w=>∃ (aL:Value),St 59 [(4,aL),(13,(.slice af p_.fns.length aO)),(14,(nV ((p_.fns.length:Int)))),(15,(nV aK))] w0 (hp w0) [ow [aL] aP] a w) (λa hf=>⟨.slice none 0 0,hf.sb rfl,hm.pk [0] rfl rfl⟩) ?_ ?_
  ·repeat clear hm
   rintro _ _ aK aP a w ⟨aL,hf,hm⟩ bW bX bY _
   refine gv hf (gS (gR (gB rfl (gE (gS (go _ 16 rfl (decide_eq_true (by omega)) (gct rfl (gSk (gS (gBk (gS (gR (gg λaA ag aQ=>?_)))))))))))))
   obtain ⟨aY,aZ,bZ,he⟩:=fp h1 aQ
   obtain ⟨rfl,_,rfl⟩:=sl3 he
   obtain ⟨ah,aC,ai,aM,a8⟩:=oK h1 aQ
   refine gI jW ag (ff aQ) rfl (gY (yn (ai.mono hm.lez) isAgg54 sizeOf54 rfl) (gAl hm zeroValue54 rfl λaB w hm=>gSN hm 0 sizeOf54 (et rfl (et (fS aM) (et (fS a8) fK))) rfl λw hm=>gE (gS (gW (.p 0 (.p 2 (.q 3 (.e 1 (.e 4 (.e 5 (.e 6 (.e 7 (.p 8 .fin) .nil) .nil) .nil) .nil) .nil)))) [1] [0,2,8] hm [0,1] [blk aB [(tV aA.name),ah,aC] 54,ow [aL] aP] rfl mxo (by kernel_rfl) (λ_ _ _ h=>h.2) λw hm hS=>tP rfl (λw=>yM rfl) (tP rfl (λw=>yF oT rfl) (tQ rfl hS (λw hm=>yL hm 0 isAgg9 rfl) (tO (gb λaD aj=>tf rfl rfl (λa hf=>fo hf rfl call34 rfl (jf _ (mkS [102,110]) _ aj)) ?_))))))))
   rintro b8 w ⟨rfl,hB⟩
   replace hm:=hm.below' hB;clear hB
   refine tAk hm [0,1] rfl λhS=>tO (gb λaE ak=>tf rfl rfl (λa hf=>fo hf rfl call35 rfl (kj _ aA.name _ ak)) ?_)
   rintro b9 w ⟨rfl,hB⟩
   replace hm:=hm.below' hB;clear hB
   refine tAn rfl (tO (gb λaF al=>tf rfl rfl (λa hf=>fo hf rfl call36 rfl (gQ _ (mkS [40]) _ al)) ?_))
   rintro ba w ⟨rfl,hB⟩
   replace hm:=hm.below' hB;clear hB
   refine tAn rfl (tO (tf rfl rfl (λa hf=>fL (vs:=#[(0,(.agg #[nV aD.kind,(tV aD.text)])),(1,(.agg #[nV aE.kind,(tV aE.text)])),(2,(.agg #[nV aF.kind,(tV aF.text)]))]) (cs:=[nV aD.kind,(tV aD.text),nV aE.kind,(tV aE.text),nV aF.kind,(tV aF.text)]) iY hf hm rfl rfl (by kernel_rfl) rfl rfl) ?_))
   rintro _ w ⟨bb,rfl,hm⟩
   replace hm:=hm.lit (xs:=([aD,aE,aF]:List eu)) 0 rfl rfl rfl rfl
   refine tAn rfl (tO (gb λam an=>?_))
   obtain ⟨ao,aq⟩:=fV.1 an
   refine tf rfl rfl (λa hf=>iL 2 iY hf hm rfl (hm.ow_rep 0 rfl) rfl rfl rfl ao) ?_
   rintro bc w hm
   rw [aq] at hm
   refine tAn rfl (tP rfl (λw=>yA rfl) (tE (gS (gS (gR (gF kE rfl (gL hm 1 isAgg47 rfl ?_)))))))
   obtain ⟨aR,aG,rfl,bd⟩:=fE aM
   refine gY (yV jO rfl) (gM rfl (gE ?_))
   obtain ⟨ar,au,rfl,be⟩:=fE (hm.ow_rep 2 rfl)
   refine gBk (gNg (λaS aa a w=>∃ (aN:Value),St 59 [(4,aN),(6,(pV aB)),(13,(sV aY aZ p_.fns.length aO)),(14,(nV ((p_.fns.length:Int)))),(15,(nV aK)),(28,(.slice aR aA.params.length aG)),(29,(nV ((aA.params.length:Int)))),(30,(nV aS))] w0 (hp w0) [ow [aN] aa,blk aB [(tV aA.name),.slice aR aA.params.length aG,aC] 54] a w) (λa hf=>⟨.slice ar am.length au,hf.sb rfl,hm.pk [2,1] rfl rfl⟩) ?_ ?_)
   ·repeat clear hm
    rintro _ _ aS aa a w ⟨aN,hf,hm⟩ bf bg bh _
    refine gv hf (gS (gR (gB rfl (gE (gS (go _ 31 rfl (decide_eq_true (by omega)) (gct rfl (gSk (gS (gBk (gS (gR (gM rfl (gg λaT av aU=>?_))))))))))))))
    obtain ⟨ab,ac,bi,he⟩:=iS aM aU
    obtain ⟨rfl,_,rfl⟩:=sl3 he
    refine gI jO av (ff aU) rfl (gY (yl isAgg9 ((gK (cs:=[(tV aT)]) (hm.now aM) aU rfl).cell (j:=0) rfl) rfl) (gA rfl (gA rfl (gE (gS (gS (gR (gM rfl (gB rfl (gE (gJg (λaV a w=>∃ (aX:Value),St 59 [(4,aX),(6,(pV aB)),(8,(tV aT)),(13,(sV aY aZ p_.fns.length aO)),(14,(nV ((p_.fns.length:Int)))),(15,(nV aK)),(28,(sV ab ac aA.params.length aG)),(29,(nV ((aA.params.length:Int)))),(30,(nV aS))] w0 (hp w0) [ow [aX] aV,blk aB [(tV aA.name),sV ab ac aA.params.length aG,aC] 54] a w) (λaV=>?_) ?_)))))))))))
    ·refine gsd 36 rfl (λaw=>?_) λaw=>?_
     ·refine gct rfl (gR (gM rfl (gC hm rfl call36 (gQ _ (mkS [44])) fun aH bj w hm => gf rfl (fun a hf => fL (vs := #[(0, (.agg #[nV aH.kind, (tV aH.text)]))]) (cs := [nV aH.kind, (tV aH.text)]) iY hf hm rfl rfl (by kernel_rfl) rfl rfl) ?_)))
      rintro _ w ⟨bk,rfl,hm⟩
      replace hm:=hm.lit (xs:=([aH]:List eu)) 0 rfl rfl rfl rfl
      refine gb λbl ax=>?_
      obtain ⟨ay,az⟩:=fV.1 ax
      refine gf rfl (λa hf=>iL 1 iY hf hm rfl (hm.ow_rep 0 rfl) rfl rfl rfl ay) ?_
      rintro bA w hm
      rw [az] at hm
      exact gA rfl (gE (gZ λa hf=>⟨bA,hf.sb rfl,hm.pk [1,2] rfl rfl⟩))
     exact gcf rfl (gSk (gZ λa hf=>⟨aN,hf.sb rfl,hm.pk [0,1] rfl rfl⟩))
    repeat clear hm
    rintro aV a w ⟨aX,hf,hm⟩
    refine gv hf (gR (gM rfl (gM rfl (gC hm rfl call35 (kj _ aT) λaI bm w hm=>gf rfl (λa hf=>fL (vs:=#[(0,(.agg #[nV aI.kind,(tV aI.text)]))]) (cs:=[nV aI.kind,(tV aI.text)]) iY hf hm rfl rfl (by kernel_rfl) rfl rfl) ?_))))
    rintro _ w ⟨bo,rfl,hm⟩
    replace hm:=hm.lit (xs:=([aI]:List eu)) 0 rfl rfl rfl rfl
    refine gb λbp bB=>?_
    obtain ⟨bC,bD⟩:=fV.1 bB
    refine gf rfl (λa hf=>iL 1 iY hf hm rfl (hm.ow_rep 0 rfl) rfl rfl rfl bC) ?_
    rintro bE w hm
    rw [bD] at hm
    exact gA rfl (gE (gR (gP (by omega) (by omega) rfl (gM rfl (gE (gZe λa hf=>⟨bE,hf.sb rfl,hm.pk [1,2] rfl rfl⟩))))))
   repeat clear hm
   rintro bq br a w ⟨bs,hf,hm⟩ bt bu
   refine gv hf (gS (gR (gB rfl (gE (gS (go _ 31 rfl (decide_eq_false (by omega)) (gcf rfl (gXt (gHh (gW (.p 0 (.p 4 (.q 5 (.e 1 (.e 2 (.e 3 (.e 6 (.p 7 .fin) .nil) .nil) .nil) .nil)))) [1,2,3] [0,4,7] hm [1] [blk aB [(tV aA.name),.slice aR aA.params.length aG,aC] 54] rfl mxo (by kernel_rfl) (λ_ _ _ h=>h.2) λw hm hS=>tP rfl (λw=>yM rfl) (tP rfl (λw=>yF l0 rfl) (tQ rfl hS (λw hm=>yL hm 0 isAgg52 rfl) (tO (gb λaJ bF=>tf rfl rfl (λa hf=>fo hf rfl call36 rfl (gQ _ (mkS [41]) _ bF)) ?_))))))))))))))
   rintro bv w ⟨rfl,hB⟩
   replace hm:=hm.below' hB;clear hB
   refine tAk hm [1] rfl λhS=>tO (tf rfl rfl (λa hf=>fL (vs:=#[(0,(.agg #[nV aJ.kind,(tV aJ.text)]))]) (cs:=[nV aJ.kind,(tV aJ.text)]) iY hf hm rfl rfl (by kernel_rfl) rfl rfl) ?_)
   rintro _ w ⟨bw,rfl,hm⟩
   replace hm:=hm.lit (xs:=([aJ]:List eu)) 0 rfl rfl rfl rfl
   refine tAk hm [2] rfl λhS=>tO (gb λbG bH=>?_)
   obtain ⟨bJ,bK⟩:=fV.1 bH
   refine tf rfl rfl (λa hf=>iL 1 iY hf hm rfl (hm.ow_rep 0 rfl) rfl rfl rfl bJ) ?_
   rintro bL w hm
   rw [bK] at hm
   refine tAk hm [2] rfl λhS=>tO (gb λbz bM=>?_)
   obtain ⟨bN,hle,hm1,hsub,bO⟩:=hm.take2 (L1:=[_]) (L2:=[_,_]) [1] [0,2] (by decide) rfl rfl
   refine tf rfl rfl (λa hf=>fo hf rfl call37 rfl (ru _ bN bG bL aA.body aC (GT.mono hle a8) hm1 (GT.mono hle hG2) (GT.mono hle hG6) _ bM)) ?_
   rintro bP w ⟨_,rfl,hB⟩
   replace hm:=bO _ _ hB;clear hB
   exact tAn rfl (tP rfl (λw=>yA rfl) (tE (gR (gP (by omega) (by omega) rfl (gM rfl (gE (gZe λa hf=>⟨bP,hf.sb rfl,hm.pk [0] rfl rfl⟩)))))))
  repeat clear hm
  rintro cA bQ a w ⟨bR,hf,hm⟩ cC cD
  exact gv hf (gS (gR (gB rfl (gE (gS (go _ 16 rfl (decide_eq_false (by omega)) (gcf rfl (gXt (gHh (gS (gR (gM rfl (gC hm rfl call11 (sY _ bQ bR (hm.ow_rep 0 rfl) (hm.now hG0)) λcE cF w hm=>gX rfl (gX rfl (gA rfl (gA rfl (gE (gRt (gr2 results12 rfl ⟨rfl,hm.below⟩)))))))))))))))))))
theorem kN (w0:World) (s1:List Fn_) (v1:Value) (h1:GT.rep (hp w0) [v1] s1) (s2:List Fn_) (v2:Value) (h2:GT.rep (hp w0) [v2] s2) (eq:Fn_→Fn_→Option Bool) (fv1:Value) (hfn1:∀ (w:World) (y0:Fn_) (z1:Value) (_:GT.rep (hp w) [z1] y0.params) (z2:Value) (_:GT.rep (hp w) [z2] y0.body) (y1:Fn_) (z3:Value) (_:GT.rep (hp w) [z3] y1.params) (z4:Value) (_:GT.rep (hp w) [z4] y1.body) (r:Bool),Below w0.heap.size w0 w→eq y0 y1=some r→th Tryz.prog fv1 [(.agg #[(tV y0.name),z1,z2]),(.agg #[(tV y1.name),z3,z4])] w (λv w'=>v=(.bool (r))∧Below w.heap.size w w')) :
    iF Tryz.prog 38 [v1,v2,fv1] w0 (gw s1 s2 eq) λr v w'=>v=(.bool (r))∧Below w0.heap.size w0 w':=by
  unfold gw
  refine iR func38 rfl λr=>?_
  have hm:=Mem.start w0
  refine gS (gR (gA rfl (gE (gS (gS (gR (gM rfl ?_)))))))
  obtain ⟨aI,aJ,rfl,ab⟩:=fE h1
  refine gY (yV jW rfl) (gM rfl ?_)
  obtain ⟨aK,aL,rfl,ac⟩:=fE h2
  refine gY (yV jW rfl) (gB rfl (gE (gsd 14 rfl (λaM=>?_) λaM=>?_)))
  ·exact gct rfl (gS (gR (gA rfl (gE (gRt (gr1 results38 rfl ⟨rfl,hm.below⟩))))))
  refine gcf rfl (gSk (gS (gS (gR (gM rfl (gY (yV jW rfl) (gM rfl (gE (gBk (gNf hm (λaA aD=>[(1,(.slice aK s2.length aL)),(2,fv1),(15,(.slice aI s1.length aJ)),(16,(nV ((s1.length:Int)))),(17,(nV aA))]) (λaA aD=>[]) [] rfl ?_ ?_))))))))))
  ·repeat clear hm
   intro ae aN aA aD w hm af ag ah aO
   refine gS (gR (gB rfl (gE (gS (go _ 18 rfl (decide_eq_true (by omega)) (gct rfl (gSk (gS (gBk (gS (gR (gM rfl (gg λaP aQ aB=>?_)))))))))))))
   obtain ⟨ai,aj,ak,he⟩:=fp h1 aB
   obtain ⟨rfl,_,rfl⟩:=sl3 he
   obtain ⟨aR,aS,aT,aE,aF⟩:=oK h1 aB
   refine gI jW aQ (ff aB) rfl (gY (yn (aT.mono hm.lez) isAgg54 sizeOf54 rfl) (gAl hm zeroValue54 rfl λal w hm=>gA rfl (gSN hm 0 sizeOf54 (et rfl (et (fS aE) (et (fS aF) fK))) rfl λw hm=>gE (gS (gR (gM rfl (gM rfl (gg λaU aV aC=>?_))))))))
   obtain ⟨am,an,ao,he⟩:=fp h2 aC
   obtain ⟨rfl,_,rfl⟩:=sl3 he
   obtain ⟨aX,aY,aZ,aG,aH⟩:=oK h2 aC
   refine gI jW aV (ff aC) rfl (gY (yn (aZ.mono hm.lez) isAgg54 sizeOf54 rfl) (gAl hm zeroValue54 rfl λaq w hm=>gSN hm 0 sizeOf54 (et rfl (et (fS aG) (et (fS aH) fK))) rfl λw hm=>gE (gS (gR (gM rfl (gY (yn (hm.blk_at 1 rfl) isAgg54 sizeOf54 rfl) (gY (yn (hm.blk_at 0 rfl) isAgg54 sizeOf54 rfl) (gb λar a8=>gf rfl (λa hf=>py hf rfl rfl rfl (hfn1 _ aP aR (hm.now aE) aS (hm.now aF) aU aX (hm.now aG) aY (hm.now aH) _ hm.below a8)) ?_))))))))
   rintro au w ⟨rfl,hB⟩
   replace hm:=hm.below' hB;clear hB
   refine gN rfl (gE (gsn 30 rfl (λaa=>?_) λaa=>?_))
   ·exact gct rfl (gS (gR (gA rfl (gE (gRt (gLr aO aN (gr1 results38 rfl ⟨rfl,hm.below⟩)))))))
   exact gcf rfl (gSk (gR (gP (by omega) (by omega) rfl (gM rfl (gE (gze hm [] rfl))))))
  repeat clear hm
  intro av aw w hm ax ay
  exact gS (gR (gB rfl (gE (gS (go _ 18 rfl (decide_eq_false (by omega)) (gcf rfl (gXt (gHh (gS (gR (gA rfl (gE (gRt (gr1 results38 rfl ⟨rfl,hm.below⟩))))))))))))))
theorem nZ (w0:World) (s1:List Str) (v1:Value) (h1:GT.rep (hp w0) [v1] s1) (s2:List Str) (v2:Value) (h2:GT.rep (hp w0) [v2] s2) :
    iF Tryz.prog 40 [v1,v2] w0 (jh s1 s2) λr v w'=>v=(.bool (r))∧Below w0.heap.size w0 w':=by
  unfold jh
  refine iR func40 rfl λr=>?_
  have hm:=Mem.start w0
  refine gS (gR (gA rfl (gE (gS (gS (gR (gM rfl ?_)))))))
  obtain ⟨aG,aH,rfl,aQ⟩:=fE h1
  refine gY (yV jO rfl) (gM rfl ?_)
  obtain ⟨aI,aJ,rfl,aR⟩:=fE h2
  refine gY (yV jO rfl) (gB rfl (gE (gsd 10 rfl (λaK=>?_) λaK=>?_)))
  ·exact gct rfl (gS (gR (gA rfl (gE (gRt (gr1 results40 rfl ⟨rfl,hm.below⟩))))))
  refine gcf rfl (gSk (gS (gS (gR (gM rfl (gY (yV jO rfl) (gM rfl (gE (gBk (gNf hm (λaA aD=>[(0,(.slice aG s1.length aH)),(1,(.slice aI s2.length aJ)),(12,(nV ((s1.length:Int)))),(13,(nV aA))]) (λaA aD=>[]) [] rfl ?_ ?_))))))))))
  ·repeat clear hm
   intro aS aL aA aD w hm aT aU aV aM
   refine gS (gR (gB rfl (gE (gS (go _ 14 rfl (decide_eq_true (by omega)) (gct rfl (gSk (gS (gBk (gS (gR (gM rfl (gA rfl (gE (gS (gW (.p 0 (.p 1 (.p 2 (.p 4 (.p 5 (.p 6 (.q 3 (.e 7 (.p 8 .fin) .nil)))))))) [7] [0,1,2,4,5,6,8] hm [] [] rfl mxo (by kernel_rfl) (λ_ _ _ h=>h.2) λw hm hS=>tP rfl (λw=>yM rfl) (tP rfl (λw=>yM rfl) (gg λaE aN aB=>?_))))))))))))))))))
   obtain ⟨aX,aY,aZ,he⟩:=iS h1 aB
   obtain ⟨rfl,_,rfl⟩:=sl3 he
   refine tP rfl (λw=>yI jO aN (ff aB) rfl) (tP rfl (λw=>yM rfl) (tP rfl (λw=>yM rfl) (gg λaF aO aC=>?_)))
   obtain ⟨a8,aa,ab,he⟩:=iS h2 aC
   obtain ⟨rfl,_,rfl⟩:=sl3 he
   refine tP rfl (λw=>yI jO aO (ff aC) rfl) (tQ rfl hS (λw hm=>yl isAgg9 ((gK (cs:=[(tV aE)]) (hm.now h1) aB rfl).cell (j:=0) rfl) rfl) (tO (tY rfl (yl isAgg9 ((gK (cs:=[(tV aF)]) (hm.now h2) aC rfl).cell (j:=0) rfl) rfl) (tAs hS (tP rfl (λw=>yG rfl (oM (p:=aE) (q:=aF) rfl rfl rfl)) (tE (gsd 24 rfl (λaP=>?_) λaP=>?_)))))))
   ·exact gct rfl (gS (gR (gA rfl (gE (gRt (gLr aM aL (gr1 results40 rfl ⟨rfl,hm.below⟩)))))))
   exact gcf rfl (gSk (gR (gP (by omega) (by omega) rfl (gM rfl (gE (gze hm [] rfl))))))
  repeat clear hm
  intro ac ae w hm af ag
  exact gS (gR (gB rfl (gE (gS (go _ 14 rfl (decide_eq_false (by omega)) (gcf rfl (gXt (gHh (gS (gR (gA rfl (gE (gRt (gr1 results40 rfl ⟨rfl,hm.below⟩))))))))))))))
theorem gy (w0:World) (s1:List fB) (v1:Value) (h1:GT.rep (hp w0) [v1] s1) (s2:List fB) (v2:Value) (h2:GT.rep (hp w0) [v2] s2) (eq:fB→fB→Option Bool) (fv1:Value) (hfn1:∀ (w:World) (y0:fB) (z1:Value) (_:GT.rep (hp w) [z1] y0.args) (z2:Value) (_:GT.rep (hp w) [z2] y0.body) (z3:Value) (_:GT.rep (hp w) [z3] y0.else_) (y1:fB) (z4:Value) (_:GT.rep (hp w) [z4] y1.args) (z5:Value) (_:GT.rep (hp w) [z5] y1.body) (z6:Value) (_:GT.rep (hp w) [z6] y1.else_) (r:Bool),Below w0.heap.size w0 w→eq y0 y1=some r→th Tryz.prog fv1 [(.agg #[nV y0.op,(tV y0.name),z1,z2,z3]),(.agg #[nV y1.op,(tV y1.name),z4,z5,z6])] w (λv w'=>v=(.bool (r))∧Below w.heap.size w w')) :
    iF Tryz.prog 41 [v1,v2,fv1] w0 (fQ s1 s2 eq) λr v w'=>v=(.bool (r))∧Below w0.heap.size w0 w':=by
  unfold fQ
  refine iR func41 rfl λr=>?_
  have hm:=Mem.start w0
  refine gS (gR (gA rfl (gE (gS (gS (gR (gM rfl ?_)))))))
  obtain ⟨aK,aL,rfl,ag⟩:=fE h1
  refine gY (yV jN rfl) (gM rfl ?_)
  obtain ⟨aM,aN,rfl,ah⟩:=fE h2
  refine gY (yV jN rfl) (gB rfl (gE (gsd 14 rfl (λaO=>?_) λaO=>?_)))
  ·exact gct rfl (gS (gR (gA rfl (gE (gRt (gr1 results41 rfl ⟨rfl,hm.below⟩))))))
  refine gcf rfl (gSk (gS (gS (gR (gM rfl (gY (yV jN rfl) (gM rfl (gE (gBk (gNf hm (λaA aD=>[(1,(.slice aM s2.length aN)),(2,fv1),(15,(.slice aK s1.length aL)),(16,(nV ((s1.length:Int)))),(17,(nV aA))]) (λaA aD=>[]) [] rfl ?_ ?_))))))))))
  ·repeat clear hm
   intro ai aP aA aD w hm aj ak al aQ
   refine gS (gR (gB rfl (gE (gS (go _ 18 rfl (decide_eq_true (by omega)) (gct rfl (gSk (gS (gBk (gS (gR (gM rfl (gg λaR aS aB=>?_)))))))))))))
   obtain ⟨am,an,ao,he⟩:=fp h1 aB
   obtain ⟨rfl,_,rfl⟩:=sl3 he
   obtain ⟨aT,aU,aV,aX,aE,aF,aG⟩:=lJ h1 aB
   refine gI jN aS (ff aB) rfl (gY (yn (aX.mono hm.lez) isAgg71 sizeOf71 rfl) (gAl hm zeroValue71 rfl λaq w hm=>gA rfl (gSN hm 0 sizeOf71 (et rfl (et rfl (et (fS aE) (et (fS aF) (et (fS aG) fK))))) rfl λw hm=>gE (gS (gR (gM rfl (gM rfl (gg λaY aZ aC=>?_))))))))
   obtain ⟨ar,au,av,he⟩:=fp h2 aC
   obtain ⟨rfl,_,rfl⟩:=sl3 he
   obtain ⟨a8,aa,ab,ac,aH,aI,aJ⟩:=lJ h2 aC
   refine gI jN aZ (ff aC) rfl (gY (yn (ac.mono hm.lez) isAgg71 sizeOf71 rfl) (gAl hm zeroValue71 rfl λaw w hm=>gSN hm 0 sizeOf71 (et rfl (et rfl (et (fS aH) (et (fS aI) (et (fS aJ) fK))))) rfl λw hm=>gE (gS (gR (gM rfl (gY (yn (hm.blk_at 1 rfl) isAgg71 sizeOf71 rfl) (gY (yn (hm.blk_at 0 rfl) isAgg71 sizeOf71 rfl) (gb λax ae=>gf rfl (λa hf=>py hf rfl rfl rfl (hfn1 _ aR aT (hm.now aE) aU (hm.now aF) aV (hm.now aG) aY a8 (hm.now aH) aa (hm.now aI) ab (hm.now aJ) _ hm.below ae)) ?_))))))))
   rintro ay w ⟨rfl,hB⟩
   replace hm:=hm.below' hB;clear hB
   refine gN rfl (gE (gsn 30 rfl (λaf=>?_) λaf=>?_))
   ·exact gct rfl (gS (gR (gA rfl (gE (gRt (gLr aQ aP (gr1 results41 rfl ⟨rfl,hm.below⟩)))))))
   exact gcf rfl (gSk (gR (gP (by omega) (by omega) rfl (gM rfl (gE (gze hm [] rfl))))))
  repeat clear hm
  intro az bA w hm bB bC
  exact gS (gR (gB rfl (gE (gS (go _ 18 rfl (decide_eq_false (by omega)) (gcf rfl (gXt (gHh (gS (gR (gA rfl (gE (gRt (gr1 results41 rfl ⟨rfl,hm.below⟩))))))))))))))
theorem iU (w0:World) (s1:List ey) (v1:Value) (h1:GT.rep (hp w0) [v1] s1) (s2:List ey) (v2:Value) (h2:GT.rep (hp w0) [v2] s2) (eq:ey→ey→Option Bool) (fv1:Value) (hfn1:∀ (w:World) (y0:ey) (z1:Value) (_:GT.rep (hp w) [z1] y0.kids) (y1:ey) (z2:Value) (_:GT.rep (hp w) [z2] y1.kids) (r:Bool),Below w0.heap.size w0 w→eq y0 y1=some r→th Tryz.prog fv1 [(.agg #[nV y0.op,nV y0.n_,(tV y0.name),z1]),(.agg #[nV y1.op,nV y1.n_,(tV y1.name),z2])] w (λv w'=>v=(.bool (r))∧Below w.heap.size w w')) :
    iF Tryz.prog 77 [v1,v2,fv1] w0 (fM s1 s2 eq) λr v w'=>v=(.bool (r))∧Below w0.heap.size w0 w':=by
  unfold fM
  refine iR func77 rfl λr=>?_
  have hm:=Mem.start w0
  refine gS (gR (gA rfl (gE (gS (gS (gR (gM rfl ?_)))))))
  obtain ⟨aG,aH,rfl,aY⟩:=fE h1
  refine gY (yV iu rfl) (gM rfl ?_)
  obtain ⟨aI,aJ,rfl,aZ⟩:=fE h2
  refine gY (yV iu rfl) (gB rfl (gE (gsd 14 rfl (λaK=>?_) λaK=>?_)))
  ·exact gct rfl (gS (gR (gA rfl (gE (gRt (gr1 results77 rfl ⟨rfl,hm.below⟩))))))
  refine gcf rfl (gSk (gS (gS (gR (gM rfl (gY (yV iu rfl) (gM rfl (gE (gBk (gNf hm (λaA aD=>[(1,(.slice aI s2.length aJ)),(2,fv1),(15,(.slice aG s1.length aH)),(16,(nV ((s1.length:Int)))),(17,(nV aA))]) (λaA aD=>[]) [] rfl ?_ ?_))))))))))
  ·repeat clear hm
   intro a8 aL aA aD w hm aa ab ac aM
   refine gS (gR (gB rfl (gE (gS (go _ 18 rfl (decide_eq_true (by omega)) (gct rfl (gSk (gS (gBk (gS (gR (gM rfl (gg λaN aO aB=>?_)))))))))))))
   obtain ⟨ae,af,ag,he⟩:=fp h1 aB
   obtain ⟨rfl,_,rfl⟩:=sl3 he
   obtain ⟨aP,aQ,aE⟩:=jE h1 aB
   refine gI iu aO (ff aB) rfl (gY (yn (aQ.mono hm.lez) isAgg86 sizeOf86 rfl) (gAl hm zeroValue86 rfl λah w hm=>gA rfl (gSN hm 0 sizeOf86 (et rfl (et rfl (et rfl (et (fS aE) fK)))) rfl λw hm=>gE (gS (gR (gM rfl (gM rfl (gg λaR aS aC=>?_))))))))
   obtain ⟨ai,aj,ak,he⟩:=fp h2 aC
   obtain ⟨rfl,_,rfl⟩:=sl3 he
   obtain ⟨aT,aU,aF⟩:=jE h2 aC
   refine gI iu aS (ff aC) rfl (gY (yn (aU.mono hm.lez) isAgg86 sizeOf86 rfl) (gAl hm zeroValue86 rfl λal w hm=>gSN hm 0 sizeOf86 (et rfl (et rfl (et rfl (et (fS aF) fK)))) rfl λw hm=>gE (gS (gR (gM rfl (gY (yn (hm.blk_at 1 rfl) isAgg86 sizeOf86 rfl) (gY (yn (hm.blk_at 0 rfl) isAgg86 sizeOf86 rfl) (gb λam aV=>gf rfl (λa hf=>py hf rfl rfl rfl (hfn1 _ aN aP (hm.now aE) aR aT (hm.now aF) _ hm.below aV)) ?_))))))))
   rintro an w ⟨rfl,hB⟩
   replace hm:=hm.below' hB;clear hB
   refine gN rfl (gE (gsn 30 rfl (λaX=>?_) λaX=>?_))
   ·exact gct rfl (gS (gR (gA rfl (gE (gRt (gLr aM aL (gr1 results77 rfl ⟨rfl,hm.below⟩)))))))
   exact gcf rfl (gSk (gR (gP (by omega) (by omega) rfl (gM rfl (gE (gze hm [] rfl))))))
  repeat clear hm
  intro ao aq w hm ar au
  exact gS (gR (gB rfl (gE (gS (go _ 18 rfl (decide_eq_false (by omega)) (gcf rfl (gXt (gHh (gS (gR (gA rfl (gE (gRt (gr1 results77 rfl ⟨rfl,hm.below⟩))))))))))))))
theorem sl  : ∀ (a_:ey) (b_:ey) (r:Bool),jM a_ b_=some r→∀ (w0:World) (v1:Value) (h1:GT.rep (hp w0) [v1] a_.kids) (v2:Value) (h2:GT.rep (hp w0) [v2] b_.kids),Con Tryz.prog 78 [(.agg #[nV a_.op,nV a_.n_,(tV a_.name),v1]),(.agg #[nV b_.op,nV b_.n_,(tV b_.name),v2])] w0 (λv w'=>v=(.bool (r))∧Below w0.heap.size w0 w'):=by
  refine jM.partial_correctness  (motive:=λa_ b_ r=>∀ (w0:World) (v1:Value) (h1:GT.rep (hp w0) [v1] a_.kids) (v2:Value) (h2:GT.rep (hp w0) [v2] b_.kids),Con Tryz.prog 78 [(.agg #[nV a_.op,nV a_.n_,(tV a_.name),v1]),(.agg #[nV b_.op,nV b_.n_,(tV b_.name),v2])] w0 (λv w'=>v=(.bool (r))∧Below w0.heap.size w0 w')) ?_
  intro rec_ ih_ a_ b_ r hq w0 v1 h1 v2 h2
  have impl_SameExpr_rec:∀ (w0:World) (a_:ey) (v1:Value) (h1:GT.rep (hp w0) [v1] a_.kids) (b_:ey) (v2:Value) (h2:GT.rep (hp w0) [v2] b_.kids) (r:Bool) (hq:rec_ a_ b_=some r),Con Tryz.prog 78 [(.agg #[nV a_.op,nV a_.n_,(tV a_.name),v1]),(.agg #[nV b_.op,nV b_.n_,(tV b_.name),v2])] w0 (λv w'=>v=(.bool (r))∧Below w0.heap.size w0 w'):=λw0 a_ v1 h1 b_ v2 h2 r hq=>ih_ a_ b_ r hq w0 v1 h1 v2 h2
  refine kI (ρ:=Bool) (R:=λr v w'=>v=(.bool (r))∧Below w0.heap.size w0 w') func78 rfl hq ?_
  have hm:=Mem.start w0
  refine gS (gR (gBx hm rfl λaI w hm=>gBx hm rfl λaJ w hm=>gA rfl (gE (gS (gJ hm (λaA=>[(4,(.bool (aA)))]) (λaA=>[]) (λaA=>?_) ?_)))))
  ·refine gR (gF ik rfl (gL hm 1 isAgg3 rfl (gF ik rfl (gL hm 0 isAgg3 rfl (gB rfl (gM rfl (gsd 10 rfl (λaB=>?_) λaB=>?_)))))))
   ·refine gF mC rfl (gL hm 1 isAgg3 rfl (gF mC rfl (gL hm 0 isAgg3 rfl (gB rfl (gKt rfl (gM rfl (gsd 17 rfl (λaC=>?_) λaC=>?_)))))))
    ·refine gF mB rfl (gL hm 1 isAgg9 rfl (gF mB rfl (gL hm 0 isAgg9 rfl (gY (yG rfl (qm (p:=a_.name) (q:=b_.name) rfl rfl rfl)) (gKt rfl (gM rfl (gsd 24 rfl (λaD=>?_) λaD=>?_)))))))
     ·exact gF iT rfl (gL hm 1 isAgg69 rfl (gF iT rfl (gL hm 0 isAgg69 rfl (gC hm rfl call77 (iU _ a_.kids v1 (hm.now h1) b_.kids v2 (hm.now h2) (λy0 y1=>rec_ y0 y1) (.func (.func 78) #[] #[]) (λw y0 aE aF y1 aG aH r hB hq=>⟨78,[],rfl,call78,impl_SameExpr_rec w y0 aE aF y1 aG aH  r hq⟩)) λaK aL w hm=>gKt rfl (gA rfl (gE (gz hm [] rfl)))))))
     exact gO rfl (gO rfl (gO rfl (gO rfl (gO rfl (gKf rfl (gA rfl (gE (gz hm [] rfl))))))))
    exact gO rfl (gO rfl (gO rfl (gO rfl (gO rfl (gKf rfl (gM rfl (gO rfl (gO rfl (gO rfl (gO rfl (gO rfl (gKf rfl (gA rfl (gE (gz hm [] rfl)))))))))))))))
   exact gO rfl (gO rfl (gO rfl (gO rfl (gO rfl (gKf rfl (gM rfl (gO rfl (gO rfl (gO rfl (gO rfl (gO rfl (gKf rfl (gM rfl (gO rfl (gO rfl (gO rfl (gO rfl (gO rfl (gKf rfl (gA rfl (gE (gz hm [] rfl))))))))))))))))))))))
  repeat clear hm
  intro aA w hm
  exact gRt (gr1 results78 rfl ⟨rfl,hm.below⟩)
theorem tl (w0:World) (a_:ey) (v1:Value) (h1:GT.rep (hp w0) [v1] a_.kids) (b_:ey) (v2:Value) (h2:GT.rep (hp w0) [v2] b_.kids) (r:Bool) (hq:jM a_ b_=some r):Con Tryz.prog 78 [(.agg #[nV a_.op,nV a_.n_,(tV a_.name),v1]),(.agg #[nV b_.op,nV b_.n_,(tV b_.name),v2])] w0 (λv w'=>v=(.bool (r))∧Below w0.heap.size w0 w'):=sl a_ b_ r hq w0 v1 h1 v2 h2
theorem sM  : ∀ (a_:fB) (b_:fB) (r:Bool),jq a_ b_=some r→∀ (w0:World) (v1:Value) (h1:GT.rep (hp w0) [v1] a_.args) (v2:Value) (h2:GT.rep (hp w0) [v2] a_.body) (v3:Value) (h3:GT.rep (hp w0) [v3] a_.else_) (v4:Value) (h4:GT.rep (hp w0) [v4] b_.args) (v5:Value) (h5:GT.rep (hp w0) [v5] b_.body) (v6:Value) (h6:GT.rep (hp w0) [v6] b_.else_),Con Tryz.prog 42 [(.agg #[nV a_.op,(tV a_.name),v1,v2,v3]),(.agg #[nV b_.op,(tV b_.name),v4,v5,v6])] w0 (λv w'=>v=(.bool (r))∧Below w0.heap.size w0 w'):=by
  refine jq.partial_correctness  (motive:=λa_ b_ r=>∀ (w0:World) (v1:Value) (h1:GT.rep (hp w0) [v1] a_.args) (v2:Value) (h2:GT.rep (hp w0) [v2] a_.body) (v3:Value) (h3:GT.rep (hp w0) [v3] a_.else_) (v4:Value) (h4:GT.rep (hp w0) [v4] b_.args) (v5:Value) (h5:GT.rep (hp w0) [v5] b_.body) (v6:Value) (h6:GT.rep (hp w0) [v6] b_.else_),Con Tryz.prog 42 [(.agg #[nV a_.op,(tV a_.name),v1,v2,v3]),(.agg #[nV b_.op,(tV b_.name),v4,v5,v6])] w0 (λv w'=>v=(.bool (r))∧Below w0.heap.size w0 w')) ?_
  intro rec_ ih_ a_ b_ r hq w0 v1 h1 v2 h2 v3 h3 v4 h4 v5 h5 v6 h6
  have impl_sameStmt_rec:∀ (w0:World) (a_:fB) (v1:Value) (h1:GT.rep (hp w0) [v1] a_.args) (v2:Value) (h2:GT.rep (hp w0) [v2] a_.body) (v3:Value) (h3:GT.rep (hp w0) [v3] a_.else_) (b_:fB) (v4:Value) (h4:GT.rep (hp w0) [v4] b_.args) (v5:Value) (h5:GT.rep (hp w0) [v5] b_.body) (v6:Value) (h6:GT.rep (hp w0) [v6] b_.else_) (r:Bool) (hq:rec_ a_ b_=some r),Con Tryz.prog 42 [(.agg #[nV a_.op,(tV a_.name),v1,v2,v3]),(.agg #[nV b_.op,(tV b_.name),v4,v5,v6])] w0 (λv w'=>v=(.bool (r))∧Below w0.heap.size w0 w'):=λw0 a_ v1 h1 v2 h2 v3 h3 b_ v4 h4 v5 h5 v6 h6 r hq=>ih_ a_ b_ r hq w0 v1 h1 v2 h2 v3 h3 v4 h4 v5 h5 v6 h6
  refine kI (ρ:=Bool) (R:=λr v w'=>v=(.bool (r))∧Below w0.heap.size w0 w') func42 rfl hq ?_
  have hm:=Mem.start w0
  refine gS (gR (gBx hm rfl λaR w hm=>gBx hm rfl λaS w hm=>gA rfl (gE (gS (gJ hm (λaE=>[(4,(.bool (aE)))]) (λaE=>[]) (λaE=>?_) ?_)))))
  ·refine gR (gF jY rfl (gL hm 1 isAgg3 rfl (gF jY rfl (gL hm 0 isAgg3 rfl (gB rfl (gM rfl (gsd 10 rfl (λaN=>?_) λaN=>?_)))))))
   ·refine gF lL rfl (gL hm 1 isAgg9 rfl (gF lL rfl (gL hm 0 isAgg9 rfl (gY (yG rfl (qm (p:=a_.name) (q:=b_.name) rfl rfl rfl)) (gKt rfl (gM rfl (gsd 17 rfl (λaO=>?_) λaO=>?_)))))))
    ·refine gF je rfl (gL hm 1 isAgg69 rfl (gF je rfl (gL hm 0 isAgg69 rfl (gC hm rfl call77 (iU _ a_.args v1 (hm.now h1) b_.args v4 (hm.now h4) (λy0 y1=>jM y0 y1) (.func (.func 78) #[] #[]) (λw y0 aA aB y1 aC aD r hB hq=>⟨78,[],rfl,call78,tl w y0 aA aB y1 aC aD  r hq⟩)) λaT aU w hm=>gKt rfl (gM rfl (gs 24 rfl (λaP=>?_) λaP=>?_))))))
     ·refine gF lB rfl (gL hm 1 isAgg52 rfl (gF lB rfl (gL hm 0 isAgg52 rfl (gC hm rfl call41 (gy _ a_.body v2 (hm.now h2) b_.body v5 (hm.now h5) (λy0 y1=>rec_ y0 y1) (.func (.func 42) #[] #[]) (λw y0 aA aB aF aG aH aI y1 aC aD aJ aK aL aM r hB hq=>⟨42,[],rfl,call42,impl_sameStmt_rec w y0 aA aB aF aG aH aI y1 aC aD aJ aK aL aM  r hq⟩)) λaV aX w hm=>gKt rfl (gM rfl (gs 31 rfl (λaQ=>?_) λaQ=>?_))))))
      ·exact gF lH rfl (gL hm 1 isAgg52 rfl (gF lH rfl (gL hm 0 isAgg52 rfl (gC hm rfl call41 (gy _ a_.else_ v3 (hm.now h3) b_.else_ v6 (hm.now h6) (λy0 y1=>rec_ y0 y1) (.func (.func 42) #[] #[]) (λw y0 aA aB aF aG aH aI y1 aC aD aJ aK aL aM r hB hq=>⟨42,[],rfl,call42,impl_sameStmt_rec w y0 aA aB aF aG aH aI y1 aC aD aJ aK aL aM  r hq⟩)) λaY aZ w hm=>gKt rfl (gA rfl (gE (gz hm [] rfl)))))))
      exact gO rfl (gO rfl (gO rfl (gO rfl (gO rfl (gKf rfl (gA rfl (gE (gz hm [] rfl))))))))
     exact gO rfl (gO rfl (gO rfl (gO rfl (gO rfl (gKf rfl (gM rfl (gO rfl (gO rfl (gO rfl (gO rfl (gO rfl (gKf rfl (gA rfl (gE (gz hm [] rfl)))))))))))))))
    exact gO rfl (gO rfl (gO rfl (gO rfl (gO rfl (gKf rfl (gM rfl (gO rfl (gO rfl (gO rfl (gO rfl (gO rfl (gKf rfl (gM rfl (gO rfl (gO rfl (gO rfl (gO rfl (gO rfl (gKf rfl (gA rfl (gE (gz hm [] rfl))))))))))))))))))))))
   exact gO rfl (gO rfl (gO rfl (gO rfl (gO rfl (gKf rfl (gM rfl (gO rfl (gO rfl (gO rfl (gO rfl (gO rfl (gKf rfl (gM rfl (gO rfl (gO rfl (gO rfl (gO rfl (gO rfl (gKf rfl (gM rfl (gO rfl (gO rfl (gO rfl (gO rfl (gO rfl (gKf rfl (gA rfl (gE (gz hm [] rfl)))))))))))))))))))))))))))))
  repeat clear hm
  intro aE w hm
  exact gRt (gr1 results42 rfl ⟨rfl,hm.below⟩)
theorem ss (w0:World) (a_:fB) (v1:Value) (h1:GT.rep (hp w0) [v1] a_.args) (v2:Value) (h2:GT.rep (hp w0) [v2] a_.body) (v3:Value) (h3:GT.rep (hp w0) [v3] a_.else_) (b_:fB) (v4:Value) (h4:GT.rep (hp w0) [v4] b_.args) (v5:Value) (h5:GT.rep (hp w0) [v5] b_.body) (v6:Value) (h6:GT.rep (hp w0) [v6] b_.else_) (r:Bool) (hq:jq a_ b_=some r):Con Tryz.prog 42 [(.agg #[nV a_.op,(tV a_.name),v1,v2,v3]),(.agg #[nV b_.op,(tV b_.name),v4,v5,v6])] w0 (λv w'=>v=(.bool (r))∧Below w0.heap.size w0 w'):=sM a_ b_ r hq w0 v1 h1 v2 h2 v3 h3 v4 h4 v5 h5 v6 h6
theorem px (w0:World) (f:Fn_) (v1:Value) (h1:GT.rep (hp w0) [v1] f.params) (v2:Value) (h2:GT.rep (hp w0) [v2] f.body) (g:Fn_) (v3:Value) (h3:GT.rep (hp w0) [v3] g.params) (v4:Value) (h4:GT.rep (hp w0) [v4] g.body) :
    iF Tryz.prog 39 [(.agg #[(tV f.name),v1,v2]),(.agg #[(tV g.name),v3,v4])] w0 (kX f g) λr v w'=>v=(.bool (r))∧Below w0.heap.size w0 w':=by
  unfold kX
  refine iR func39 rfl λr=>?_
  have hm:=Mem.start w0
  refine gS (gR (gBx hm rfl λaP w hm=>gBx hm rfl λaQ w hm=>gA rfl (gE (gS (gJ hm (λaA=>[(4,(.bool (aA)))]) (λaA=>[]) (λaA=>?_) ?_)))))
  ·refine gR (gF oT rfl (gL hm 1 isAgg9 rfl (gF oT rfl (gL hm 0 isAgg9 rfl (gY (yG rfl (qm (p:=f.name) (q:=g.name) rfl rfl rfl)) (gM rfl (gsd 10 rfl (λaB=>?_) λaB=>?_)))))))
   ·refine gF kE rfl (gL hm 1 isAgg47 rfl (gF kE rfl (gL hm 0 isAgg47 rfl (gC hm rfl call40 (nZ _ f.params v1 (hm.now h1) g.params v3 (hm.now h3)) λaR aS w hm=>gKt rfl (gM rfl (gs 17 rfl (λaC=>?_) λaC=>?_))))))
    ·exact gF l0 rfl (gL hm 1 isAgg52 rfl (gF l0 rfl (gL hm 0 isAgg52 rfl (gC hm rfl call41 (gy _ f.body v2 (hm.now h2) g.body v4 (hm.now h4) (λy0 y1=>jq y0 y1) (.func (.func 42) #[] #[]) (λw y0 aD aE aF aG aH aI y1 aJ aK aL aM aN aO r hB hq=>⟨42,[],rfl,call42,ss w y0 aD aE aF aG aH aI y1 aJ aK aL aM aN aO  r hq⟩)) λaT aU w hm=>gKt rfl (gA rfl (gE (gz hm [] rfl)))))))
    exact gO rfl (gO rfl (gO rfl (gO rfl (gO rfl (gKf rfl (gA rfl (gE (gz hm [] rfl))))))))
   exact gO rfl (gO rfl (gO rfl (gO rfl (gO rfl (gKf rfl (gM rfl (gO rfl (gO rfl (gO rfl (gO rfl (gO rfl (gKf rfl (gA rfl (gE (gz hm [] rfl)))))))))))))))
  repeat clear hm
  intro aA w hm
  exact gRt (gr1 results39 rfl ⟨rfl,hm.below⟩)
theorem qh (w0:World) (a_:fZ) (v1:Value) (h1:GT.rep (hp w0) [v1] a_.fns) (b_:fZ) (v2:Value) (h2:GT.rep (hp w0) [v2] b_.fns) :
    iF Tryz.prog 13 [(.agg #[v1]),(.agg #[v2])] w0 (kP a_ b_) λr v w'=>v=(.bool (r))∧Below w0.heap.size w0 w':=by
  unfold kP
  refine iR func13 rfl λr=>?_
  have hm:=Mem.start w0
  exact gS (gR (gBx hm rfl λaI w hm=>gBx hm rfl λaJ w hm=>gA rfl (gE (gS (gR (gF im rfl (gL hm 1 isAgg24 rfl (gF im rfl (gL hm 0 isAgg24 rfl (gC hm rfl call38 (kN _ a_.fns v1 (hm.now h1) b_.fns v2 (hm.now h2) (λy0 y1=>kX y0 y1) (.func (.func 39) #[] #[]) (λw y0 aA aB aC aD y1 aE aF aG aH r hB hq=>⟨39,[],rfl,call39,px w y0 aA aB aC aD y1 aE aF aG aH  r hq⟩)) λaK aL w hm=>gA rfl (gE (gRt (gr1 results13 rfl ⟨rfl,hm.below⟩)))))))))))))
theorem rz (w0:World) (p_:fZ) (v1:Value) (h1:GT.rep (hp w0) [v1] p_.fns) (hG0:GT.rep (hp w0) [.slice (some ⟨0,0,none⟩) 9 9] fP) (hG2:GT.rep (hp w0) [.slice (some ⟨2,0,none⟩) 1 1] [fA]) :
    iF Tryz.prog 14 [(.agg #[v1])] w0 (od p_) λr v w'=>v=(nV r)∧Below w0.heap.size w0 w':=by
  unfold od
  refine iR func14 rfl λr=>?_
  have hm:=Mem.start w0
  refine gS (gR (gBx hm rfl λaB w hm=>gA rfl (gE (gS (gS (gR (gY (yn (hm.blk_at 0 rfl) isAgg26 sizeOf26 rfl) (gC hm rfl call22 (mG _ p_ v1 (hm.now h1) (hm.now hG0) (hm.now hG2)) λaC aD w hm=>gN rfl (gE (gsn 7 rfl (λaA=>?_) λaA=>?_))))))))))
  ·exact gct rfl (gS (gR (gA rfl (gE (gRt (gr1 results14 rfl ⟨rfl,hm.below⟩))))))
  exact gcf rfl (gSk (gS (gR (gY (yn (hm.blk_at 0 rfl) isAgg26 sizeOf26 rfl) (gC hm rfl call43 (qR _ p_ v1 (hm.now h1)) λaE aF w hm=>gM rfl (gX rfl (gX rfl (gA rfl (gA rfl (gE (gS (gR (gM rfl (gA rfl (gE (gRt (gr1 results14 rfl ⟨rfl,hm.below⟩)))))))))))))))))
theorem qX (w0:World) (code:List UInt8) (v1:Value) (h1:GT.rep (hp w0) [v1] code) (more:List UInt8) (v2:Value) (h2:GT.rep (hp w0) [v2] more) (hG0:GT.rep (hp w0) [.slice (some ⟨0,0,none⟩) 9 9] fP) (hG1:GT.rep (hp w0) [.slice (some ⟨1,0,none⟩) 1 1] [fj]) (hG2:GT.rep (hp w0) [.slice (some ⟨2,0,none⟩) 1 1] [fA]) (hG6:GT.rep (hp w0) [.pointer (some ⟨6,0,none⟩)] fm) :
    iF Tryz.prog 5 [v1,v2] w0 (lZ code more) λr v w'=>v=(.bool (r))∧Below w0.heap.size w0 w':=by
  unfold lZ
  refine iR func5 rfl λr=>?_
  have hm:=Mem.start w0
  refine gS (gR (gA rfl (gE (gS (gS (gJ hm (λaM=>[(0,v1),(1,v2),(31,(.bool (aM)))]) (λaM=>[]) (λaM=>?_) ?_))))))
  ·refine gR (gM rfl ?_)
   obtain ⟨bz,cA,rfl,cC⟩:=fE h1
   refine gY (yV qS rfl) (gB rfl (gM rfl (gsd 27 rfl (λbE=>?_) λbE=>?_)))
   ·exact gO rfl (gO rfl (gO rfl (gKt rfl (gE (gz hm [] rfl)))))
   refine gM rfl ?_
   obtain ⟨cD,cE,rfl,cF⟩:=fE h2
   exact gY (yV qS rfl) (gB rfl (gKf rfl (gE (gz hm [] rfl))))
  repeat clear hm
  intro aM w hm
  refine gs 31 rfl (λbF=>?_) λbF=>?_
  ·exact gct rfl (gS (gR (gA rfl (gE (gRt (gr1 results5 rfl ⟨rfl,hm.below⟩))))))
  refine gcf rfl (gSk (gS (gR (gM rfl (gC hm rfl call6 (nJ _ code v1 (hm.now h1)) λaE cG w hm=>gM rfl (gC hm rfl call6 (nJ _ more v2 (hm.now h2)) λaF cH w hm=>gA rfl (gA rfl (gE (gS (gR (gM rfl (gCg rfl call7 (mb _ aE (hm.now hG0) (hm.now hG1) (hm.now hG2)) ?_))))))))))))
  rintro aD cI cJ w ⟨aH,rfl,hB⟩
  replace hm:=hm.give hB;clear hB
  refine gM rfl (gX rfl (gX rfl (gAl hm zeroValue26 rfl λam w hm=>gSN hm 0 sizeOf26 (et (fS (hm.ow_rep 1 rfl)) fK) rfl λw hm=>gA rfl (gE (gS (gR (gM rfl (gCg rfl call7 (mb _ aF (hm.now hG0) (hm.now hG1) (hm.now hG2)) ?_))))))))
  rintro aA cK cL w ⟨aG,rfl,hB⟩
  replace hm:=hm.give hB;clear hB
  refine gM rfl (gX rfl (gX rfl (gAl hm zeroValue26 rfl λan w hm=>gSN hm 0 sizeOf26 (et (fS (hm.ow_rep 1 rfl)) fK) rfl λw hm=>gA rfl (gE (gS (gR (gM rfl (gCg rfl call8 (oO _ aE) ?_))))))))
  rintro aN cN cO w ⟨aO,rfl,hB⟩
  replace hm:=hm.give hB;clear hB
  refine gM rfl (gX rfl (gX rfl (gAl hm zeroValue26 rfl λao w hm=>gSN hm 0 sizeOf26 (et (fS (hm.ow_rep 1 rfl)) fK) rfl λw hm=>gA rfl (gE (gS (gR (gM rfl (gCg rfl call8 (oO _ aF) ?_))))))))
  rintro aP cP cQ w ⟨aQ,rfl,hB⟩
  replace hm:=hm.give hB;clear hB
  refine gM rfl (gX rfl (gX rfl (gAl hm zeroValue26 rfl λaq w hm=>gSN hm 0 sizeOf26 (et (fS (hm.ow_rep 1 rfl)) fK) rfl λw hm=>gA rfl (gE (gS (gS (gJ hm (λaR=>[(5,(tV aE)),(6,(tV aF)),(7,(pV am)),(8,(.bool (aD.2))),(9,(pV an)),(10,(.bool (aA.2))),(11,(pV ao)),(12,(.bool (aN.2))),(13,(pV aq)),(14,(.bool (aP.2))),(83,(.bool (aR)))]) (λaR=>[blk am [aH] 26,ow [aH] aD.1.fns,blk an [aG] 26,ow [aG] aA.1.fns,blk ao [aO] 26,ow [aO] aN.1.fns,blk aq [aQ] 26,ow [aQ] aP.1.fns]) (λaR=>?_) ?_)))))))
  ·refine gR (gM rfl (gM rfl (gY (yG rfl (xc underlying4 rfl rfl rfl)) (gM rfl (gsd 59 rfl (λbG=>?_) λbG=>?_)))))
   ·exact gO rfl (gO rfl (gO rfl (gKt rfl (gM rfl (gO rfl (gO rfl (gO rfl (gO rfl (gKt rfl (gM rfl (gO rfl (gO rfl (gO rfl (gO rfl (gKt rfl (gM rfl (gO rfl (gO rfl (gKt rfl (gM rfl (gO rfl (gO rfl (gKt rfl (gE (gz hm [6,7,4,5,2,3,0,1] rfl)))))))))))))))))))))))))
   refine gM rfl (gM rfl (gY (yG rfl (xc underlying4 rfl rfl rfl)) (gKf rfl (gM rfl (gsd 64 rfl (λbH=>?_) λbH=>?_)))))
   ·exact gO rfl (gO rfl (gO rfl (gO rfl (gKt rfl (gM rfl (gO rfl (gO rfl (gO rfl (gO rfl (gKt rfl (gM rfl (gO rfl (gO rfl (gKt rfl (gM rfl (gO rfl (gO rfl (gKt rfl (gE (gz hm [6,7,4,5,2,3,0,1] rfl))))))))))))))))))))
   refine gY (yn (hm.blk_at 6 rfl) isAgg26 sizeOf26 rfl) (gY (yn (hm.blk_at 2 rfl) isAgg26 sizeOf26 rfl) (gC hm rfl call9 (lF _ aD.1 aH (hm.ow_rep 7 rfl) aN.1 aO (hm.ow_rep 3 rfl)) λcR cS w hm=>gN rfl (gKf rfl (gM rfl (gsn 70 rfl (λbJ=>?_) λbJ=>?_)))))
   ·exact gO rfl (gO rfl (gO rfl (gO rfl (gKt rfl (gM rfl (gO rfl (gO rfl (gKt rfl (gM rfl (gO rfl (gO rfl (gKt rfl (gE (gz hm [6,7,4,5,2,3,0,1] rfl))))))))))))))
   refine gY (yn (hm.blk_at 4 rfl) isAgg26 sizeOf26 rfl) (gY (yn (hm.blk_at 0 rfl) isAgg26 sizeOf26 rfl) (gC hm rfl call9 (lF _ aA.1 aG (hm.ow_rep 5 rfl) aP.1 aQ (hm.ow_rep 1 rfl)) λcT cU w hm=>gN rfl (gKf rfl (gM rfl (gsn 76 rfl (λbK=>?_) λbK=>?_)))))
   ·exact gO rfl (gO rfl (gKt rfl (gM rfl (gO rfl (gO rfl (gKt rfl (gE (gz hm [6,7,4,5,2,3,0,1] rfl))))))))
   refine gM rfl (gN rfl (gKf rfl (gM rfl (gsn 80 rfl (λbL=>?_) λbL=>?_))))
   ·exact gO rfl (gO rfl (gKt rfl (gE (gz hm [6,7,4,5,2,3,0,1] rfl))))
   exact gM rfl (gN rfl (gKf rfl (gE (gz hm [6,7,4,5,2,3,0,1] rfl))))
  repeat clear hm
  intro aR w hm
  refine gs 83 rfl (λbM=>?_) λbM=>?_
  ·refine gct rfl (gS (gJ hm (λaS=>[(4,(.bool (aS)))]) (λaS=>[]) (λaS=>?_) ?_))
   ·refine gR (gM rfl (gM rfl (gY (yG rfl (ar6 underlying4 rfl rfl rfl)) (gM rfl (gsd 87 rfl (λbN=>?_) λbN=>?_)))))
    ·refine gM rfl (gM rfl (gY (yG rfl (ar6 underlying4 rfl rfl rfl)) (gKt rfl (gM rfl (gsd 92 rfl (λbO=>?_) λbO=>?_)))))
     ·refine gY (yn (hm.blk_at 0 rfl) isAgg26 sizeOf26 rfl) (gY (yn (hm.blk_at 4 rfl) isAgg26 sizeOf26 rfl) (gC hm rfl call9 (lF _ aD.1 aH (hm.ow_rep 1 rfl) aN.1 aO (hm.ow_rep 5 rfl)) λcV cW w hm=>gKt rfl (gM rfl (gs 97 rfl (λbP=>?_) λbP=>?_))))
      ·exact gY (yn (hm.blk_at 2 rfl) isAgg26 sizeOf26 rfl) (gY (yn (hm.blk_at 6 rfl) isAgg26 sizeOf26 rfl) (gC hm rfl call9 (lF _ aA.1 aG (hm.ow_rep 3 rfl) aP.1 aQ (hm.ow_rep 7 rfl)) λcX cY w hm=>gKt rfl (gA rfl (gE (gz hm [] rfl)))))
      exact gO rfl (gO rfl (gO rfl (gKf rfl (gA rfl (gE (gz hm [] rfl))))))
     exact gO rfl (gO rfl (gO rfl (gKf rfl (gM rfl (gO rfl (gO rfl (gO rfl (gKf rfl (gA rfl (gE (gz hm [] rfl)))))))))))
    exact gO rfl (gO rfl (gO rfl (gKf rfl (gM rfl (gO rfl (gO rfl (gO rfl (gKf rfl (gM rfl (gO rfl (gO rfl (gO rfl (gKf rfl (gA rfl (gE (gz hm [] rfl))))))))))))))))
   repeat clear hm
   intro aS w hm
   exact gRt (gr1 results5 rfl ⟨rfl,hm.below⟩)
  refine gcf rfl (gSk (gS (gJg (λaI a w=>∃ (aT:fU) (aY:Nat) (aK:Value),fU.le (hp w0) aT∧St 175 [(5,(tV aE)),(6,(tV aF)),(15,(pV aY))] w0 aT [blk aY [aK] 26,ow (α:=List (Sh aT Fn_)) [aK] aI] a w) (λaI=>?_) ?_)))
  ·refine gW (.p 1 (.p 4 (.q 2 (.q 5 (.e 0 (.e 3 (.e 6 (.p 7 (.e 8 (.e 9 .fin .nil) .nil)) (.e 8 (.e 6 (.p 7 (.e 9 .fin .nil)) .nil) .nil)) (.e 8 (.e 3 (.e 6 (.p 7 (.e 9 .fin .nil)) .nil) .nil) .nil)) (.e 8 (.e 0 (.e 3 (.e 6 (.p 7 (.e 9 .fin .nil)) .nil) .nil) .nil) .nil)))))) [0, 2, 3, 5, 8] [1, 4, 7] hm [0, 2, 4, 5, 6, 7] [_, _, _, _, _, _] rfl mxo (by kernel_rfl) (fun _ _ _ h => h.2) fun w hm hS => tP rfl (fun w => yF im rfl) (tP rfl (fun w => yF im rfl) (tQ rfl hS (fun w hm => yL hm 0 isAgg24 rfl) (tQ rfl hS (fun w hm => yL hm 1 isAgg24 rfl) (gb fun aU aZ => gb fun aB aV => tMo ?_ ?_))))
   ·refine tf rfl rfl (λa hf=>ko (α:=Fn_) jL hm rfl) ?_
    rintro cZ w hm
    refine tAk hm [1,3,5,6,7,8] rfl λhS=>tMo ?_ ?_
    ·obtain ⟨bQ,aL,hz_r1_1,hmf⟩:=hm.freeze 2 rfl
     replace hm:=hmf.pk (L':=[_,_,_,_,_,_,_,_]) [0,1,3,4,5,6,7,8] rfl rfl
     clear hmf
     replace hz_r1_1:GT.rep bQ [aH] aD.1.fns:=kZ hz_r1_1
     obtain ⟨c8,aJ,hm⟩:=hm.shallow (α:=Fn_) 0 rfl
     obtain ⟨bR,bS⟩:=fV.1 aZ
     refine tf rfl rfl (λa hf=>mz (α:=Fn_) (xs:=([]:List Fn_)) (ys:=aD.1.fns) 0 jL hf hm rfl (wH hm.lez (GT.mono aJ hz_r1_1)) rfl rfl rfl bR) ?_
     rintro c9 w hm
     rw [bS] at hm
     refine tAk (hm.thaw (fU.le_trans aL aJ)) [1,2,4,5,6,7] rfl λhS=>tMo ?_ ?_
     ·obtain ⟨ar,a8,hz_r1_2,hmf⟩:=hm.freeze 3 rfl
      replace hm:=hmf.pk (L':=[_,_,_,_,_,_,_]) [0,1,2,4,5,6,7] rfl rfl
      clear hmf
      replace hz_r1_2:GT.rep ar [aG] aA.1.fns:=kZ hz_r1_2
      obtain ⟨bT,bU⟩:=fV.1 aV
      replace hm:=hm.sh_up a8 0 rfl
      refine tf rfl rfl (λa hf=>mz (α:=Fn_) (xs:=aU) (ys:=aA.1.fns) 0 jL hf hm rfl (wH hm.lez hz_r1_2) rfl rfl rfl bT) ?_
      rintro ca w hm
      rw [bU] at hm
      refine tAn rfl ?_
      obtain ⟨aa,ab,rfl,cb⟩:=fE (pO (fU.le_trans (fU.le_refl _) hm.lez) (hm.ow_rep 0 rfl))
      refine tP rfl (λw=>yG rfl (fY (vs:=[(0,(.slice aa aB.length ab))]) (cs:=#[.slice aa aB.length ab]) rfl rfl (by kernel_rfl))) (tO (tf rfl rfl (λa hf=>iQ hm zeroValue26 rfl rfl) ?_))
      rintro _ w ⟨bV,rfl,hm⟩
      refine tAk (hm.thaw (fU.le_trans (fU.le_trans aL aJ) a8)) [2,3,4,5,6,7] rfl λhS=>tO (tf0 rfl rfl (λa hf=>j7 0 hf hm rfl sizeOf26 rfl rfl rfl (et rfl fK) rfl rfl) ?_)
      rintro _ w hm
      exact tAn rfl (tE (gZ λa hf=>⟨ar,bV,.slice aa aB.length ab,(fU.le_trans (fU.le_trans aL aJ) a8),hf.sb rfl,hm.pk [0,1] rfl rfl⟩))
     refine tO (tf rfl rfl (λa hf=>iQ hm zeroValue26 rfl rfl) ?_)
     rintro _ w ⟨bW,rfl,hm⟩
     refine tAk (hm.thaw (fU.le_trans aL aJ)) [2,3,5,6,7,8] rfl λhS=>tO ?_
     obtain ⟨au,av,hz_r1_3,hmf⟩:=hm.freeze 4 rfl
     replace hm:=hmf.pk (L':=[_,_,_,_,_,_,_,_]) [0,1,2,3,5,6,7,8] rfl rfl
     clear hmf
     replace hz_r1_3:GT.rep au [aG] aA.1.fns:=kZ hz_r1_3
     obtain ⟨bX,bY⟩:=fV.1 aV
     replace hm:=hm.sh_up av 1 rfl
     refine tf rfl rfl (λa hf=>mz (α:=Fn_) (xs:=aU) (ys:=aA.1.fns) 1 jL hf hm rfl (wH hm.lez hz_r1_3) rfl rfl rfl bX) ?_
     rintro cc w hm
     rw [bY] at hm
     refine tAn rfl ?_
     obtain ⟨ac,ae,rfl,cd⟩:=fE (pO (fU.le_trans (fU.le_refl _) hm.lez) (hm.ow_rep 1 rfl))
     refine tP rfl (λw=>yG rfl (fY (vs:=[(0,(.slice ac aB.length ae))]) (cs:=#[.slice ac aB.length ae]) rfl rfl (by kernel_rfl))) (tO (tf0 rfl rfl (λa hf=>j7 0 hf hm rfl sizeOf26 rfl rfl rfl (et rfl fK) rfl rfl) ?_))
     rintro _ w hm
     exact tAn rfl (tE (gZ λa hf=>⟨au,bW,.slice ac aB.length ae,(fU.le_trans (fU.le_trans aL aJ) av),hf.sb rfl,hm.pk [0,1] rfl rfl⟩))
    refine tO (tf rfl rfl (λa hf=>iQ hm zeroValue26 rfl rfl) ?_)
    rintro _ w ⟨bZ,rfl,hm⟩
    refine tAk hm [2,4,6,7,8,9] rfl λhS=>tO ?_
    obtain ⟨b8,aw,hz_r1_4,hmf⟩:=hm.freeze 3 rfl
    replace hm:=hmf.pk (L':=[_,_,_,_,_,_,_,_,_]) [0,1,2,4,5,6,7,8,9] rfl rfl
    clear hmf
    replace hz_r1_4:GT.rep b8 [aH] aD.1.fns:=kZ hz_r1_4
    obtain ⟨ce,af,hm⟩:=hm.shallow (α:=Fn_) 1 rfl
    obtain ⟨b9,ba⟩:=fV.1 aZ
    refine tf rfl rfl (λa hf=>mz (α:=Fn_) (xs:=([]:List Fn_)) (ys:=aD.1.fns) 1 jL hf hm rfl (wH hm.lez (GT.mono af hz_r1_4)) rfl rfl rfl b9) ?_
    rintro cf w hm
    rw [ba] at hm
    refine tAk (hm.thaw (fU.le_trans aw af)) [2,3,5,6,7,8] rfl λhS=>tO ?_
    obtain ⟨ax,ay,hz_r1_5,hmf⟩:=hm.freeze 4 rfl
    replace hm:=hmf.pk (L':=[_,_,_,_,_,_,_,_]) [0,1,2,3,5,6,7,8] rfl rfl
    clear hmf
    replace hz_r1_5:GT.rep ax [aG] aA.1.fns:=kZ hz_r1_5
    obtain ⟨bb,bc⟩:=fV.1 aV
    replace hm:=hm.sh_up ay 1 rfl
    refine tf rfl rfl (λa hf=>mz (α:=Fn_) (xs:=aU) (ys:=aA.1.fns) 1 jL hf hm rfl (wH hm.lez hz_r1_5) rfl rfl rfl bb) ?_
    rintro cg w hm
    rw [bc] at hm
    refine tAn rfl ?_
    obtain ⟨ag,ah,rfl,cj⟩:=fE (pO (fU.le_trans (fU.le_refl _) hm.lez) (hm.ow_rep 1 rfl))
    refine tP rfl (λw=>yG rfl (fY (vs:=[(0,(.slice ag aB.length ah))]) (cs:=#[.slice ag aB.length ah]) rfl rfl (by kernel_rfl))) (tO (tf0 rfl rfl (λa hf=>j7 0 hf hm rfl sizeOf26 rfl rfl rfl (et rfl fK) rfl rfl) ?_))
    rintro _ w hm
    exact tAn rfl (tE (gZ λa hf=>⟨ax,bZ,.slice ag aB.length ah,(fU.le_trans (fU.le_trans aw af) ay),hf.sb rfl,hm.pk [0,1] rfl rfl⟩))
   refine tO (tf rfl rfl (λa hf=>iQ hm zeroValue26 rfl rfl) ?_)
   rintro _ w ⟨bd,rfl,hm⟩
   refine tAk hm [1,3,5,6,7,8] rfl λhS=>tO (tf rfl rfl (λa hf=>ko (α:=Fn_) jL hm rfl) ?_)
   rintro ck w hm
   refine tAk hm [2,4,6,7,8,9] rfl λhS=>tO ?_
   obtain ⟨be,az,hz_r1_6,hmf⟩:=hm.freeze 3 rfl
   replace hm:=hmf.pk (L':=[_,_,_,_,_,_,_,_,_]) [0,1,2,4,5,6,7,8,9] rfl rfl
   clear hmf
   replace hz_r1_6:GT.rep be [aH] aD.1.fns:=kZ hz_r1_6
   obtain ⟨cl,ai,hm⟩:=hm.shallow (α:=Fn_) 0 rfl
   obtain ⟨bf,bg⟩:=fV.1 aZ
   refine tf rfl rfl (λa hf=>mz (α:=Fn_) (xs:=([]:List Fn_)) (ys:=aD.1.fns) 0 jL hf hm rfl (wH hm.lez (GT.mono ai hz_r1_6)) rfl rfl rfl bf) ?_
   rintro cm w hm
   rw [bg] at hm
   refine tAk (hm.thaw (fU.le_trans az ai)) [2,3,5,6,7,8] rfl λhS=>tO ?_
   obtain ⟨bA,bB,hz_r1_7,hmf⟩:=hm.freeze 4 rfl
   replace hm:=hmf.pk (L':=[_,_,_,_,_,_,_,_]) [0,1,2,3,5,6,7,8] rfl rfl
   clear hmf
   replace hz_r1_7:GT.rep bA [aG] aA.1.fns:=kZ hz_r1_7
   obtain ⟨bh,bi⟩:=fV.1 aV
   replace hm:=hm.sh_up bB 0 rfl
   refine tf rfl rfl (λa hf=>mz (α:=Fn_) (xs:=aU) (ys:=aA.1.fns) 0 jL hf hm rfl (wH hm.lez hz_r1_7) rfl rfl rfl bh) ?_
   rintro cn w hm
   rw [bi] at hm
   refine tAn rfl ?_
   obtain ⟨aj,ak,rfl,co⟩:=fE (pO (fU.le_trans (fU.le_refl _) hm.lez) (hm.ow_rep 0 rfl))
   refine tP rfl (λw=>yG rfl (fY (vs:=[(0,(.slice aj aB.length ak))]) (cs:=#[.slice aj aB.length ak]) rfl rfl (by kernel_rfl))) (tO (tf0 rfl rfl (λa hf=>j7 1 hf hm rfl sizeOf26 rfl rfl rfl (et rfl fK) rfl rfl) ?_))
   rintro _ w hm
   exact tAn rfl (tE (gZ λa hf=>⟨bA,bd,.slice aj aB.length ak,(fU.le_trans (fU.le_trans az ai) bB),hf.sb rfl,hm.pk [1,0] rfl rfl⟩))
  repeat clear hm
  rintro aI a w ⟨aT,aY,aK,aC,hf,hm⟩
  refine gv hf (gS (gR (gM rfl (gb λbC bj=>?_))))
  have bk:=fX.1 bj
  refine gY (yG rfl (gj (p:=aE) (q:=(mkS [32])) (u:=bC) rfl rfl rfl bk)) (gM rfl (gb λbD bl=>?_))
  have bm:=fX.1 bl
  refine gY (yG rfl (gj (p:=bC) (q:=aF) (u:=bD) rfl rfl rfl bm)) (gCg rfl call7 (mb _ bD (hm.now (GT.mono aC hG0)) (hm.now (GT.mono aC hG1)) (hm.now (GT.mono aC hG2))) ?_)
  rintro bo cq cr w ⟨bp,rfl,hB⟩
  replace hm:=hm.give hB;clear hB
  refine gM rfl (gX rfl (gX rfl (gAl hm zeroValue26 rfl λct w hm=>gSN hm 0 sizeOf26 (et (fS (hm.ow_rep 1 rfl)) fK) rfl λw hm=>gA rfl (gE (gS (gR (gY (yn (hm.blk_at 2 rfl) isAgg26 sizeOf26 rfl) (gC hm rfl call12 (rL _ (⟨aI⟩:fZ) aK (pO (fU.le_trans (fU.le_refl _) hm.lez) (hm.ow_rep 3 rfl)) (hm.now (GT.mono aC hG0)) (hm.now (GT.mono aC hG2)) (hm.now (GT.mono aC hG6))) λcu cv w hm=>gM rfl (gX rfl (gX rfl (gA rfl (gA rfl (gE (gS (gR (gM rfl (gCg rfl call10 (ni _ aE (hm.now (GT.mono aC hG0))) ?_)))))))))))))))))
  rintro cw cx cy w ⟨cz,rfl,hB⟩
  replace hm:=hm.give hB;clear hB
  refine gM rfl (gX rfl (gX rfl (gA rfl (gA rfl (gE (gS (gR (gM rfl (gCg rfl call10 (ni _ aF (hm.now (GT.mono aC hG0))) ?_)))))))))
  rintro dA dB dC w ⟨dD,rfl,hB⟩
  replace hm:=hm.give hB;clear hB
  refine gM rfl (gX rfl (gX rfl (gA rfl (gA rfl (gE (gS (gJ hm (λaX=>[(4,(.bool (aX)))]) (λaX=>[]) (λaX=>?_) ?_)))))))
  ·refine gR (gM rfl (gN rfl (gM rfl (gsn 135 rfl (λal=>?_) λal=>?_))))
   ·refine gO rfl (gO rfl (gO rfl (gKt rfl (gM rfl (gM rfl (gM rfl (go _ 142 rfl al (gM rfl (gN rfl (gKf rfl (gM rfl (gsn 146 rfl (λbq=>?_) λbq=>?_))))))))))))
    ·exact gO rfl (gO rfl (gO rfl (gO rfl (gO rfl (gO rfl (gO rfl (gKt rfl (gM rfl (gO rfl (gO rfl (gO rfl (gO rfl (gO rfl (gO rfl (gKt rfl (gM rfl (gO rfl (gO rfl (gO rfl (gO rfl (gKt rfl (gM rfl (gO rfl (gO rfl (gO rfl (gKt rfl (gKt rfl (gA rfl (gE (gz hm [] rfl))))))))))))))))))))))))))))))
    refine gM rfl (gY (yG rfl (iH (p:=aE) underlying9 rfl rfl)) ?_)
    have dE:=(aE).h
    refine gM rfl (gY (yG rfl (iH (p:=aF) underlying9 rfl rfl)) ?_)
    have dF:=(aF).h
    refine gP (by omega) (by omega) rfl (gP (by omega) (by omega) rfl (gB rfl (gKf rfl (gM rfl (gsd 155 rfl (λbr=>?_) λbr=>?_)))))
    ·exact gO rfl (gO rfl (gO rfl (gO rfl (gO rfl (gO rfl (gKt rfl (gM rfl (gO rfl (gO rfl (gO rfl (gO rfl (gKt rfl (gM rfl (gO rfl (gO rfl (gO rfl (gKt rfl (gKt rfl (gA rfl (gE (gz hm [] rfl)))))))))))))))))))))
    refine gM rfl ?_
    obtain ⟨dG,dH,rfl,dI⟩:=fE (hm.ow_rep 1 rfl)
    refine gY (yV kq rfl) (gM rfl ?_)
    obtain ⟨dJ,dK,rfl,dL⟩:=fE (hm.ow_rep 0 rfl)
    refine gY (yV kq rfl) (gP (by omega) (by omega) rfl (gB rfl (gKf rfl (gM rfl (gsd 163 rfl (λbs=>?_) λbs=>?_)))))
    ·exact gO rfl (gO rfl (gO rfl (gO rfl (gKt rfl (gM rfl (gO rfl (gO rfl (gO rfl (gKt rfl (gKt rfl (gA rfl (gE (gz hm [] rfl)))))))))))))
    refine gF im rfl (gL hm 4 isAgg24 rfl ?_)
    obtain ⟨bt,bu,rfl,dM⟩:=fE (pO (fU.le_trans (fU.le_refl _) hm.lez) (hm.ow_rep 5 rfl))
    refine gY (yV jW rfl) (gB rfl (gKf rfl (gM rfl (gsd 169 rfl (λbv=>?_) λbv=>?_))))
    ·exact gO rfl (gO rfl (gO rfl (gKt rfl (gKt rfl (gA rfl (gE (gz hm [] rfl)))))))
    exact gY (yn (hm.blk_at 4 rfl) isAgg26 sizeOf26 rfl) (gC hm rfl call14 (rz _ (⟨aI⟩:fZ) (.slice bt aI.length bu) (pO (fU.le_trans (fU.le_refl _) hm.lez) (hm.ow_rep 5 rfl)) (hm.now (GT.mono aC hG0)) (hm.now (GT.mono aC hG2))) λdN dO w hm=>gB rfl (gKf rfl (gKt rfl (gA rfl (gE (gz hm [] rfl))))))
   refine gY (yn (hm.blk_at 2 rfl) isAgg26 sizeOf26 rfl) (gY (yn (hm.blk_at 4 rfl) isAgg26 sizeOf26 rfl) (gC hm rfl call13 (qh _ bo.1 bp (hm.ow_rep 3 rfl) (⟨aI⟩:fZ) aK (pO (fU.le_trans (fU.le_refl _) hm.lez) (hm.ow_rep 5 rfl))) λdP dQ w hm=>gKf rfl (gM rfl (gs 140 rfl (λbw=>?_) λbw=>?_))))
   ·refine gM rfl (gM rfl (go _ 142 rfl al (gO rfl (gO rfl (gKt rfl (gM rfl (gO rfl (gO rfl (gO rfl (gO rfl (gO rfl (gO rfl (gO rfl (gKt rfl (gM rfl (gO rfl (gO rfl (gO rfl (gO rfl (gO rfl (gO rfl (gKt rfl (gM rfl (gO rfl (gO rfl (gO rfl (gO rfl (gKt rfl (gM rfl (gO rfl ?_))))))))))))))))))))))))))))))
    exact gO rfl (gO rfl (gKt rfl (gKt rfl (gA rfl (gE (gz hm [] rfl))))))
   refine gO rfl (gO rfl (gO rfl (gO rfl (gO rfl (gO rfl (gO rfl (gO rfl (gO rfl (gO rfl (gO rfl (gO rfl (gO rfl (gO rfl (gO rfl (gO rfl (gO rfl (gO rfl (gO rfl (gO rfl (gO rfl (gO rfl (gO rfl (gO rfl (gO rfl (gO rfl (gO rfl (gO rfl (gO rfl (gO rfl (gO rfl ?_))))))))))))))))))))))))))))))
   exact gO rfl (gO rfl (gKf rfl (gA rfl (gE (gz hm [] rfl)))))
  repeat clear hm
  intro aX w hm
  refine gRt ?_
  replace hm:=hm.thaw aC
  exact gr1 results5 rfl ⟨rfl,hm.below⟩
end Go.Proofs.YtdmoolhjchoifaaGreatDoor
