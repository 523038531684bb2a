/- A part of the proof of FnCutShortCardSaid. -/
import Derived.Test.YtdmoolhjchoifaaGreatDoorCsWalksC
namespace Go.Proofs.YtdmoolhjchoifaaGreatDoor
open Go Go.Wk Go.RowKit
set_option maxRecDepth 4000
set_option maxHeartbeats 4000000
open Tryz
theorem impl_JoinWords_ok (w0:World) (list:List Word_) (v1:Value) (h1:GT.rep (hp w0) [v1] list) (hG0:GT.rep (hp w0) [.slice (some ⟨0,0,none⟩) 9 9] glob_impl_keys) :
    ConM Tryz.prog 11 [v1] w0 (impl_JoinWords list) λr v w'=>v=(.tuple #[(.string ⟨(r.1).b.toArray⟩),(.bool (r.2))])∧Below w0.heap.size w0 w':=by
  unfold impl_JoinWords
  refine gcon func11 rfl λr=>?_
  have hm:=Mem.start w0
  refine gS (gR (gA rfl (gA rfl (gE (gS (gS (gR (gM rfl ?_))))))))
  obtain ⟨aK,aL,rfl,aY⟩:=ro_slice h1
  refine gY (yV st_30 rfl) (gB rfl (gE (gsd 10 rfl (λaM=>?_) λaM=>?_)))
  ·exact gct rfl (gS (gR (gA rfl (gA rfl (gE (gRt (gr2 results11 rfl ⟨rfl,hm.below⟩)))))))
  refine gcf rfl (gSk (gS (gR (gM rfl (gY (yV st_30 rfl) (gb λaB aN=>?_))))))
  obtain ⟨⟨aO,aP⟩,aI⟩:=makeM_some.1 aN
  refine gf rfl (λa hf=>e_make (x0:=((mkS []):Str)) et_47 (λ_=>(Flat.own_iff.2 rfl)) hf hm rfl rfl rfl aO (Int.le_refl _) aP) ?_
  rintro aZ w hm
  rw [aI] at hm
  have h0_2l:(aB.length:Int)=(list.length:Int):=by rw [← aI];simp only [List.length_replicate];omega
  refine gA rfl (gE (gS (gS (gR (gM rfl (gY (yV st_30 rfl) (gM rfl (gE ?_))))))))
  obtain ⟨aD,aE,rfl,a8⟩:=ro_slice (hm.ow_rep 0 rfl)
  refine gBk (gNf hm (λaF aG=>[(4,(.slice aD aB.length aE)),(14,(.slice aK list.length aL)),(15,(nV ((list.length:Int)))),(16,(nV aF))]) (λaF aG=>[ow [.slice aD aB.length aE] aG]) [0] rfl ?_ ?_)
  ·repeat clear hm
   intro aa aQ aF aG w hm ab ac ae aR
   refine gS (gR (gB rfl (gE (gS (go _ 17 rfl (decide_eq_true (by omega)) (gct rfl (gSk (gS (gBk (gS (gR (gM rfl (gg λaA aS aH=>?_)))))))))))))
   obtain ⟨af,ag,ah,he⟩:=idx_form h1 aH
   obtain ⟨rfl,_,rfl⟩:=sl3 he
   refine gI st_30 aS (idx_lt aH) rfl (gY (yn (flat_cells (cs:=[nV aA.kind,(.string ⟨(aA.text).b.toArray⟩)]) (hm.now h1) aH rfl) isAgg36 sizeOf36 rfl) (gAl hm zeroValue36 rfl λai w hm=>gA rfl (gSN hm 0 sizeOf36 (one_cons rfl (one_cons rfl one_nil)) rfl λw hm=>gE (gS (gS (gR (gY (yn (hm.blk_at 0 rfl) isAgg36 sizeOf36 rfl) (gC hm rfl call32 (impl_WordValid_ok _ aA (hm.now hG0)) λaj ak w hm=>gN rfl (gE (gsn 23 rfl (λaT=>?_) λaT=>?_))))))))))
   ·exact gct rfl (gS (gR (gA rfl (gA rfl (gE (gRt (gLr aR aQ (gr2 results11 rfl ⟨rfl,hm.below⟩))))))))
   refine gcf rfl (gSk (gR (gM rfl (gM rfl (gF fo_36_1 rfl (gL hm 0 isAgg9 rfl (gg λal aU aC=>?_)))))))
   obtain ⟨am,an,ao,he⟩:=idx_form (hm.ow_rep 1 rfl) aC
   obtain ⟨rfl,_,rfl⟩:=sl3 he
   have hL1_1:=rep_slice_len (hm.ow_rep 1 rfl)
   refine gI st_47 aU (idx_lt2 aC hL1_1) rfl (gf0 rfl (λa hf=>e_setElem (x1:=aA.text) (j:=0) (vs:=[(.string ⟨(aA.text).b.toArray⟩)]) 1 hf hm rfl aC rfl sizeOf9 rfl rfl rfl (one_cons rfl one_nil) rfl rfl) ?_)
   rintro _ w hm
   have aq:=List.getElem?_set_self (a:=aA.text) (idx_lt aC)
   exact gE (gR (gP (by omega) (by omega) rfl (gM rfl (gE (gze hm [1] rfl)))))
  repeat clear hm
  intro ar aV w hm au av
  refine gS (gR (gB rfl (gE (gS (go _ 17 rfl (decide_eq_false (by omega)) (gcf rfl (gXt (gHh (gS (gR (gM rfl (gC hm rfl call33 (strings_Join_ok _ aV (.slice aD aB.length aE) (hm.ow_rep 0 rfl) (mkS [32])) λaJ aw w hm=>gA rfl (gE (gS (gS (gR (gM rfl (gY (yG rfl (y_len_str (p:=aJ) underlying9 rfl rfl)) ?_))))))))))))))))))
  have ax:=(aJ).h
  refine gB rfl (gE (gsd 34 rfl (λaX=>?_) λaX=>?_))
  ·exact gct rfl (gS (gR (gA rfl (gA rfl (gE (gRt (gr2 results11 rfl ⟨rfl,hm.below⟩)))))))
  exact gcf rfl (gSk (gS (gR (gM rfl (gA rfl (gA rfl (gE (gRt (gr2 results11 rfl ⟨rfl,hm.below⟩)))))))))
theorem laws_FnCutShort_ok (w0:World) (code:List UInt8) (v1:Value) (h1:GT.rep (hp w0) [v1] code) (hG0:GT.rep (hp w0) [.slice (some ⟨0,0,none⟩) 9 9] glob_impl_keys) (hG1:GT.rep (hp w0) [.slice (some ⟨1,0,none⟩) 1 1] [glob_impl_stmtKeys]) (hG2:GT.rep (hp w0) [.slice (some ⟨2,0,none⟩) 1 1] [glob_impl_opSign]) :
    ConM Tryz.prog 3 [v1] w0 (laws_FnCutShort code) λr v w'=>v=(.bool (r))∧Below w0.heap.size w0 w':=by
  unfold laws_FnCutShort
  refine gcon func3 rfl λr=>?_
  have hm:=Mem.start w0
  refine gS (gR (gA rfl (gE (gS (gS (gR (gM rfl ?_)))))))
  obtain ⟨aa,ab,rfl,au⟩:=ro_slice h1
  refine gY (yV st_22 rfl) (gB rfl (gE (gsd 19 rfl (λac=>?_) λac=>?_)))
  ·exact gct rfl (gS (gR (gA rfl (gE (gRt (gr1 results3 rfl ⟨rfl,hm.below⟩))))))
  refine gcf rfl (gSk (gS (gR (gM rfl (gC hm rfl call6 (spec_DrawReadProgram_ok _ code (.slice aa code.length ab) (hm.now h1)) λaI av w hm=>gA rfl (gE (gS (gR (gM rfl (gCg rfl call7 (impl_ReadProgram_ok _ aI (hm.now hG0) (hm.now hG1) (hm.now hG2)) ?_))))))))))
  rintro aB aw ax w ⟨aJ,rfl,hB⟩
  replace hm:=hm.give hB;clear hB
  refine gM rfl (gX rfl (gX rfl (gAl hm zeroValue26 rfl λaC w hm=>gSN hm 0 sizeOf26 (one_cons (rep_one (hm.ow_rep 1 rfl)) one_nil) rfl λw hm=>gA rfl (gE (gS (gR (gM rfl (gCg rfl call8 (spec_ReadProgram_ok _ aI) ?_))))))))
  rintro aK ay az w ⟨aL,rfl,hB⟩
  replace hm:=hm.give hB;clear hB
  refine gM rfl (gX rfl (gX rfl (gAl hm zeroValue26 rfl λaV w hm=>gSN hm 0 sizeOf26 (one_cons (rep_one (hm.ow_rep 1 rfl)) one_nil) rfl λw hm=>gA rfl (gE (gS (gS (gJ hm (λaM=>[(3,(.string ⟨(aI).b.toArray⟩)),(4,(pV aC)),(5,(.bool (aB.2))),(6,(pV aV)),(7,(.bool (aK.2))),(44,(.bool (aM)))]) (λaM=>[blk aC [aJ] 26,ow [aJ] aB.1.fns,blk aV [aL] 26,ow [aL] aK.1.fns]) (λaM=>?_) ?_)))))))
  ·refine gR (gM rfl (gM rfl (gY (yG rfl (y_neqb underlying4 rfl rfl rfl)) (gM rfl (gsd 35 rfl (λae=>?_) λae=>?_)))))
   ·exact gO rfl (gO rfl (gO rfl (gO rfl (gKt rfl (gM rfl (gO rfl (gO rfl (gKt rfl (gE (gz hm [2,3,0,1] rfl))))))))))
   refine gY (yn (hm.blk_at 2 rfl) isAgg26 sizeOf26 rfl) (gY (yn (hm.blk_at 0 rfl) isAgg26 sizeOf26 rfl) (gC hm rfl call9 (spec_SamePrograms_ok _ aB.1 aJ (hm.ow_rep 3 rfl) aK.1 aL (hm.ow_rep 1 rfl)) λbA bB w hm=>gN rfl (gKf rfl (gM rfl (gsn 41 rfl (λaf=>?_) λaf=>?_)))))
   ·exact gO rfl (gO rfl (gKt rfl (gE (gz hm [2,3,0,1] rfl))))
   exact gM rfl (gN rfl (gKf rfl (gE (gz hm [2,3,0,1] rfl))))
  repeat clear hm
  intro aM w hm
  refine gs 44 rfl (λag=>?_) λag=>?_
  ·refine gct rfl (gS (gJ hm (λaN=>[(2,(.bool (aN)))]) (λaN=>[]) (λaN=>?_) ?_))
   ·refine gR (gM rfl (gM rfl (gY (yG rfl (y_eqlb underlying4 rfl rfl rfl)) (gM rfl (gsd 48 rfl (λah=>?_) λah=>?_)))))
    ·exact gY (yn (hm.blk_at 0 rfl) isAgg26 sizeOf26 rfl) (gY (yn (hm.blk_at 2 rfl) isAgg26 sizeOf26 rfl) (gC hm rfl call9 (spec_SamePrograms_ok _ aB.1 aJ (hm.ow_rep 1 rfl) aK.1 aL (hm.ow_rep 3 rfl)) λbC bD w hm=>gKt rfl (gA rfl (gE (gz hm [] rfl)))))
    exact gO rfl (gO rfl (gO rfl (gKf rfl (gA rfl (gE (gz hm [] rfl))))))
   repeat clear hm
   intro aN w hm
   exact gRt (gr1 results3 rfl ⟨rfl,hm.below⟩)
  refine gcf rfl (gSk (gS (gR (gM rfl (gCg rfl call10 (impl_CutWords_ok _ aI (hm.now hG0)) ?_)))))
  rintro aA bE bF w ⟨bG,rfl,hB⟩
  replace hm:=hm.give hB;clear hB
  refine gM rfl (gX rfl (gX rfl (gA rfl (gA rfl (gE (gS (gR (gM rfl (gM rfl ?_)))))))))
  obtain ⟨aG,aD,rfl,bH⟩:=ro_slice (hm.ow_rep 0 rfl)
  refine gY (yV st_30 rfl) (gY (yS (by omega) (by omega) rfl) (gb λai aj=>?_))
  obtain ⟨aX,ak⟩:=subM_some.1 aj
  have al:=(hm.ow_rep 0 rfl)
  obtain ⟨am,aY⟩:∃ nv,nv=subV (GT.sz (Word_)) (.slice aG aA.1.length aD) (0:Int).toNat (((aA.1.length:Int)) - 1:Int).toNat:=⟨_,rfl⟩
  refine gY (yG rfl (yl_eq aY (y_slcH (α:=Word_) st_30 al rfl rfl rfl aX _))) (gC hm rfl call11 (impl_JoinWords_ok _ ai am (view_rep aY ak aX (hm.ow_rep 0 rfl)) (hm.now hG0)) λan bJ w hm=>gM rfl (gX rfl (gX rfl (gA rfl (gA rfl (gE (gS (gR (gM rfl (gCg rfl call7 (impl_ReadProgram_ok _ an.1 (hm.now hG0) (hm.now hG1) (hm.now hG2)) ?_))))))))))
  rintro aR bK bL w ⟨bM,rfl,hB⟩
  replace hm:=hm.give hB;clear hB
  refine gM rfl (gX rfl (gX rfl (gAl hm zeroValue26 rfl λbN w hm=>gSN hm 0 sizeOf26 (one_cons (rep_one (hm.ow_rep 1 rfl)) one_nil) rfl λw hm=>gA rfl (gE (gS (gR (gA rfl (gE (gS (gS (gR (gM rfl (gY (yV st_30 rfl) (gM rfl (gE ?_)))))))))))))))
  obtain ⟨aE,aF,rfl,bO⟩:=ro_slice (hm.ow_rep 4 rfl)
  refine gBk (gNf hm (λaH aS=>[(4,(pV aC)),(13,(.bool (aR.2))),(14,(nV aS)),(72,(.slice aG aA.1.length aD)),(73,(nV ((aA.1.length:Int)))),(74,(nV aH))]) (λaH aS=>[blk aC [.slice aE aB.1.fns.length aF] 26,ow [.slice aE aB.1.fns.length aF] aB.1.fns,ow [.slice aG aA.1.length aD] aA.1]) [3,4,2] rfl ?_ ?_)
  ·repeat clear hm
   intro _ _ aH aS w hm bP bQ bR _
   refine gS (gR (gB rfl (gE (gS (go _ 75 rfl (decide_eq_true (by omega)) (gct rfl (gSk (gS (gJ hm (λaO=>[(4,(pV aC)),(13,(.bool (aR.2))),(14,(nV aO)),(72,(.slice aG aA.1.length aD)),(73,(nV ((aA.1.length:Int)))),(74,(nV aH))]) (λaO=>[blk aC [.slice aE aB.1.fns.length aF] 26,ow [.slice aE aB.1.fns.length aF] aB.1.fns,ow [.slice aG aA.1.length aD] aA.1]) (λaO=>?_) ?_)))))))))
   ·refine gBk (gS (gR (gg λaT ao aU=>?_)))
    obtain ⟨aZ,a8,bS,he⟩:=idx_form (hm.ow_rep 2 rfl) aU
    obtain ⟨rfl,_,rfl⟩:=sl3 he
    refine gI st_30 ao (idx_lt aU) rfl (gY (yn (flat_cells (cs:=[nV aT.kind,(.string ⟨(aT.text).b.toArray⟩)]) (hm.ow_rep 2 rfl) aU rfl) isAgg36 sizeOf36 rfl) (gAl hm zeroValue36 rfl λbT w hm=>gSN hm 0 sizeOf36 (one_cons rfl (one_cons rfl one_nil)) rfl λw hm=>gE (gS (gR (gF fo_36_1 rfl (gL hm 0 isAgg9 rfl (gY (yG rfl (y_eqls (p:=aT.text) (q:=(mkS [102,110])) rfl rfl rfl)) (gE (gJ hm (λaP=>[(4,(pV aC)),(13,(.bool (aR.2))),(14,(nV aP)),(72,(sV aZ a8 aA.1.length aD)),(73,(nV ((aA.1.length:Int)))),(74,(nV aH))]) (λaP=>[blk aC [.slice aE aB.1.fns.length aF] 26,ow [.slice aE aB.1.fns.length aF] aB.1.fns,ow [sV aZ a8 aA.1.length aD] aA.1]) (λaP=>?_) ?_)))))))))
    ·refine gsd 80 rfl (λaq=>?_) λaq=>?_
     ·exact gct rfl (gR (gM rfl (gB rfl (gA rfl (gE (gz hm [1,2,3] rfl))))))
     exact gcf rfl (gSk (gz hm [1,2,3] rfl))
    repeat clear hm
    intro aP w hm
    exact gz hm [0,1,2] rfl
   repeat clear hm
   intro aO w hm
   exact gR (gP (by omega) (by omega) rfl (gM rfl (gE (gze hm [0,1,2] rfl))))
  repeat clear hm
  intro bU bV w hm bW bX
  refine gS (gR (gB rfl (gE (gS (go _ 75 rfl (decide_eq_false (by omega)) (gcf rfl (gXt (gHh (gS (gJ hm (λaQ=>[(2,(.bool (aQ)))]) (λaQ=>[]) (λaQ=>?_) ?_))))))))))
  ·refine gR (gM rfl (gN rfl (gM rfl (gsn 86 rfl (λar=>?_) λar=>?_))))
   ·exact gM rfl (gF fo_26_0 rfl (gL hm 0 isAgg24 rfl (gY (yV st_24 rfl) (gB rfl (gKt rfl (gA rfl (gE (gz hm [] rfl))))))))
   exact gO rfl (gO rfl (gO rfl (gO rfl (gO rfl (gKf rfl (gA rfl (gE (gz hm [] rfl))))))))
  repeat clear hm
  intro aQ w hm
  exact gRt (gr1 results3 rfl ⟨rfl,hm.below⟩)
end Go.Proofs.YtdmoolhjchoifaaGreatDoor
