/- A part of the proof of FnExactInlineCallSaid. -/
import Derived.Test.YthikiocjbepfnaaGreatIlWalksA
namespace Go.Proofs.YthikiocjbepfnaaGreat
open Go Go.Wk Go.RowKit
set_option maxRecDepth 4000
set_option maxHeartbeats 4000000
open Tryz
theorem spec_l19Put_ok (w0 : World) (c_ : Code_) (v1 : Value) (h1 : GT.rep (hp w0) [v1] c_.blocks) (f : Code_) (v2 : Value) (h2 : GT.rep (hp w0) [v2] f.blocks) (b_ : Int) (i_ : Int) :
    ConM Tryz.prog 21 [(.agg #[nV c_.params,nV c_.regs,v1]),(.agg #[nV f.params,nV f.regs,v2]),nV b_,nV i_] w0 (spec_l19Put c_ f b_ i_) λr v w'=>∃ (x1 : Value),v = (.agg #[nV r.params,nV r.regs,x1]) ∧ Mem w0 (hp w0) w' [ow [x1] r.blocks] := by
  unfold spec_l19Put
  refine gcon func21 rfl λr=>?_
  have hm := Mem.start w0
  refine gS (gR (gBx hm rfl λaQ w hm=>gBx hm rfl λaT w hm=>gAl hm zeroValue44 rfl λaR w hm=>gE (gS (gR (gY (yn (hm.blk_at 2 rfl) isAgg44 sizeOf44 rfl) (gCg rfl call45 (spec_l7Copy_ok _ c_ v1 (hm.now h1)) ?_))))))
  rintro aN fJ fK w ⟨fL,rfl,hB⟩
  replace hm := hm.give hB; clear hB
  refine gAl hm zeroValue44 rfl λaP w hm=>gSN hm 0 sizeOf44 (one_cons rfl (one_cons rfl (one_cons (rep_one (hm.ow_rep 1 rfl)) one_nil))) rfl λw hm=>gE (gS (gR (gF fo_44_2 rfl (gL hm 0 isAgg42 rfl (gM rfl (gg λaA ck cP=>?_))))))
  obtain ⟨cl,cm,cn,he⟩ := idx_form' (hm.ow_rep 1 rfl) cP
  subst he
  obtain ⟨fM,fN,fO,fP,fQ,fR,fS⟩ := rk_Block_ (hm.ow_rep 1 rfl) cP
  refine gI st_42 ck (idx_lt cP) rfl (gF fo_49_1 rfl ?_)
  obtain ⟨aL,fT,ae,hm⟩ := pin_Block_ hm 1 rfl cP
  have fU : (b_).toNat < aN.blocks.length := (idx_lt cP)
  refine gY (yl isAgg46 ((hm.holeE_at 4 rfl).cell (j := 1) rfl) rfl) (gM rfl (gg λaC co cH=>?_))
  obtain ⟨aF,aG,aH,he⟩ := idx_form' (hm.ow_rep 1 rfl) cH
  subst he
  obtain ⟨fV,fW,fX⟩ := rk_Ins_ (hm.ow_rep 1 rfl) cH
  refine gI st_46 co (idx_lt cH) rfl ?_
  obtain ⟨fY,hm⟩ := pin_Ins_ hm 1 rfl cH
  have fZ : (i_).toNat < aA.ins.length := (idx_lt cH)
  refine gY (yn (hm.holeE_at 2 rfl) isAgg51 sizeOf51 rfl) (gAl hm zeroValue51 rfl λac w hm=>gSN hm 0 sizeOf51 (one_cons rfl (one_cons rfl (one_cons (rep_one (hm.ow_rep 1 rfl)) (one_cons rfl one_nil)))) rfl λw hm=>gE (gS (gR (gF fo_44_1 rfl (gL hm 9 isAgg3 rfl (gA rfl (gE (gS (gR (gF fo_44_2 rfl (gL hm 9 isAgg42 rfl ?_)))))))))))
  obtain ⟨aV,aW,rfl,f8⟩ := ro_slice h1
  refine gY (yV st_42 rfl) (gA rfl (gE (gS (gR (gM rfl (gF fo_44_2 rfl (gL hm 8 isAgg42 rfl ?_)))))))
  obtain ⟨aY,aZ,rfl,f9⟩ := ro_slice h2
  refine gY (yV st_42 rfl) (gP (by omega) (by omega) rfl (gA rfl (gE (gS (gR (gf rfl (λa hf=>e_build0 (α := Int) et_47 hm rfl) ?_))))))
  rintro fa w hm
  refine gA rfl (gE (gS (gS (gR (gA rfl (gE ?_))))))
  obtain ⟨aM,aJ,rfl,fb⟩ := ro_slice (hm.ow_rep 2 rfl)
  obtain ⟨da,db,rfl,fc⟩ := ro_slice (hm.ow_rep 0 rfl)
  refine gBk (gb λ_ dF=>?_)
  replace dF := fitI_some.1 dF
  refine gNg (λcQ dG a w=>∃ (cq : Value),St 221 [(2,(nV b_)),(3,(nV i_)),(4,(pV aQ)),(5,(pV aT)),(8,(pV aR)),(9,(pV aP)),(10,(pV ac)),(11,(nV c_.regs)),(12,(nV ((c_.blocks.length : Int)))),(13,(nV (((c_.blocks.length : Int)) + ((f.blocks.length : Int))))),(14,cq),(15,(nV cQ))] w0 (hp w0) [blk aQ [nV c_.params,nV c_.regs,.slice aV c_.blocks.length aW] 44,blk aT [nV f.params,nV f.regs,.slice aY f.blocks.length aZ] 44,blk aR [nV 0,nV 0,.slice none 0 0] 44,blk aP [nV aN.params,nV aN.regs,sV cl cm aN.blocks.length cn] 44,holeE cl cm aN.blocks.length cn (aN.blocks : List Block_) (b_).toNat [aL,sV aF aG aA.ins.length aH,nV aA.jump,nV aA.on,ae],ow [aL] aA.phis,holeE aF aG aA.ins.length aH (aA.ins : List Ins_) (i_).toNat [nV aC.op,nV aC.to,.slice aM aC.args.length aJ,nV aC.n_],ow [.slice aM aC.args.length aJ] aC.args,ow [ae] aA.next_,blk ac [nV aC.op,nV aC.to,.slice aM aC.args.length aJ,nV aC.n_] 51,ow [cq] dG] a w) (λa hf=>⟨.slice da ([] : List Int).length db,hf.sb rfl,hm.pk [10,9,8,6,7,5,4,2,3,1,0] rfl rfl⟩) ?_ ?_
  ·repeat clear hm
   rintro _ _ cQ dG a w ⟨cq,hf,hm⟩ fd fe ff _
   refine gv hf (gS (gS (gR (gM rfl (gF fo_44_1 rfl (gL hm 1 isAgg3 rfl (gB rfl (gE (go _ 51 rfl (decide_eq_true (by omega)) (gct rfl (gSk (gS (gBk (gR (gM rfl (gM rfl (gM rfl (gB rfl (gf rfl (λa hf=>e_build (vs := #[(0,(nV (w64 (cQ + c_.regs))))]) (cs := [nV (w64 (cQ + c_.regs))]) et_47 hf hm rfl rfl (by kernel_rfl) rfl rfl) ?_)))))))))))))))))))
   rintro _ w ⟨fg,rfl,hm⟩
   replace hm := hm.lit (xs := ([w64 (cQ + c_.regs)] : List Int)) 0 rfl rfl rfl rfl
   refine gb λfh dc=>?_
   obtain ⟨dd,de⟩ := appM_some.1 dc
   refine gf rfl (λa hf=>e_append 11 et_47 hf hm rfl (hm.ow_rep 0 rfl) rfl rfl rfl dd) ?_
   rintro df w hm
   rw [de] at hm
   exact gA rfl (gE (gR (gM rfl (gP (by omega) (by omega) rfl (gA rfl (gE (gZe λa hf=>⟨df,hf.sb rfl,hm.pk [1,2,3,4,5,6,7,8,9,10,11] rfl rfl⟩)))))))
  repeat clear hm
  rintro fj dg a w ⟨dh,hf,hm⟩ fk fm
  refine gv hf (gS (gS (gR (gM rfl (gF fo_44_1 rfl (gL hm 1 isAgg3 rfl (gB rfl (gE (go _ 51 rfl (decide_eq_false (by omega)) (gcf rfl (gXt (gHh (gS (gR (gY (yn (hm.blk_at 1 rfl) isAgg44 sizeOf44 rfl) (gM rfl (gCg rfl call46 (spec_l7Each_ok _ f (.slice aY f.blocks.length aZ) (hm.now h2) dg dh (hm.ow_rep 10 rfl)) ?_)))))))))))))))))
  rintro aD fo fp w ⟨fq,rfl,hB⟩
  replace hm := hm.give hB; clear hB
  refine gAl hm zeroValue44 rfl λao w hm=>gSN hm 0 sizeOf44 (one_cons rfl (one_cons rfl (one_cons (rep_one (hm.ow_rep 1 rfl)) one_nil))) rfl λw hm=>gE (gS (gS (gR (gA rfl (gE ?_)))))
  obtain ⟨aj,aO,rfl,fr⟩ := ro_slice (hm.ow_rep 1 rfl)
  replace hm := hm.drnV0 1 rfl
  refine gBk (gNg (λbM ah a w=>∃ (au av aw : Nat),St 221 [(2,(nV b_)),(3,(nV i_)),(4,(pV aQ)),(5,(pV aT)),(8,(pV aR)),(9,(pV aP)),(10,(pV ac)),(11,(nV c_.regs)),(12,(nV ((c_.blocks.length : Int)))),(13,(nV (((c_.blocks.length : Int)) + ((f.blocks.length : Int))))),(16,(pV ao)),(17,(nV bM))] w0 (hp w0) [blk aQ [nV c_.params,nV c_.regs,.slice aV c_.blocks.length aW] 44,blk aT [nV f.params,nV f.regs,.slice aY f.blocks.length aZ] 44,blk aR [nV 0,nV 0,.slice none 0 0] 44,blk aP [nV aN.params,nV aN.regs,sV au av (ah).length aw] 44,holeE au av ((ah).length) aw (ah : List Block_) (b_).toNat [aL,sV aF aG aA.ins.length aH,nV aA.jump,nV aA.on,ae],ow [aL] aA.phis,holeE aF aG aA.ins.length aH (aA.ins : List Ins_) (i_).toNat [nV aC.op,nV aC.to,.slice aM aC.args.length aJ,nV aC.n_],ow [.slice aM aC.args.length aJ] aC.args,ow [ae] aA.next_,blk ac [nV aC.op,nV aC.to,.slice aM aC.args.length aJ,nV aC.n_] 51,blk ao [nV aD.params,nV aD.regs,.slice aj aD.blocks.length aO] 44,drnV (.slice aj aD.blocks.length aO) (aD.blocks : List Block_) (bM)] a w) (λa hf=>⟨cl,cm,cn,hf.sb rfl,hm.pk [2,3,4,5,6,7,8,9,10,11,0,1] rfl rfl⟩) ?_ ?_)
  ·repeat clear hm
   rintro _ _ bM ah a w ⟨au,av,aw,hf,hm⟩ ft fu fw _
   refine gv hf (gS (gS (gR (gM rfl (gF fo_44_2 rfl (gL hm 10 isAgg42 rfl (gY (yV st_42 rfl) (gB rfl (gE (go _ 67 rfl (decide_eq_true (by omega)) (gct rfl (gSk (gS (gBk (gS (gR (gF fo_44_2 rfl (gL hm 10 isAgg42 rfl (gM rfl (gg λaE dH cZ=>?_))))))))))))))))))))
   obtain ⟨ax,ay,fx,he⟩ := hm.drn_form 11 rfl cZ
   obtain ⟨rfl,_,rfl⟩ := sl3 he
   obtain ⟨_,di,hm⟩ := hm.drn_pin 11 rfl cZ
   have dk := hm.ow_rep 0 rfl
   obtain ⟨_,_,rfl,c4,_,_,rfl,c5,_,_,rfl,rfl,_,_,rfl,rfl,c6⟩ := dk
   obtain ⟨cC,rfl,-⟩ := id c4
   replace c4 : GT.rep (hp _) [cC] aE.phis := c4
   obtain ⟨b8,rfl,-⟩ := id c5
   replace c5 : GT.rep (hp _) [b8] aE.ins := c5
   obtain ⟨bX,rfl,-⟩ := id c6
   replace c6 : GT.rep (hp _) [bX] aE.next_ := c6
   clear di c4 c5 c6
   replace hm : Mem w0 (hp w0) _ [ow [cC,b8,nV aE.jump,nV aE.on,bX] (aE : Block_),blk aQ [nV c_.params,nV c_.regs,.slice aV c_.blocks.length aW] 44,blk aT [nV f.params,nV f.regs,.slice aY f.blocks.length aZ] 44,blk aR [nV 0,nV 0,.slice none 0 0] 44,blk aP [nV aN.params,nV aN.regs,sV au av (ah).length aw] 44,holeE au av ((ah).length) aw (ah : List Block_) (b_).toNat [aL,sV aF aG aA.ins.length aH,nV aA.jump,nV aA.on,ae],ow [aL] aA.phis,holeE aF aG aA.ins.length aH (aA.ins : List Ins_) (i_).toNat [nV aC.op,nV aC.to,.slice aM aC.args.length aJ,nV aC.n_],ow [.slice aM aC.args.length aJ] aC.args,ow [ae] aA.next_,blk ac [nV aC.op,nV aC.to,.slice aM aC.args.length aJ,nV aC.n_] 51,blk ao [nV aD.params,nV aD.regs,sV ax ay aD.blocks.length aO] 44,drnH ax ay aD.blocks.length aO (aD.blocks : List Block_) (bM).toNat [cC,b8,nV aE.jump,nV aE.on,bX]] := hm
   replace hm := hm.imp (c' := ow ([cC] ++ [b8,nV aE.jump,nV aE.on,bX]) ((aE.phis,(aE.ins,aE.jump,aE.on,aE.next_)) : (List Phi_) × (List Ins_) × Int × Int × (List Int))) 0 rfl (λF h0=>h0)
   replace hm := Mem.unpair (α := List Phi_) (β := (List Ins_) × Int × Int × (List Int)) (c := [cC]) (d := [b8,nV aE.jump,nV aE.on,bX]) (x := aE.phis) (y := (aE.ins,aE.jump,aE.on,aE.next_)) hm 0 rfl rfl
   replace hm := hm.imp (c' := ow ([b8] ++ [nV aE.jump,nV aE.on,bX]) ((aE.ins,(aE.jump,aE.on,aE.next_)) : (List Ins_) × Int × Int × (List Int))) 0 rfl (λF h0=>h0)
   replace hm := Mem.unpair (α := List Ins_) (β := Int × Int × (List Int)) (c := [b8]) (d := [nV aE.jump,nV aE.on,bX]) (x := aE.ins) (y := (aE.jump,aE.on,aE.next_)) hm 0 rfl rfl
   replace hm := hm.imp (c' := ow ([nV aE.jump] ++ [nV aE.on,bX]) ((aE.jump,(aE.on,aE.next_)) : Int × Int × (List Int))) 0 rfl (λF h0=>h0)
   replace hm := Mem.unpair (α := Int) (β := Int × (List Int)) (c := [nV aE.jump]) (d := [nV aE.on,bX]) (x := aE.jump) (y := (aE.on,aE.next_)) hm 0 rfl rfl
   replace hm := hm.imp (c' := ow ([nV aE.on] ++ [bX]) ((aE.on,aE.next_) : Int × (List Int))) 0 rfl (λF h0=>h0)
   replace hm := Mem.unpair (α := Int) (β := (List Int)) (c := [nV aE.on]) (d := [bX]) (x := aE.on) (y := aE.next_) hm 0 rfl rfl
   replace hm := hm.pk (L' := [ow [bX] aE.next_,ow [b8] aE.ins,ow [cC] aE.phis,blk aQ [nV c_.params,nV c_.regs,.slice aV c_.blocks.length aW] 44,blk aT [nV f.params,nV f.regs,.slice aY f.blocks.length aZ] 44,blk aR [nV 0,nV 0,.slice none 0 0] 44,blk aP [nV aN.params,nV aN.regs,sV au av (ah).length aw] 44,holeE au av ((ah).length) aw (ah : List Block_) (b_).toNat [aL,sV aF aG aA.ins.length aH,nV aA.jump,nV aA.on,ae],ow [aL] aA.phis,holeE aF aG aA.ins.length aH (aA.ins : List Ins_) (i_).toNat [nV aC.op,nV aC.to,.slice aM aC.args.length aJ,nV aC.n_],ow [.slice aM aC.args.length aJ] aC.args,ow [ae] aA.next_,blk ac [nV aC.op,nV aC.to,.slice aM aC.args.length aJ,nV aC.n_] 51,blk ao [nV aD.params,nV aD.regs,sV ax ay aD.blocks.length aO] 44,drnH ax ay aD.blocks.length aO (aD.blocks : List Block_) (bM).toNat [cC,b8,nV aE.jump,nV aE.on,bX]]) [0,3,4,5,6,7,8,9,10,11,12,13,14,15,16] rfl rfl
   have hL1_1 := hm.drnH_len 14 rfl
   refine gI st_42 dH (idx_lt2 cZ hL1_1) rfl (gY (yn (hm.drnH_at 14 rfl) isAgg49 sizeOf49 rfl) (gAl hm zeroValue49 rfl λbQ w hm=>gSN hm 0 sizeOf49 (one_cons (rep_one (hm.ow_rep 3 rfl)) (one_cons (rep_one (hm.ow_rep 2 rfl)) (one_cons rfl (one_cons rfl (one_cons (rep_one (hm.ow_rep 1 rfl)) one_nil))))) rfl λw hm=>gE (gS (gS ?_))))
   replace hm := hm.drnH_gone 15 rfl dH cZ
   refine gR (gA rfl (gE ?_))
   obtain ⟨az,bA,rfl,fy⟩ := ro_slice (hm.ow_rep 3 rfl)
   obtain ⟨bR,bS,rfl,gD⟩ := ro_slice (hm.ow_rep 2 rfl)
   obtain ⟨bT,bU,rfl,gG⟩ := ro_slice (hm.ow_rep 1 rfl)
   refine gBk (gNf hm (λcr cR=>[(2,(nV b_)),(3,(nV i_)),(4,(pV aQ)),(5,(pV aT)),(8,(pV aR)),(9,(pV aP)),(10,(pV ac)),(11,(nV c_.regs)),(12,(nV ((c_.blocks.length : Int)))),(13,(nV (((c_.blocks.length : Int)) + ((f.blocks.length : Int))))),(16,(pV ao)),(17,(nV bM)),(18,(pV bQ)),(19,(nV cr))]) (λcr cR=>[blk aQ [nV c_.params,nV c_.regs,.slice aV c_.blocks.length aW] 44,blk aT [nV f.params,nV f.regs,.slice aY f.blocks.length aZ] 44,blk aR [nV 0,nV 0,.slice none 0 0] 44,blk aP [nV aN.params,nV aN.regs,sV au av (ah).length aw] 44,holeE au av ((ah).length) aw (ah : List Block_) (b_).toNat [aL,sV aF aG aA.ins.length aH,nV aA.jump,nV aA.on,ae],ow [aL] aA.phis,holeE aF aG aA.ins.length aH (aA.ins : List Ins_) (i_).toNat [nV aC.op,nV aC.to,.slice aM aC.args.length aJ,nV aC.n_],ow [.slice aM aC.args.length aJ] aC.args,ow [ae] aA.next_,blk ac [nV aC.op,nV aC.to,.slice aM aC.args.length aJ,nV aC.n_] 51,blk ao [nV aD.params,nV aD.regs,sV ax ay aD.blocks.length aO] 44,drnS (sV ax ay aD.blocks.length aO) (aD.blocks : List Block_) (bM),blk bQ [.slice az aE.phis.length bA,.slice bR aE.ins.length bS,nV aE.jump,nV aE.on,.slice bT aE.next_.length bU] 49,ow [.slice az aE.phis.length bA] aE.phis,ow [.slice bR aE.ins.length bS] aE.ins,ow [.slice bT aE.next_.length bU] cR]) [4,5,6,7,8,9,10,11,12,13,14,15,0,3,2,1] rfl ?_ ?_)
   ·repeat clear hm
    intro _ _ cr cR w hm gH gK gQ _
    refine gS (gS (gR (gM rfl (gF fo_49_4 rfl (gL hm 12 isAgg47 rfl ?_)))))
    have gT := rep_len (hm.ow_rep 15 rfl)
    refine gY (yV st_47 rfl) (gB rfl (gE (go _ 79 rfl (decide_eq_true (by omega)) (gct rfl (gSk (gS (gBk ?_)))))))
    replace hm : Mem w0 (hp w0) _ [blk aQ [nV c_.params,nV c_.regs,.slice aV c_.blocks.length aW] 44,blk aT [nV f.params,nV f.regs,.slice aY f.blocks.length aZ] 44,blk aR [nV 0,nV 0,.slice none 0 0] 44,blk aP [nV aN.params,nV aN.regs,sV au av (ah).length aw] 44,holeE au av ((ah).length) aw (ah : List Block_) (b_).toNat [aL,sV aF aG aA.ins.length aH,nV aA.jump,nV aA.on,ae],ow [aL] aA.phis,holeE aF aG aA.ins.length aH (aA.ins : List Ins_) (i_).toNat [nV aC.op,nV aC.to,.slice aM aC.args.length aJ,nV aC.n_],ow [.slice aM aC.args.length aJ] aC.args,ow [ae] aA.next_,blk ac [nV aC.op,nV aC.to,.slice aM aC.args.length aJ,nV aC.n_] 51,blk ao [nV aD.params,nV aD.regs,sV ax ay aD.blocks.length aO] 44,drnS (sV ax ay aD.blocks.length aO) (aD.blocks : List Block_) (bM),blk bQ [.slice az aE.phis.length bA,.slice bR aE.ins.length bS,nV aE.jump,nV aE.on,.slice bT aE.next_.length bU] 49,ow [.slice az aE.phis.length bA] aE.phis,ow [.slice bR aE.ins.length bS] aE.ins,ow [.slice bT aE.next_.length bU] cR] := hm
    refine gW (.p 0 (.p 2 (.p 3 (.p 5 (.p 8 (.q 1 (.e 4 (.p 6 (.e 7 (.p 9 (.p 10 (.e 11 .fin .nil))) .nil)) .nil))))))) [4,7] [0,2,3,5,6,8,9,10] hm [0,1,2,3,4,5,6,7,8,9,10,11,12,13,14,15] [blk aQ [nV c_.params,nV c_.regs,.slice aV c_.blocks.length aW] 44,blk aT [nV f.params,nV f.regs,.slice aY f.blocks.length aZ] 44,blk aR [nV 0,nV 0,.slice none 0 0] 44,blk aP [nV aN.params,nV aN.regs,sV au av (ah).length aw] 44,holeE au av ((ah).length) aw (ah : List Block_) (b_).toNat [aL,sV aF aG aA.ins.length aH,nV aA.jump,nV aA.on,ae],ow [aL] aA.phis,holeE aF aG aA.ins.length aH (aA.ins : List Ins_) (i_).toNat [nV aC.op,nV aC.to,.slice aM aC.args.length aJ,nV aC.n_],ow [.slice aM aC.args.length aJ] aC.args,ow [ae] aA.next_,blk ac [nV aC.op,nV aC.to,.slice aM aC.args.length aJ,nV aC.n_] 51,blk ao [nV aD.params,nV aD.regs,sV ax ay aD.blocks.length aO] 44,drnS (sV ax ay aD.blocks.length aO) (aD.blocks : List Block_) (bM),blk bQ [.slice az aE.phis.length bA,.slice bR aE.ins.length bS,nV aE.jump,nV aE.on,.slice bT aE.next_.length bU] 49,ow [.slice az aE.phis.length bA] aE.phis,ow [.slice bR aE.ins.length bS] aE.ins,ow [.slice bT aE.next_.length bU] cR] rfl mxo (by kernel_rfl) (λ_ _ _ h=>h.2) λw hm hS=>tP rfl (λw=>yF fo_49_4 rfl) (tP rfl (λw=>yM rfl) (tP rfl (λw=>yF fo_49_4 rfl) (tP rfl (λw=>yM rfl) (tP rfl (λw=>yM rfl) (tQ rfl hS (λw hm=>yL hm 12 isAgg47 rfl) (tO (tY rfl (yL hm 12 isAgg47 rfl) (tAs hS (gg λc7 dI cI=>?_)))))))))
    obtain ⟨gU,gV,g9,he⟩ := idx_form (hm.ow_rep 15 rfl) cI
    obtain ⟨rfl,_,rfl⟩ := sl3 he
    have hL2_1 := rep_slice_len (hm.ow_rep 15 rfl)
    refine tP rfl (λw=>yI st_47 dI (idx_lt2 cI hL2_1) rfl) (tO (tY rfl (yl isAgg3 ((flat_cells (cs := [nV c7]) (hm.ow_rep 15 rfl) cI rfl).cell (j := 0) rfl) rfl) (tAs hS (tP rfl (λw=>yB rfl) ?_))))
    have hL2_2 := rep_slice_len (hm.ow_rep 15 rfl)
    refine tP rfl (λw=>yI st_47 dI (idx_lt2 cI hL2_2) rfl) (tO (tf0 rfl rfl (λa hf=>e_setElem (x1 := w64 (c7 + ((c_.blocks.length : Int)))) (j := 0) (vs := [nV (w64 (c7 + ((c_.blocks.length : Int))))]) 15 hf hm rfl cI rfl sizeOf3 rfl rfl rfl (one_cons rfl one_nil) rfl rfl) ?_))
    rintro _ w hm
    have ga := List.getElem?_set_self (a := w64 (c7 + ((c_.blocks.length : Int)))) (idx_lt cI)
    exact tAn rfl (tE (gR (gM rfl (gP (by omega) (by omega) rfl (gA rfl (gE (gze hm [0,1,2,3,4,5,6,7,8,9,10,11,12,13,14,15] rfl)))))))
   repeat clear hm
   intro gc c8 w hm ge gh
   refine gS (gS (gR (gM rfl (gF fo_49_4 rfl (gL hm 12 isAgg47 rfl ?_)))))
   have gi := rep_len (hm.ow_rep 15 rfl)
   refine gY (yV st_47 rfl) (gB rfl (gE (go _ 79 rfl (decide_eq_false (by omega)) (gcf rfl (gXt (gHh (gS (gS (gR (gF fo_49_2 rfl (gL hm 12 isAgg3 rfl (gB rfl (gE (gJg (λaf a w=>∃ (bV bW : Value),St 221 [(2,(nV b_)),(3,(nV i_)),(4,(pV aQ)),(5,(pV aT)),(8,(pV aR)),(9,(pV aP)),(10,(pV ac)),(11,(nV c_.regs)),(12,(nV ((c_.blocks.length : Int)))),(13,(nV (((c_.blocks.length : Int)) + ((f.blocks.length : Int))))),(16,(pV ao)),(17,(nV bM)),(18,(pV bQ))] w0 (hp w0) [blk aQ [nV c_.params,nV c_.regs,.slice aV c_.blocks.length aW] 44,blk aT [nV f.params,nV f.regs,.slice aY f.blocks.length aZ] 44,blk aR [nV 0,nV 0,.slice none 0 0] 44,blk aP [nV aN.params,nV aN.regs,sV au av (ah).length aw] 44,holeE au av ((ah).length) aw (ah : List Block_) (b_).toNat [aL,sV aF aG aA.ins.length aH,nV aA.jump,nV aA.on,ae],ow [aL] aA.phis,holeE aF aG aA.ins.length aH (aA.ins : List Ins_) (i_).toNat [nV aC.op,nV aC.to,.slice aM aC.args.length aJ,nV aC.n_],ow [.slice aM aC.args.length aJ] aC.args,ow [ae] aA.next_,blk ac [nV aC.op,nV aC.to,.slice aM aC.args.length aJ,nV aC.n_] 51,blk ao [nV aD.params,nV aD.regs,sV ax ay aD.blocks.length aO] 44,drnS (sV ax ay aD.blocks.length aO) (aD.blocks : List Block_) (bM),blk bQ [.slice az aE.phis.length bA,bV,nV af.2.1,nV af.2.2.1,bW] 49,ow [.slice az aE.phis.length bA] aE.phis,ow [bV] af.1,ow [bW] af.2.2.2] a w) (λaf=>?_) ?_))))))))))))))
   ·refine gsd 95 rfl (fun dl => ?_) fun dl => ?_
    ·refine gct rfl (gS (gR (gF fo_49_1 rfl (gL hm 12 isAgg46 rfl (gF fo_51_1 rfl (gL hm 9 isAgg3 rfl (gF fo_49_3 rfl (gL hm 12 isAgg3 rfl (gf rfl (fun a hf => e_build (vs := #[(0, (nV aE.on))]) (cs := [nV aE.on]) et_47 hf hm rfl rfl (by kernel_rfl) rfl rfl) ?_)))))))))
     rintro _ w ⟨br,rfl,hm⟩
     replace hm := hm.lit (xs := ([aE.on] : List Int)) 0 rfl rfl rfl rfl
     refine gY (yG rfl (y_build (vs := [(0,(nV 2)),(1,(nV aC.to)),(2,(sV br 0 1 1))]) (cs := #[nV 2,nV aC.to,sV br 0 1 1,nV 0]) rfl rfl (by kernel_rfl))) (gf rfl (λa hf=>e_build (vs := #[(0,(.agg #[nV 2,nV aC.to,sV br 0 1 1,nV 0]))]) (cs := [nV 2,nV aC.to,sV br 0 1 1,nV 0]) et_46 hf hm rfl rfl (by kernel_rfl) rfl rfl) ?_)
     rintro _ w ⟨c9,rfl,hm⟩
     replace hm := hm.els_nil (α := Ins_)
     replace hm : Mem w0 (hp w0) _ [els [] ([] : List Ins_),blk c9 [nV 2,nV aC.to,sV br 0 1 1,nV 0] 51,ow [nV 2,nV aC.to,sV br 0 1 1,nV 0] ((⟨2,aC.to,([aE.on] : List Int),0⟩ : Ins_) : Ins_),blk aQ [nV c_.params,nV c_.regs,.slice aV c_.blocks.length aW] 44,blk aT [nV f.params,nV f.regs,.slice aY f.blocks.length aZ] 44,blk aR [nV 0,nV 0,.slice none 0 0] 44,blk aP [nV aN.params,nV aN.regs,sV au av (ah).length aw] 44,holeE au av ((ah).length) aw (ah : List Block_) (b_).toNat [aL,sV aF aG aA.ins.length aH,nV aA.jump,nV aA.on,ae],ow [aL] aA.phis,holeE aF aG aA.ins.length aH (aA.ins : List Ins_) (i_).toNat [nV aC.op,nV aC.to,.slice aM aC.args.length aJ,nV aC.n_],ow [.slice aM aC.args.length aJ] aC.args,ow [ae] aA.next_,blk ac [nV aC.op,nV aC.to,.slice aM aC.args.length aJ,nV aC.n_] 51,blk ao [nV aD.params,nV aD.regs,sV ax ay aD.blocks.length aO] 44,drnS (sV ax ay aD.blocks.length aO) (aD.blocks : List Block_) (bM),blk bQ [.slice az aE.phis.length bA,.slice bR aE.ins.length bS,nV aE.jump,nV aE.on,.slice bT aE.next_.length bU] 49,ow [.slice az aE.phis.length bA] aE.phis,ow [.slice bR aE.ins.length bS] aE.ins,ow [.slice bT aE.next_.length bU] c8] := mk_Ins_ 2 aC.to 0 hm 2 rfl
     replace hm := (hm.els_cons 0 2 (by decide) rfl rfl).pk (L' := [els [nV 2,nV aC.to,sV br 0 1 1,nV 0] ([(⟨2,aC.to,([aE.on] : List Int),0⟩ : Ins_)] : List Ins_),blk c9 [nV 2,nV aC.to,sV br 0 1 1,nV 0] 51,blk aQ [nV c_.params,nV c_.regs,.slice aV c_.blocks.length aW] 44,blk aT [nV f.params,nV f.regs,.slice aY f.blocks.length aZ] 44,blk aR [nV 0,nV 0,.slice none 0 0] 44,blk aP [nV aN.params,nV aN.regs,sV au av (ah).length aw] 44,holeE au av ((ah).length) aw (ah : List Block_) (b_).toNat [aL,sV aF aG aA.ins.length aH,nV aA.jump,nV aA.on,ae],ow [aL] aA.phis,holeE aF aG aA.ins.length aH (aA.ins : List Ins_) (i_).toNat [nV aC.op,nV aC.to,.slice aM aC.args.length aJ,nV aC.n_],ow [.slice aM aC.args.length aJ] aC.args,ow [ae] aA.next_,blk ac [nV aC.op,nV aC.to,.slice aM aC.args.length aJ,nV aC.n_] 51,blk ao [nV aD.params,nV aD.regs,sV ax ay aD.blocks.length aO] 44,drnS (sV ax ay aD.blocks.length aO) (aD.blocks : List Block_) (bM),blk bQ [.slice az aE.phis.length bA,.slice bR aE.ins.length bS,nV aE.jump,nV aE.on,.slice bT aE.next_.length bU] 49,ow [.slice az aE.phis.length bA] aE.phis,ow [.slice bR aE.ins.length bS] aE.ins,ow [.slice bT aE.next_.length bU] c8]) [0,1,3,4,5,6,7,8,9,10,11,12,13,14,15,16,17,18] rfl rfl
     replace hm := (hm.lit_els 1 0 (by decide) rfl rfl rfl rfl).pk (L' := [ow [sV c9 0 1 1] ([(⟨2,aC.to,([aE.on] : List Int),0⟩ : Ins_)] : List Ins_),blk aQ [nV c_.params,nV c_.regs,.slice aV c_.blocks.length aW] 44,blk aT [nV f.params,nV f.regs,.slice aY f.blocks.length aZ] 44,blk aR [nV 0,nV 0,.slice none 0 0] 44,blk aP [nV aN.params,nV aN.regs,sV au av (ah).length aw] 44,holeE au av ((ah).length) aw (ah : List Block_) (b_).toNat [aL,sV aF aG aA.ins.length aH,nV aA.jump,nV aA.on,ae],ow [aL] aA.phis,holeE aF aG aA.ins.length aH (aA.ins : List Ins_) (i_).toNat [nV aC.op,nV aC.to,.slice aM aC.args.length aJ,nV aC.n_],ow [.slice aM aC.args.length aJ] aC.args,ow [ae] aA.next_,blk ac [nV aC.op,nV aC.to,.slice aM aC.args.length aJ,nV aC.n_] 51,blk ao [nV aD.params,nV aD.regs,sV ax ay aD.blocks.length aO] 44,drnS (sV ax ay aD.blocks.length aO) (aD.blocks : List Block_) (bM),blk bQ [.slice az aE.phis.length bA,.slice bR aE.ins.length bS,nV aE.jump,nV aE.on,.slice bT aE.next_.length bU] 49,ow [.slice az aE.phis.length bA] aE.phis,ow [.slice bR aE.ins.length bS] aE.ins,ow [.slice bT aE.next_.length bU] c8]) [1,2,3,4,5,6,7,8,9,10,11,12,13,14,15,16,17] rfl rfl
     refine gb λgj dm=>?_
     obtain ⟨dp,dq⟩ := appM_some.1 dm
     replace hm := (hm.both 15 0 (by decide) rfl rfl).pk (L' := [blk aQ [nV c_.params,nV c_.regs,.slice aV c_.blocks.length aW] 44,blk aT [nV f.params,nV f.regs,.slice aY f.blocks.length aZ] 44,blk aR [nV 0,nV 0,.slice none 0 0] 44,blk aP [nV aN.params,nV aN.regs,sV au av (ah).length aw] 44,holeE au av ((ah).length) aw (ah : List Block_) (b_).toNat [aL,sV aF aG aA.ins.length aH,nV aA.jump,nV aA.on,ae],ow [aL] aA.phis,holeE aF aG aA.ins.length aH (aA.ins : List Ins_) (i_).toNat [nV aC.op,nV aC.to,.slice aM aC.args.length aJ,nV aC.n_],ow [.slice aM aC.args.length aJ] aC.args,ow [ae] aA.next_,blk ac [nV aC.op,nV aC.to,.slice aM aC.args.length aJ,nV aC.n_] 51,blk ao [nV aD.params,nV aD.regs,sV ax ay aD.blocks.length aO] 44,drnS (sV ax ay aD.blocks.length aO) (aD.blocks : List Block_) (bM),blk bQ [.slice az aE.phis.length bA,.slice bR aE.ins.length bS,nV aE.jump,nV aE.on,.slice bT aE.next_.length bU] 49,ow [.slice az aE.phis.length bA] aE.phis,both (ow [.slice bR aE.ins.length bS] aE.ins) (ow [sV c9 0 1 1] ([(⟨2,aC.to,([aE.on] : List Int),0⟩ : Ins_)] : List Ins_)),ow [.slice bT aE.next_.length bU] c8]) [1,2,3,4,5,6,7,8,9,10,11,12,13,14,15,16] rfl rfl
     refine gf rfl (λa hf=>e_appendD (xs := aE.ins) (ys := ([(⟨2,aC.to,([aE.on] : List Int),0⟩ : Ins_)] : List Ins_)) 14 et_46 hf hm rfl rfl rfl rfl dp) ?_
     rintro dr w hm
     rw [dq] at hm
     refine gF fo_49_1 rfl (gS1 hm 12 sizeOf46 (rep_one (hm.ow_rep 14 rfl)) rfl λw hm=>gE (gS (gR (gF fo_49_2 rfl (gS1 hm 12 sizeOf3 rfl rfl λw hm=>gE (gS (gR (gF fo_49_3 rfl (gS1 hm 12 sizeOf3 rfl rfl λw hm=>gE (gR (gM rfl (gf rfl (λa hf=>e_build (vs := #[(0,(nV (((c_.blocks.length : Int)) + ((f.blocks.length : Int)))))]) (cs := [nV (((c_.blocks.length : Int)) + ((f.blocks.length : Int)))]) et_47 hf hm rfl rfl (by kernel_rfl) rfl rfl) ?_))))))))))))
     rintro _ w ⟨dt,rfl,hm⟩
     replace hm := hm.lit (xs := ([((c_.blocks.length : Int)) + ((f.blocks.length : Int))] : List Int)) 0 rfl rfl rfl rfl
     exact gF fo_49_4 rfl (gS1 hm 13 sizeOf47 rfl rfl λw hm=>gE (gZ λa hf=>⟨dr,sV dt 0 1 1,hf.sb rfl,hm.pk [1,2,3,4,5,6,7,8,9,10,11,12,13,14,15,0] rfl rfl⟩))
    exact gcf rfl (gSk (gZ λa hf=>⟨.slice bR aE.ins.length bS,.slice bT aE.next_.length bU,hf.sb rfl,hm.pk [0,1,2,3,4,5,6,7,8,9,10,11,12,13,14,15] rfl rfl⟩))
   repeat clear hm
   rintro af a w ⟨bV,bW,hf,hm⟩
   refine gv hf (gR (gF fo_44_2 rfl (gL hm 3 isAgg42 rfl (gY (yn (hm.blk_at 12 rfl) isAgg49 sizeOf49 rfl) (gf rfl (λa hf=>e_build (vs := #[(0,(.agg #[.slice az aE.phis.length bA,bV,nV af.2.1,nV af.2.2.1,bW]))]) (cs := [.slice az aE.phis.length bA,bV,nV af.2.1,nV af.2.2.1,bW]) et_42 hf hm rfl rfl (by kernel_rfl) rfl rfl) ?_)))))
   rintro _ w ⟨cS,rfl,hm⟩
   have gk : CellsAt (hp _) cS 0 [.slice az aE.phis.length bA,bV,nV af.2.1,nV af.2.2.1,bW] := hm.blk_part (i := 0) 0 rfl rfl
   have gm := isSl (hm.ow_rep 14 rfl)
   have gp := isSl (hm.ow_rep 15 rfl)
   have gq := isSl (hm.ow_rep 16 rfl)
   replace hm := hm.els_nil (α := Block_)
   replace hm := (mk_Block_ af.2.1 af.2.2.1 hm 15 16 17 rfl).pk (L' := [els [] ([] : List Block_),blk cS [.slice az aE.phis.length bA,bV,nV af.2.1,nV af.2.2.1,bW] 49,blk aQ [nV c_.params,nV c_.regs,.slice aV c_.blocks.length aW] 44,blk aT [nV f.params,nV f.regs,.slice aY f.blocks.length aZ] 44,blk aR [nV 0,nV 0,.slice none 0 0] 44,blk aP [nV aN.params,nV aN.regs,sV au av (ah).length aw] 44,holeE au av ((ah).length) aw (ah : List Block_) (b_).toNat [aL,sV aF aG aA.ins.length aH,nV aA.jump,nV aA.on,ae],ow [aL] aA.phis,holeE aF aG aA.ins.length aH (aA.ins : List Ins_) (i_).toNat [nV aC.op,nV aC.to,.slice aM aC.args.length aJ,nV aC.n_],ow [.slice aM aC.args.length aJ] aC.args,ow [ae] aA.next_,blk ac [nV aC.op,nV aC.to,.slice aM aC.args.length aJ,nV aC.n_] 51,blk ao [nV aD.params,nV aD.regs,sV ax ay aD.blocks.length aO] 44,drnS (sV ax ay aD.blocks.length aO) (aD.blocks : List Block_) (bM),blk bQ [.slice az aE.phis.length bA,bV,nV af.2.1,nV af.2.2.1,bW] 49,ow [.slice az aE.phis.length bA,bV,nV af.2.1,nV af.2.2.1,bW] ((⟨aE.phis,af.1,af.2.1,af.2.2.1,af.2.2.2⟩ : Block_) : Block_)]) [0,1,2,3,4,5,6,7,8,9,10,11,12,13,14,15] rfl rfl
   replace hm := (hm.els_cons 0 15 (by decide) rfl rfl).pk (L' := [els [.slice az aE.phis.length bA,bV,nV af.2.1,nV af.2.2.1,bW] ([(⟨aE.phis,af.1,af.2.1,af.2.2.1,af.2.2.2⟩ : Block_)] : List Block_),blk cS [.slice az aE.phis.length bA,bV,nV af.2.1,nV af.2.2.1,bW] 49,blk aQ [nV c_.params,nV c_.regs,.slice aV c_.blocks.length aW] 44,blk aT [nV f.params,nV f.regs,.slice aY f.blocks.length aZ] 44,blk aR [nV 0,nV 0,.slice none 0 0] 44,blk aP [nV aN.params,nV aN.regs,sV au av (ah).length aw] 44,holeE au av ((ah).length) aw (ah : List Block_) (b_).toNat [aL,sV aF aG aA.ins.length aH,nV aA.jump,nV aA.on,ae],ow [aL] aA.phis,holeE aF aG aA.ins.length aH (aA.ins : List Ins_) (i_).toNat [nV aC.op,nV aC.to,.slice aM aC.args.length aJ,nV aC.n_],ow [.slice aM aC.args.length aJ] aC.args,ow [ae] aA.next_,blk ac [nV aC.op,nV aC.to,.slice aM aC.args.length aJ,nV aC.n_] 51,blk ao [nV aD.params,nV aD.regs,sV ax ay aD.blocks.length aO] 44,drnS (sV ax ay aD.blocks.length aO) (aD.blocks : List Block_) (bM),blk bQ [.slice az aE.phis.length bA,bV,nV af.2.1,nV af.2.2.1,bW] 49]) [0,1,2,3,4,5,6,7,8,9,10,11,12,13,14] rfl rfl
   replace hm := (hm.lit_els 1 0 (by decide) rfl rfl rfl rfl).pk (L' := [ow [sV cS 0 1 1] ([(⟨aE.phis,af.1,af.2.1,af.2.2.1,af.2.2.2⟩ : Block_)] : List Block_),blk aQ [nV c_.params,nV c_.regs,.slice aV c_.blocks.length aW] 44,blk aT [nV f.params,nV f.regs,.slice aY f.blocks.length aZ] 44,blk aR [nV 0,nV 0,.slice none 0 0] 44,blk aP [nV aN.params,nV aN.regs,sV au av (ah).length aw] 44,holeE au av ((ah).length) aw (ah : List Block_) (b_).toNat [aL,sV aF aG aA.ins.length aH,nV aA.jump,nV aA.on,ae],ow [aL] aA.phis,holeE aF aG aA.ins.length aH (aA.ins : List Ins_) (i_).toNat [nV aC.op,nV aC.to,.slice aM aC.args.length aJ,nV aC.n_],ow [.slice aM aC.args.length aJ] aC.args,ow [ae] aA.next_,blk ac [nV aC.op,nV aC.to,.slice aM aC.args.length aJ,nV aC.n_] 51,blk ao [nV aD.params,nV aD.regs,sV ax ay aD.blocks.length aO] 44,drnS (sV ax ay aD.blocks.length aO) (aD.blocks : List Block_) (bM),blk bQ [.slice az aE.phis.length bA,bV,nV af.2.1,nV af.2.2.1,bW] 49]) [1,2,3,4,5,6,7,8,9,10,11,12,13,14] rfl rfl
   refine gb λdJ du=>?_
   obtain ⟨dv,dw⟩ := appM_some.1 du
   have dx : ∀ u ∈ ([aL,sV aF aG aA.ins.length aH,nV aA.jump,nV aA.on,ae] : List Value),u.oneCell' = true := (one_cons (rep_one (hm.ow_rep 6 rfl)) (one_cons rfl (one_cons rfl (one_cons rfl (one_cons (rep_one (hm.ow_rep 9 rfl)) one_nil)))))
   replace hm := (hm.both 5 0 (by decide) rfl rfl).pk (L' := [blk aQ [nV c_.params,nV c_.regs,.slice aV c_.blocks.length aW] 44,blk aT [nV f.params,nV f.regs,.slice aY f.blocks.length aZ] 44,blk aR [nV 0,nV 0,.slice none 0 0] 44,blk aP [nV aN.params,nV aN.regs,sV au av (ah).length aw] 44,both (holeE au av ((ah).length) aw (ah : List Block_) (b_).toNat [aL,sV aF aG aA.ins.length aH,nV aA.jump,nV aA.on,ae]) (ow [sV cS 0 1 1] ([(⟨aE.phis,af.1,af.2.1,af.2.2.1,af.2.2.2⟩ : Block_)] : List Block_)),ow [aL] aA.phis,holeE aF aG aA.ins.length aH (aA.ins : List Ins_) (i_).toNat [nV aC.op,nV aC.to,.slice aM aC.args.length aJ,nV aC.n_],ow [.slice aM aC.args.length aJ] aC.args,ow [ae] aA.next_,blk ac [nV aC.op,nV aC.to,.slice aM aC.args.length aJ,nV aC.n_] 51,blk ao [nV aD.params,nV aD.regs,sV ax ay aD.blocks.length aO] 44,drnS (sV ax ay aD.blocks.length aO) (aD.blocks : List Block_) (bM),blk bQ [.slice az aE.phis.length bA,bV,nV af.2.1,nV af.2.2.1,bW] 49]) [1,2,3,4,5,6,7,8,9,10,11,12,13] rfl rfl
   refine gf rfl (λa hf=>e_appendHx (xs := ah) (ys := ([(⟨aE.phis,af.1,af.2.1,af.2.2.1,af.2.2.2⟩ : Block_)] : List Block_)) 4 et_42 hf hm rfl dx rfl rfl rfl dv dw) ?_
   rintro _ w ⟨dK,dL,dM,rfl,hm⟩
   replace hm : Mem w0 (hp w0) _ [blk aQ [nV c_.params,nV c_.regs,.slice aV c_.blocks.length aW] 44,blk aT [nV f.params,nV f.regs,.slice aY f.blocks.length aZ] 44,blk aR [nV 0,nV 0,.slice none 0 0] 44,blk aP [nV aN.params,nV aN.regs,sV au av (ah).length aw] 44,holeE dK dL dJ.length dM (dJ : List Block_) (b_).toNat [aL,sV aF aG aA.ins.length aH,nV aA.jump,nV aA.on,ae],ow [aL] aA.phis,holeE aF aG aA.ins.length aH (aA.ins : List Ins_) (i_).toNat [nV aC.op,nV aC.to,.slice aM aC.args.length aJ,nV aC.n_],ow [.slice aM aC.args.length aJ] aC.args,ow [ae] aA.next_,blk ac [nV aC.op,nV aC.to,.slice aM aC.args.length aJ,nV aC.n_] 51,blk ao [nV aD.params,nV aD.regs,sV ax ay aD.blocks.length aO] 44,drnS (sV ax ay aD.blocks.length aO) (aD.blocks : List Block_) (bM),blk bQ [.slice az aE.phis.length bA,bV,nV af.2.1,nV af.2.2.1,bW] 49] := hm
   refine gF fo_44_2 rfl (gS1 hm 3 sizeOf42 rfl rfl λw hm=>gE (gR (gM rfl (gP (by omega) (by omega) rfl (gA rfl (gE ?_))))))
   replace hm := hm.drnS_next 11 rfl
   exact gZe λa hf=>⟨dK,dL,dM,hf.sb rfl,hm.pk [0,1,2,3,4,5,6,7,8,9,10,11] rfl rfl⟩
  repeat clear hm
  rintro bK aX a w ⟨ap,aq,ar,hf,hm⟩ gr gt
  refine gv hf (gS (gS (gR (gM rfl (gF fo_44_2 rfl (gL hm 10 isAgg42 rfl (gY (yV st_42 rfl) (gB rfl (gE (go _ 67 rfl (decide_eq_false (by omega)) (gcf rfl (gXt (gHh (gS (gR (gF fo_44_1 rfl (gL hm 0 isAgg3 rfl (gF fo_44_1 rfl (gL hm 1 isAgg3 rfl (gB rfl (gF fo_44_1 rfl (gS1 hm 3 sizeOf3 rfl rfl λw hm=>gE (gS (gR (gF fo_44_2 rfl (gL hm 3 isAgg42 rfl (gM rfl ?_)))))))))))))))))))))))))))
  have hL0_1 := hm.holeE_len 4 rfl
  obtain ⟨gu,dy⟩ := hm.holeE_ex 4 rfl
  refine gI st_42 ck (idx_lt2 dy hL0_1) rfl (gY (yn (hm.holeE_at 4 rfl) isAgg49 sizeOf49 rfl) (gAl hm zeroValue49 rfl λai w hm=>gSN hm 0 sizeOf49 (one_cons (rep_one (hm.ow_rep 6 rfl)) (one_cons rfl (one_cons rfl (one_cons rfl (one_cons (rep_one (hm.ow_rep 9 rfl)) one_nil))))) rfl λw hm=>gE (gS ?_)))
  have dz := (List.getElem?_eq_some_iff.1 cH).1
  replace hm : Mem w0 (hp w0) _ [blk ai [aL,sV aF aG aA.ins.length aH,nV aA.jump,nV aA.on,ae] 49,blk aQ [nV c_.params,nV c_.regs,.slice aV c_.blocks.length aW] 44,blk aT [nV f.params,nV f.regs,.slice aY f.blocks.length aZ] 44,blk aR [nV 0,nV 0,.slice none 0 0] 44,blk aP [nV aN.params,nV (w64 (c_.regs + f.regs)),sV ap aq (aX).length ar] 44,holeE ap aq ((aX).length) ar (aX : List Block_) (b_).toNat [aL,sV aF aG aA.ins.length aH,nV aA.jump,nV aA.on,ae],ow [aL] aA.phis,gap aF aG aA.ins.length aH (List.take (i_).toNat aA.ins : List Ins_) (List.drop (i_ + 1).toNat aA.ins : List Ins_),ow [.slice aM aC.args.length aJ] aC.args,ow [ae] aA.next_,blk ac [nV aC.op,nV aC.to,.slice aM aC.args.length aJ,nV aC.n_] 51,blk ao [nV aD.params,nV aD.regs,.slice aj aD.blocks.length aO] 44,drnV (.slice aj aD.blocks.length aO) (aD.blocks : List Block_) (bK)] := hm.hole_gap (j := (i_ + 1).toNat) 7 rfl (by have := co; omega)
  obtain ⟨cT,hgl0_1m⟩ := hm.gap_max 7 rfl
  refine gJg (λaS a w=>∃ (bN : Value) (ak al am : Nat) (bC : Value),St 221 [(2,(nV b_)),(3,(nV i_)),(4,(pV aQ)),(5,(pV aT)),(8,(pV aR)),(9,(pV aP)),(10,(pV ac)),(11,(nV c_.regs)),(12,(nV ((c_.blocks.length : Int)))),(13,(nV (((c_.blocks.length : Int)) + ((f.blocks.length : Int))))),(20,(pV ai))] w0 (hp w0) [blk aQ [nV c_.params,nV c_.regs,.slice aV c_.blocks.length aW] 44,blk aT [nV f.params,nV f.regs,.slice aY f.blocks.length aZ] 44,blk aR [nV 0,nV 0,.slice none 0 0] 44,blk aP [nV aN.params,nV (w64 (c_.regs + f.regs)),sV ak al (aS).length am] 44,holeE ak al ((aS).length) am (aS : List Block_) (b_).toNat [aL,sV aF aG aA.ins.length aH,nV aA.jump,nV aA.on,bN],ow [aL] aA.phis,gap aF aG aA.ins.length aH (List.take (i_).toNat aA.ins : List Ins_) ([] : List Ins_),blk ac [nV aC.op,nV aC.to,.slice aM aC.args.length aJ,nV aC.n_] 51,ow [.slice aM aC.args.length aJ] aC.args,blk ai [aL,sV aF aG aA.ins.length aH,nV aA.jump,nV aA.on,bC] 49] a w) (λaS=>?_) ?_
  ·replace hm : Mem w0 (hp w0) _ [blk ai [aL, sV aF aG aA.ins.length aH, nV aA.jump, nV aA.on, ae] 49, blk aQ [nV c_.params, nV c_.regs, .slice aV c_.blocks.length aW] 44, blk aT [nV f.params, nV f.regs, .slice aY f.blocks.length aZ] 44, blk aR [nV 0, nV 0, .slice none 0 0] 44, blk aP [nV aN.params, nV (w64 (c_.regs + f.regs)), sV ap aq (aX).length ar] 44, holeE ap aq ((aX).length) ar (aX : List Block_) (b_).toNat [aL, sV aF aG aA.ins.length aH, nV aA.jump, nV aA.on, ae], ow [aL] aA.phis, gap aF aG aA.ins.length aH (List.take (i_).toNat aA.ins : List Ins_) (List.drop (i_ + 1).toNat aA.ins : List Ins_), ow [.slice aM aC.args.length aJ] aC.args, ow [ae] aA.next_, blk ac [nV aC.op, nV aC.to, .slice aM aC.args.length aJ, nV aC.n_] 51, blk ao [nV aD.params, nV aD.regs, .slice aj aD.blocks.length aO] 44, drnV (.slice aj aD.blocks.length aO) (aD.blocks : List Block_) (bK)] := hm
   refine gW (.p 0 (.p 4 (.p 6 (.p 7 (.p 10 (.p 12 (.p 14 (.q 1 (.q 5 (.p 8 (.q 11 (.q 13 (.q 15 (.e 2 (.e 3 (.e 9 (.p 16 (.e 17 (.e 18 (.p 19 (.e 20 .fin .nil)) .nil) .nil)) .nil) .nil) (.e 3 (.e 2 (.e 9 (.p 16 (.e 17 (.e 18 (.p 19 (.e 20 .fin .nil)) .nil) .nil)) .nil) (.e 9 (.e 2 (.p 16 (.e 17 (.e 18 (.p 19 (.e 20 .fin .nil)) .nil) .nil)) .nil) .nil)) .nil))))))))))))))) [1,2,3,5,9,11,13,15,17] [0,4,6,7,8,10,12,14,16,19] hm [0,1,2,3,4,5,6,8,10,11,12] [blk ai [aL,sV aF aG aA.ins.length aH,nV aA.jump,nV aA.on,ae] 49,blk aQ [nV c_.params,nV c_.regs,.slice aV c_.blocks.length aW] 44,blk aT [nV f.params,nV f.regs,.slice aY f.blocks.length aZ] 44,blk aR [nV 0,nV 0,.slice none 0 0] 44,blk aP [nV aN.params,nV (w64 (c_.regs + f.regs)),sV ap aq (aX).length ar] 44,holeE ap aq ((aX).length) ar (aX : List Block_) (b_).toNat [aL,sV aF aG aA.ins.length aH,nV aA.jump,nV aA.on,ae],ow [aL] aA.phis,ow [.slice aM aC.args.length aJ] aC.args,blk ac [nV aC.op,nV aC.to,.slice aM aC.args.length aJ,nV aC.n_] 51,blk ao [nV aD.params,nV aD.regs,.slice aj aD.blocks.length aO] 44,drnV (.slice aj aD.blocks.length aO) (aD.blocks : List Block_) (bK)] rfl mxo (by kernel_rfl) (λ_ _ _ h=>h.2) λw hm hS=>tP rfl (λw=>yF fo_44_2 rfl) (tP rfl (λw=>yF fo_49_1 rfl) (tP rfl (λw=>yM rfl) (tP rfl (λw=>yB rfl) (tP rfl (λw=>yF fo_49_2 rfl) (tP rfl (λw=>yF fo_49_3 rfl) (tP rfl (λw=>yF fo_49_4 rfl) (tQ rfl hS (λw hm=>yL hm 4 isAgg42 rfl) (tQ rfl hS (λw hm=>yL hm 0 isAgg46 rfl) (gb λbZ eA=>?_)))))))))
   obtain ⟨gw,cD⟩ := subM_some.1 eA
   have cJ : w64 (i_ + 1) = i_ + 1 := w64_id (by omega) (by omega)
   obtain ⟨gx,ca⟩ : ∃ nv,nv = subV (GT.sz (Ins_)) (sV aF aG aA.ins.length aH) (aA.ins.length - bZ.length) aA.ins.length := ⟨_,rfl⟩
   refine tP rfl (λw=>yG rfl (yl_eq ca (y_subLI (α := Ins_) st_46 rfl rfl rfl (by rw [cJ]; omega) (by rw [cJ]; omega) cT.2 (by rw [← cD,cJ]; simp only [List.length_drop,List.length_take]; omega)))) (tQ rfl hS (λw hm=>yL hm 0 isAgg3 rfl) (tQ rfl hS (λw hm=>yL hm 0 isAgg3 rfl) (tQ rfl hS (λw hm=>yL hm 0 isAgg47 rfl) (gb λan ct=>gb λcK cu=>tMo ?_ ?_))))
   ·refine tf rfl rfl (fun a hf => e_build0 (α := Phi_) et_45 hm rfl) ?_
    rintro eB w hm
    refine tAk hm [1,2,3,4,5,6,7,9,11,12,13] rfl λhS=>tO (tf rfl rfl (λa hf=>e_build0 (α := Ins_) et_46 hm rfl) ?_)
    rintro eC w hm
    refine tAk hm [2,3,4,5,6,7,8,10,12,13,14] rfl λhS=>tO ?_
    obtain ⟨eD,eE⟩ := appM_some.1 ct
    replace hm := hm.imp (c' := gap aF aG aA.ins.length aH (List.take (i_).toNat aA.ins : List Ins_) (bZ : List Ins_)) 9 rfl (λF h0=>by rw [← cD,cJ,show (List.take (aA.ins.length : Int).toNat aA.ins) = aA.ins from List.take_length]; exact h0)
    obtain ⟨eF,hS1_1,hm⟩ := hm.gap_zsG 9 rfl
    replace hS1_1 := src_sub hS1_1 rfl (by rw [← cD]; simp only [List.length_drop,List.length_take]; omega) cT.2
    rw [← ca] at hS1_1
    replace hm := (hm.both 1 0 (by decide) rfl rfl).pk (L' := [both (ow [eC] ([] : List Ins_)) (els eF (bZ : List Ins_)),ow [eB] ([] : List Phi_),blk ai [aL,sV aF aG aA.ins.length aH,nV aA.jump,nV aA.on,ae] 49,blk aQ [nV c_.params,nV c_.regs,.slice aV c_.blocks.length aW] 44,blk aT [nV f.params,nV f.regs,.slice aY f.blocks.length aZ] 44,blk aR [nV 0,nV 0,.slice none 0 0] 44,blk aP [nV aN.params,nV (w64 (c_.regs + f.regs)),sV ap aq (aX).length ar] 44,holeE ap aq ((aX).length) ar (aX : List Block_) (b_).toNat [aL,sV aF aG aA.ins.length aH,nV aA.jump,nV aA.on,ae],ow [aL] aA.phis,gap aF aG aA.ins.length aH (List.take (i_).toNat aA.ins : List Ins_) ([] : List Ins_),ow [.slice aM aC.args.length aJ] aC.args,ow [ae] aA.next_,blk ac [nV aC.op,nV aC.to,.slice aM aC.args.length aJ,nV aC.n_] 51,blk ao [nV aD.params,nV aD.regs,.slice aj aD.blocks.length aO] 44,drnV (.slice aj aD.blocks.length aO) (aD.blocks : List Block_) (bK)]) [1,2,3,4,5,6,7,8,9,10,11,12,13,14,15] rfl rfl
    refine tf rfl rfl (λa hf=>e_appendE (xs := ([] : List Ins_)) (ys := bZ) 0 et_46 hf hm rfl hS1_1 rfl rfl rfl eD) ?_
    rintro gy w hm
    rw [eE] at hm
    refine tAk hm [2,3,4,5,6,7,8,10,12,13,14] rfl λhS=>?_
    obtain ⟨b9,ba,rfl,hD⟩ := ro_slice (hm.ow_rep 1 rfl)
    obtain ⟨bc,bd,rfl,hO⟩ := ro_slice (hm.ow_rep 0 rfl)
    obtain ⟨bD,bE,rfl,hU⟩ := ro_slice (hm.ow_rep 11 rfl)
    refine tP rfl (λw=>yG rfl (y_build (vs := [(0,(.slice b9 ([] : List Phi_).length ba)),(1,(.slice bc an.length bd)),(2,(nV aA.jump)),(3,(nV aA.on)),(4,(.slice bD aA.next_.length bE))]) (cs := #[.slice b9 ([] : List Phi_).length ba,.slice bc an.length bd,nV aA.jump,nV aA.on,.slice bD aA.next_.length bE]) rfl rfl (by kernel_rfl))) (tO (tf rfl rfl (λa hf=>e_build (vs := #[(0,(.agg #[.slice b9 ([] : List Phi_).length ba,.slice bc an.length bd,nV aA.jump,nV aA.on,.slice bD aA.next_.length bE]))]) (cs := [.slice b9 ([] : List Phi_).length ba,.slice bc an.length bd,nV aA.jump,nV aA.on,.slice bD aA.next_.length bE]) et_42 hf hm rfl rfl (by kernel_rfl) rfl rfl) ?_))
    rintro _ w ⟨cU,rfl,hm⟩
    have hZ : CellsAt (hp _) cU 0 [.slice b9 ([] : List Phi_).length ba,.slice bc an.length bd,nV aA.jump,nV aA.on,.slice bD aA.next_.length bE] := hm.blk_part (i := 0) 0 rfl rfl
    have h9 := isSl (hm.ow_rep 2 rfl)
    have iA := isSl (hm.ow_rep 1 rfl)
    have iB := isSl (hm.ow_rep 12 rfl)
    replace hm := hm.els_nil (α := Block_)
    replace hm := (mk_Block_ aA.jump aA.on hm 3 2 13 rfl).pk (L' := [els [] ([] : List Block_),blk cU [.slice b9 ([] : List Phi_).length ba,.slice bc an.length bd,nV aA.jump,nV aA.on,.slice bD aA.next_.length bE] 49,ow [.slice b9 ([] : List Phi_).length ba,.slice bc an.length bd,nV aA.jump,nV aA.on,.slice bD aA.next_.length bE] ((⟨([] : List Phi_),an,aA.jump,aA.on,aA.next_⟩ : Block_) : Block_),blk ai [aL,sV aF aG aA.ins.length aH,nV aA.jump,nV aA.on,.slice bD aA.next_.length bE] 49,blk aQ [nV c_.params,nV c_.regs,.slice aV c_.blocks.length aW] 44,blk aT [nV f.params,nV f.regs,.slice aY f.blocks.length aZ] 44,blk aR [nV 0,nV 0,.slice none 0 0] 44,blk aP [nV aN.params,nV (w64 (c_.regs + f.regs)),sV ap aq (aX).length ar] 44,holeE ap aq ((aX).length) ar (aX : List Block_) (b_).toNat [aL,sV aF aG aA.ins.length aH,nV aA.jump,nV aA.on,.slice bD aA.next_.length bE],ow [aL] aA.phis,gap aF aG aA.ins.length aH (List.take (i_).toNat aA.ins : List Ins_) ([] : List Ins_),ow [.slice aM aC.args.length aJ] aC.args,blk ac [nV aC.op,nV aC.to,.slice aM aC.args.length aJ,nV aC.n_] 51,blk ao [nV aD.params,nV aD.regs,.slice aj aD.blocks.length aO] 44,drnV (.slice aj aD.blocks.length aO) (aD.blocks : List Block_) (bK)]) [0,1,3,4,5,6,7,8,9,10,11,12,14,15,16] rfl rfl
    replace hm := (hm.els_cons 0 2 (by decide) rfl rfl).pk (L' := [els [.slice b9 ([] : List Phi_).length ba,.slice bc an.length bd,nV aA.jump,nV aA.on,.slice bD aA.next_.length bE] ([(⟨([] : List Phi_),an,aA.jump,aA.on,aA.next_⟩ : Block_)] : List Block_),blk cU [.slice b9 ([] : List Phi_).length ba,.slice bc an.length bd,nV aA.jump,nV aA.on,.slice bD aA.next_.length bE] 49,blk ai [aL,sV aF aG aA.ins.length aH,nV aA.jump,nV aA.on,.slice bD aA.next_.length bE] 49,blk aQ [nV c_.params,nV c_.regs,.slice aV c_.blocks.length aW] 44,blk aT [nV f.params,nV f.regs,.slice aY f.blocks.length aZ] 44,blk aR [nV 0,nV 0,.slice none 0 0] 44,blk aP [nV aN.params,nV (w64 (c_.regs + f.regs)),sV ap aq (aX).length ar] 44,holeE ap aq ((aX).length) ar (aX : List Block_) (b_).toNat [aL,sV aF aG aA.ins.length aH,nV aA.jump,nV aA.on,.slice bD aA.next_.length bE],ow [aL] aA.phis,gap aF aG aA.ins.length aH (List.take (i_).toNat aA.ins : List Ins_) ([] : List Ins_),ow [.slice aM aC.args.length aJ] aC.args,blk ac [nV aC.op,nV aC.to,.slice aM aC.args.length aJ,nV aC.n_] 51,blk ao [nV aD.params,nV aD.regs,.slice aj aD.blocks.length aO] 44,drnV (.slice aj aD.blocks.length aO) (aD.blocks : List Block_) (bK)]) [0,1,3,4,5,6,7,8,9,10,11,12,13,14] rfl rfl
    replace hm := (hm.lit_els 1 0 (by decide) rfl rfl rfl rfl).pk (L' := [ow [sV cU 0 1 1] ([(⟨([] : List Phi_),an,aA.jump,aA.on,aA.next_⟩ : Block_)] : List Block_),blk ai [aL,sV aF aG aA.ins.length aH,nV aA.jump,nV aA.on,.slice bD aA.next_.length bE] 49,blk aQ [nV c_.params,nV c_.regs,.slice aV c_.blocks.length aW] 44,blk aT [nV f.params,nV f.regs,.slice aY f.blocks.length aZ] 44,blk aR [nV 0,nV 0,.slice none 0 0] 44,blk aP [nV aN.params,nV (w64 (c_.regs + f.regs)),sV ap aq (aX).length ar] 44,holeE ap aq ((aX).length) ar (aX : List Block_) (b_).toNat [aL,sV aF aG aA.ins.length aH,nV aA.jump,nV aA.on,.slice bD aA.next_.length bE],ow [aL] aA.phis,gap aF aG aA.ins.length aH (List.take (i_).toNat aA.ins : List Ins_) ([] : List Ins_),ow [.slice aM aC.args.length aJ] aC.args,blk ac [nV aC.op,nV aC.to,.slice aM aC.args.length aJ,nV aC.n_] 51,blk ao [nV aD.params,nV aD.regs,.slice aj aD.blocks.length aO] 44,drnV (.slice aj aD.blocks.length aO) (aD.blocks : List Block_) (bK)]) [1,2,3,4,5,6,7,8,9,10,11,12,13] rfl rfl
    refine tAk hm [1,2,3,4,5,6,7,9,10,11,12] rfl λhS=>tO ?_
    obtain ⟨eG,eH⟩ := appM_some.1 cu
    have eI : ∀ u ∈ ([aL,sV aF aG aA.ins.length aH,nV aA.jump,nV aA.on,.slice bD aA.next_.length bE] : List Value),u.oneCell' = true := (one_cons (rep_one (hm.ow_rep 7 rfl)) (one_cons rfl (one_cons rfl (one_cons rfl (one_cons rfl one_nil)))))
    replace hm := (hm.both 6 0 (by decide) rfl rfl).pk (L' := [blk ai [aL,sV aF aG aA.ins.length aH,nV aA.jump,nV aA.on,.slice bD aA.next_.length bE] 49,blk aQ [nV c_.params,nV c_.regs,.slice aV c_.blocks.length aW] 44,blk aT [nV f.params,nV f.regs,.slice aY f.blocks.length aZ] 44,blk aR [nV 0,nV 0,.slice none 0 0] 44,blk aP [nV aN.params,nV (w64 (c_.regs + f.regs)),sV ap aq (aX).length ar] 44,both (holeE ap aq ((aX).length) ar (aX : List Block_) (b_).toNat [aL,sV aF aG aA.ins.length aH,nV aA.jump,nV aA.on,.slice bD aA.next_.length bE]) (ow [sV cU 0 1 1] ([(⟨([] : List Phi_),an,aA.jump,aA.on,aA.next_⟩ : Block_)] : List Block_)),ow [aL] aA.phis,gap aF aG aA.ins.length aH (List.take (i_).toNat aA.ins : List Ins_) ([] : List Ins_),ow [.slice aM aC.args.length aJ] aC.args,blk ac [nV aC.op,nV aC.to,.slice aM aC.args.length aJ,nV aC.n_] 51,blk ao [nV aD.params,nV aD.regs,.slice aj aD.blocks.length aO] 44,drnV (.slice aj aD.blocks.length aO) (aD.blocks : List Block_) (bK)]) [1,2,3,4,5,6,7,8,9,10,11,12] rfl rfl
    refine tf rfl rfl (λa hf=>e_appendHx (xs := aX) (ys := ([(⟨([] : List Phi_),an,aA.jump,aA.on,aA.next_⟩ : Block_)] : List Block_)) 5 et_42 hf hm rfl eI rfl rfl rfl eG eH) ?_
    rintro _ w ⟨dN,dO,dP,rfl,hm⟩
    replace hm : Mem w0 (hp w0) _ [blk ai [aL,sV aF aG aA.ins.length aH,nV aA.jump,nV aA.on,.slice bD aA.next_.length bE] 49,blk aQ [nV c_.params,nV c_.regs,.slice aV c_.blocks.length aW] 44,blk aT [nV f.params,nV f.regs,.slice aY f.blocks.length aZ] 44,blk aR [nV 0,nV 0,.slice none 0 0] 44,blk aP [nV aN.params,nV (w64 (c_.regs + f.regs)),sV ap aq (aX).length ar] 44,holeE dN dO cK.length dP (cK : List Block_) (b_).toNat [aL,sV aF aG aA.ins.length aH,nV aA.jump,nV aA.on,.slice bD aA.next_.length bE],ow [aL] aA.phis,gap aF aG aA.ins.length aH (List.take (i_).toNat aA.ins : List Ins_) ([] : List Ins_),ow [.slice aM aC.args.length aJ] aC.args,blk ac [nV aC.op,nV aC.to,.slice aM aC.args.length aJ,nV aC.n_] 51,blk ao [nV aD.params,nV aD.regs,.slice aj aD.blocks.length aO] 44,drnV (.slice aj aD.blocks.length aO) (aD.blocks : List Block_) (bK)] := hm
    refine tAn rfl (tP rfl (λw=>yF fo_44_2 rfl) (tO (tf0 rfl rfl (λa hf=>e_store1 4 hf hm rfl sizeOf42 rfl rfl rfl rfl rfl) ?_)))
    rintro _ w hm
    exact tAn rfl (tE (gZ λa hf=>⟨.slice bD aA.next_.length bE,dN,dO,dP,.slice bD aA.next_.length bE,hf.sb rfl,hm.pk [1,2,3,4,5,6,7,9,8,0] rfl rfl⟩))
   refine tO (tf rfl rfl (λa hf=>e_build0 (α := Ins_) et_46 hm rfl) ?_)
   rintro dQ w hm
   refine tAk hm [1,2,3,4,5,6,7,9,11,12,13] rfl λhS=>tMo ?_ ?_
   ·refine tf rfl rfl (fun a hf => e_build0 (α := Phi_) et_45 hm rfl) ?_
    rintro eJ w hm
    refine tAk hm [2,3,4,5,6,7,8,10,12,13,14] rfl λhS=>tO ?_
    obtain ⟨eK,eL⟩ := appM_some.1 ct
    replace hm := hm.imp (c' := gap aF aG aA.ins.length aH (List.take (i_).toNat aA.ins : List Ins_) (bZ : List Ins_)) 9 rfl (λF h0=>by rw [← cD,cJ,show (List.take (aA.ins.length : Int).toNat aA.ins) = aA.ins from List.take_length]; exact h0)
    obtain ⟨eM,hS1_2,hm⟩ := hm.gap_zsG 9 rfl
    replace hS1_2 := src_sub hS1_2 rfl (by rw [← cD]; simp only [List.length_drop,List.length_take]; omega) cT.2
    rw [← ca] at hS1_2
    replace hm := (hm.both 2 0 (by decide) rfl rfl).pk (L' := [ow [eJ] ([] : List Phi_),both (ow [dQ] ([] : List Ins_)) (els eM (bZ : List Ins_)),blk ai [aL,sV aF aG aA.ins.length aH,nV aA.jump,nV aA.on,ae] 49,blk aQ [nV c_.params,nV c_.regs,.slice aV c_.blocks.length aW] 44,blk aT [nV f.params,nV f.regs,.slice aY f.blocks.length aZ] 44,blk aR [nV 0,nV 0,.slice none 0 0] 44,blk aP [nV aN.params,nV (w64 (c_.regs + f.regs)),sV ap aq (aX).length ar] 44,holeE ap aq ((aX).length) ar (aX : List Block_) (b_).toNat [aL,sV aF aG aA.ins.length aH,nV aA.jump,nV aA.on,ae],ow [aL] aA.phis,gap aF aG aA.ins.length aH (List.take (i_).toNat aA.ins : List Ins_) ([] : List Ins_),ow [.slice aM aC.args.length aJ] aC.args,ow [ae] aA.next_,blk ac [nV aC.op,nV aC.to,.slice aM aC.args.length aJ,nV aC.n_] 51,blk ao [nV aD.params,nV aD.regs,.slice aj aD.blocks.length aO] 44,drnV (.slice aj aD.blocks.length aO) (aD.blocks : List Block_) (bK)]) [1,2,3,4,5,6,7,8,9,10,11,12,13,14,15] rfl rfl
    refine tf rfl rfl (λa hf=>e_appendE (xs := ([] : List Ins_)) (ys := bZ) 1 et_46 hf hm rfl hS1_2 rfl rfl rfl eK) ?_
    rintro iC w hm
    rw [eL] at hm
    refine tAk hm [2,3,4,5,6,7,8,10,12,13,14] rfl λhS=>?_
    obtain ⟨be,bf,rfl,iD⟩ := ro_slice (hm.ow_rep 0 rfl)
    obtain ⟨bg,bh,rfl,iE⟩ := ro_slice (hm.ow_rep 1 rfl)
    obtain ⟨bF,bG,rfl,iF⟩ := ro_slice (hm.ow_rep 11 rfl)
    refine tP rfl (λw=>yG rfl (y_build (vs := [(0,(.slice be ([] : List Phi_).length bf)),(1,(.slice bg an.length bh)),(2,(nV aA.jump)),(3,(nV aA.on)),(4,(.slice bF aA.next_.length bG))]) (cs := #[.slice be ([] : List Phi_).length bf,.slice bg an.length bh,nV aA.jump,nV aA.on,.slice bF aA.next_.length bG]) rfl rfl (by kernel_rfl))) (tO (tf rfl rfl (λa hf=>e_build (vs := #[(0,(.agg #[.slice be ([] : List Phi_).length bf,.slice bg an.length bh,nV aA.jump,nV aA.on,.slice bF aA.next_.length bG]))]) (cs := [.slice be ([] : List Phi_).length bf,.slice bg an.length bh,nV aA.jump,nV aA.on,.slice bF aA.next_.length bG]) et_42 hf hm rfl rfl (by kernel_rfl) rfl rfl) ?_))
    rintro _ w ⟨cV,rfl,hm⟩
    have iG : CellsAt (hp _) cV 0 [.slice be ([] : List Phi_).length bf,.slice bg an.length bh,nV aA.jump,nV aA.on,.slice bF aA.next_.length bG] := hm.blk_part (i := 0) 0 rfl rfl
    have iH := isSl (hm.ow_rep 1 rfl)
    have iI := isSl (hm.ow_rep 2 rfl)
    have iJ := isSl (hm.ow_rep 12 rfl)
    replace hm := hm.els_nil (α := Block_)
    replace hm := (mk_Block_ aA.jump aA.on hm 2 3 13 rfl).pk (L' := [els [] ([] : List Block_),blk cV [.slice be ([] : List Phi_).length bf,.slice bg an.length bh,nV aA.jump,nV aA.on,.slice bF aA.next_.length bG] 49,ow [.slice be ([] : List Phi_).length bf,.slice bg an.length bh,nV aA.jump,nV aA.on,.slice bF aA.next_.length bG] ((⟨([] : List Phi_),an,aA.jump,aA.on,aA.next_⟩ : Block_) : Block_),blk ai [aL,sV aF aG aA.ins.length aH,nV aA.jump,nV aA.on,.slice bF aA.next_.length bG] 49,blk aQ [nV c_.params,nV c_.regs,.slice aV c_.blocks.length aW] 44,blk aT [nV f.params,nV f.regs,.slice aY f.blocks.length aZ] 44,blk aR [nV 0,nV 0,.slice none 0 0] 44,blk aP [nV aN.params,nV (w64 (c_.regs + f.regs)),sV ap aq (aX).length ar] 44,holeE ap aq ((aX).length) ar (aX : List Block_) (b_).toNat [aL,sV aF aG aA.ins.length aH,nV aA.jump,nV aA.on,.slice bF aA.next_.length bG],ow [aL] aA.phis,gap aF aG aA.ins.length aH (List.take (i_).toNat aA.ins : List Ins_) ([] : List Ins_),ow [.slice aM aC.args.length aJ] aC.args,blk ac [nV aC.op,nV aC.to,.slice aM aC.args.length aJ,nV aC.n_] 51,blk ao [nV aD.params,nV aD.regs,.slice aj aD.blocks.length aO] 44,drnV (.slice aj aD.blocks.length aO) (aD.blocks : List Block_) (bK)]) [0,1,2,4,5,6,7,8,9,10,11,12,14,15,16] rfl rfl
    replace hm := (hm.els_cons 0 2 (by decide) rfl rfl).pk (L' := [els [.slice be ([] : List Phi_).length bf,.slice bg an.length bh,nV aA.jump,nV aA.on,.slice bF aA.next_.length bG] ([(⟨([] : List Phi_),an,aA.jump,aA.on,aA.next_⟩ : Block_)] : List Block_),blk cV [.slice be ([] : List Phi_).length bf,.slice bg an.length bh,nV aA.jump,nV aA.on,.slice bF aA.next_.length bG] 49,blk ai [aL,sV aF aG aA.ins.length aH,nV aA.jump,nV aA.on,.slice bF aA.next_.length bG] 49,blk aQ [nV c_.params,nV c_.regs,.slice aV c_.blocks.length aW] 44,blk aT [nV f.params,nV f.regs,.slice aY f.blocks.length aZ] 44,blk aR [nV 0,nV 0,.slice none 0 0] 44,blk aP [nV aN.params,nV (w64 (c_.regs + f.regs)),sV ap aq (aX).length ar] 44,holeE ap aq ((aX).length) ar (aX : List Block_) (b_).toNat [aL,sV aF aG aA.ins.length aH,nV aA.jump,nV aA.on,.slice bF aA.next_.length bG],ow [aL] aA.phis,gap aF aG aA.ins.length aH (List.take (i_).toNat aA.ins : List Ins_) ([] : List Ins_),ow [.slice aM aC.args.length aJ] aC.args,blk ac [nV aC.op,nV aC.to,.slice aM aC.args.length aJ,nV aC.n_] 51,blk ao [nV aD.params,nV aD.regs,.slice aj aD.blocks.length aO] 44,drnV (.slice aj aD.blocks.length aO) (aD.blocks : List Block_) (bK)]) [0,1,3,4,5,6,7,8,9,10,11,12,13,14] rfl rfl
    replace hm := (hm.lit_els 1 0 (by decide) rfl rfl rfl rfl).pk (L' := [ow [sV cV 0 1 1] ([(⟨([] : List Phi_),an,aA.jump,aA.on,aA.next_⟩ : Block_)] : List Block_),blk ai [aL,sV aF aG aA.ins.length aH,nV aA.jump,nV aA.on,.slice bF aA.next_.length bG] 49,blk aQ [nV c_.params,nV c_.regs,.slice aV c_.blocks.length aW] 44,blk aT [nV f.params,nV f.regs,.slice aY f.blocks.length aZ] 44,blk aR [nV 0,nV 0,.slice none 0 0] 44,blk aP [nV aN.params,nV (w64 (c_.regs + f.regs)),sV ap aq (aX).length ar] 44,holeE ap aq ((aX).length) ar (aX : List Block_) (b_).toNat [aL,sV aF aG aA.ins.length aH,nV aA.jump,nV aA.on,.slice bF aA.next_.length bG],ow [aL] aA.phis,gap aF aG aA.ins.length aH (List.take (i_).toNat aA.ins : List Ins_) ([] : List Ins_),ow [.slice aM aC.args.length aJ] aC.args,blk ac [nV aC.op,nV aC.to,.slice aM aC.args.length aJ,nV aC.n_] 51,blk ao [nV aD.params,nV aD.regs,.slice aj aD.blocks.length aO] 44,drnV (.slice aj aD.blocks.length aO) (aD.blocks : List Block_) (bK)]) [1,2,3,4,5,6,7,8,9,10,11,12,13] rfl rfl
    refine tAk hm [1,2,3,4,5,6,7,9,10,11,12] rfl λhS=>tO ?_
    obtain ⟨eN,eO⟩ := appM_some.1 cu
    have eP : ∀ u ∈ ([aL,sV aF aG aA.ins.length aH,nV aA.jump,nV aA.on,.slice bF aA.next_.length bG] : List Value),u.oneCell' = true := (one_cons (rep_one (hm.ow_rep 7 rfl)) (one_cons rfl (one_cons rfl (one_cons rfl (one_cons rfl one_nil)))))
    replace hm := (hm.both 6 0 (by decide) rfl rfl).pk (L' := [blk ai [aL,sV aF aG aA.ins.length aH,nV aA.jump,nV aA.on,.slice bF aA.next_.length bG] 49,blk aQ [nV c_.params,nV c_.regs,.slice aV c_.blocks.length aW] 44,blk aT [nV f.params,nV f.regs,.slice aY f.blocks.length aZ] 44,blk aR [nV 0,nV 0,.slice none 0 0] 44,blk aP [nV aN.params,nV (w64 (c_.regs + f.regs)),sV ap aq (aX).length ar] 44,both (holeE ap aq ((aX).length) ar (aX : List Block_) (b_).toNat [aL,sV aF aG aA.ins.length aH,nV aA.jump,nV aA.on,.slice bF aA.next_.length bG]) (ow [sV cV 0 1 1] ([(⟨([] : List Phi_),an,aA.jump,aA.on,aA.next_⟩ : Block_)] : List Block_)),ow [aL] aA.phis,gap aF aG aA.ins.length aH (List.take (i_).toNat aA.ins : List Ins_) ([] : List Ins_),ow [.slice aM aC.args.length aJ] aC.args,blk ac [nV aC.op,nV aC.to,.slice aM aC.args.length aJ,nV aC.n_] 51,blk ao [nV aD.params,nV aD.regs,.slice aj aD.blocks.length aO] 44,drnV (.slice aj aD.blocks.length aO) (aD.blocks : List Block_) (bK)]) [1,2,3,4,5,6,7,8,9,10,11,12] rfl rfl
    refine tf rfl rfl (λa hf=>e_appendHx (xs := aX) (ys := ([(⟨([] : List Phi_),an,aA.jump,aA.on,aA.next_⟩ : Block_)] : List Block_)) 5 et_42 hf hm rfl eP rfl rfl rfl eN eO) ?_
    rintro _ w ⟨dR,dS,dT,rfl,hm⟩
    replace hm : Mem w0 (hp w0) _ [blk ai [aL,sV aF aG aA.ins.length aH,nV aA.jump,nV aA.on,.slice bF aA.next_.length bG] 49,blk aQ [nV c_.params,nV c_.regs,.slice aV c_.blocks.length aW] 44,blk aT [nV f.params,nV f.regs,.slice aY f.blocks.length aZ] 44,blk aR [nV 0,nV 0,.slice none 0 0] 44,blk aP [nV aN.params,nV (w64 (c_.regs + f.regs)),sV ap aq (aX).length ar] 44,holeE dR dS cK.length dT (cK : List Block_) (b_).toNat [aL,sV aF aG aA.ins.length aH,nV aA.jump,nV aA.on,.slice bF aA.next_.length bG],ow [aL] aA.phis,gap aF aG aA.ins.length aH (List.take (i_).toNat aA.ins : List Ins_) ([] : List Ins_),ow [.slice aM aC.args.length aJ] aC.args,blk ac [nV aC.op,nV aC.to,.slice aM aC.args.length aJ,nV aC.n_] 51,blk ao [nV aD.params,nV aD.regs,.slice aj aD.blocks.length aO] 44,drnV (.slice aj aD.blocks.length aO) (aD.blocks : List Block_) (bK)] := hm
    refine tAn rfl (tP rfl (λw=>yF fo_44_2 rfl) (tO (tf0 rfl rfl (λa hf=>e_store1 4 hf hm rfl sizeOf42 rfl rfl rfl rfl rfl) ?_)))
    rintro _ w hm
    exact tAn rfl (tE (gZ λa hf=>⟨.slice bF aA.next_.length bG,dR,dS,dT,.slice bF aA.next_.length bG,hf.sb rfl,hm.pk [1,2,3,4,5,6,7,9,8,0] rfl rfl⟩))
   refine tO ?_
   obtain ⟨eQ,eR⟩ := appM_some.1 ct
   replace hm := hm.imp (c' := gap aF aG aA.ins.length aH (List.take (i_).toNat aA.ins : List Ins_) (bZ : List Ins_)) 8 rfl (λF h0=>by rw [← cD,cJ,show (List.take (aA.ins.length : Int).toNat aA.ins) = aA.ins from List.take_length]; exact h0)
   obtain ⟨eS,hS1_3,hm⟩ := hm.gap_zsG 8 rfl
   replace hS1_3 := src_sub hS1_3 rfl (by rw [← cD]; simp only [List.length_drop,List.length_take]; omega) cT.2
   rw [← ca] at hS1_3
   replace hm := (hm.both 1 0 (by decide) rfl rfl).pk (L' := [both (ow [dQ] ([] : List Ins_)) (els eS (bZ : List Ins_)),blk ai [aL,sV aF aG aA.ins.length aH,nV aA.jump,nV aA.on,ae] 49,blk aQ [nV c_.params,nV c_.regs,.slice aV c_.blocks.length aW] 44,blk aT [nV f.params,nV f.regs,.slice aY f.blocks.length aZ] 44,blk aR [nV 0,nV 0,.slice none 0 0] 44,blk aP [nV aN.params,nV (w64 (c_.regs + f.regs)),sV ap aq (aX).length ar] 44,holeE ap aq ((aX).length) ar (aX : List Block_) (b_).toNat [aL,sV aF aG aA.ins.length aH,nV aA.jump,nV aA.on,ae],ow [aL] aA.phis,gap aF aG aA.ins.length aH (List.take (i_).toNat aA.ins : List Ins_) ([] : List Ins_),ow [.slice aM aC.args.length aJ] aC.args,ow [ae] aA.next_,blk ac [nV aC.op,nV aC.to,.slice aM aC.args.length aJ,nV aC.n_] 51,blk ao [nV aD.params,nV aD.regs,.slice aj aD.blocks.length aO] 44,drnV (.slice aj aD.blocks.length aO) (aD.blocks : List Block_) (bK)]) [1,2,3,4,5,6,7,8,9,10,11,12,13,14] rfl rfl
   refine tf rfl rfl (λa hf=>e_appendE (xs := ([] : List Ins_)) (ys := bZ) 0 et_46 hf hm rfl hS1_3 rfl rfl rfl eQ) ?_
   rintro iK w hm
   rw [eR] at hm
   refine tAk hm [1,2,3,4,5,6,7,9,11,12,13] rfl λhS=>tO (tf rfl rfl (λa hf=>e_build0 (α := Phi_) et_45 hm rfl) ?_)
   rintro iL w hm
   refine tAk hm [2,3,4,5,6,7,8,10,12,13,14] rfl λhS=>?_
   obtain ⟨bi,bj,rfl,iM⟩ := ro_slice (hm.ow_rep 0 rfl)
   obtain ⟨bk,bm,rfl,iN⟩ := ro_slice (hm.ow_rep 1 rfl)
   obtain ⟨bH,bJ,rfl,iO⟩ := ro_slice (hm.ow_rep 11 rfl)
   refine tP rfl (λw=>yG rfl (y_build (vs := [(0,(.slice bi ([] : List Phi_).length bj)),(1,(.slice bk an.length bm)),(2,(nV aA.jump)),(3,(nV aA.on)),(4,(.slice bH aA.next_.length bJ))]) (cs := #[.slice bi ([] : List Phi_).length bj,.slice bk an.length bm,nV aA.jump,nV aA.on,.slice bH aA.next_.length bJ]) rfl rfl (by kernel_rfl))) (tO (tf rfl rfl (λa hf=>e_build (vs := #[(0,(.agg #[.slice bi ([] : List Phi_).length bj,.slice bk an.length bm,nV aA.jump,nV aA.on,.slice bH aA.next_.length bJ]))]) (cs := [.slice bi ([] : List Phi_).length bj,.slice bk an.length bm,nV aA.jump,nV aA.on,.slice bH aA.next_.length bJ]) et_42 hf hm rfl rfl (by kernel_rfl) rfl rfl) ?_))
   rintro _ w ⟨cW,rfl,hm⟩
   have iP : CellsAt (hp _) cW 0 [.slice bi ([] : List Phi_).length bj,.slice bk an.length bm,nV aA.jump,nV aA.on,.slice bH aA.next_.length bJ] := hm.blk_part (i := 0) 0 rfl rfl
   have iQ := isSl (hm.ow_rep 1 rfl)
   have iR := isSl (hm.ow_rep 2 rfl)
   have iS := isSl (hm.ow_rep 12 rfl)
   replace hm := hm.els_nil (α := Block_)
   replace hm := (mk_Block_ aA.jump aA.on hm 2 3 13 rfl).pk (L' := [els [] ([] : List Block_),blk cW [.slice bi ([] : List Phi_).length bj,.slice bk an.length bm,nV aA.jump,nV aA.on,.slice bH aA.next_.length bJ] 49,ow [.slice bi ([] : List Phi_).length bj,.slice bk an.length bm,nV aA.jump,nV aA.on,.slice bH aA.next_.length bJ] ((⟨([] : List Phi_),an,aA.jump,aA.on,aA.next_⟩ : Block_) : Block_),blk ai [aL,sV aF aG aA.ins.length aH,nV aA.jump,nV aA.on,.slice bH aA.next_.length bJ] 49,blk aQ [nV c_.params,nV c_.regs,.slice aV c_.blocks.length aW] 44,blk aT [nV f.params,nV f.regs,.slice aY f.blocks.length aZ] 44,blk aR [nV 0,nV 0,.slice none 0 0] 44,blk aP [nV aN.params,nV (w64 (c_.regs + f.regs)),sV ap aq (aX).length ar] 44,holeE ap aq ((aX).length) ar (aX : List Block_) (b_).toNat [aL,sV aF aG aA.ins.length aH,nV aA.jump,nV aA.on,.slice bH aA.next_.length bJ],ow [aL] aA.phis,gap aF aG aA.ins.length aH (List.take (i_).toNat aA.ins : List Ins_) ([] : List Ins_),ow [.slice aM aC.args.length aJ] aC.args,blk ac [nV aC.op,nV aC.to,.slice aM aC.args.length aJ,nV aC.n_] 51,blk ao [nV aD.params,nV aD.regs,.slice aj aD.blocks.length aO] 44,drnV (.slice aj aD.blocks.length aO) (aD.blocks : List Block_) (bK)]) [0,1,2,4,5,6,7,8,9,10,11,12,14,15,16] rfl rfl
   replace hm := (hm.els_cons 0 2 (by decide) rfl rfl).pk (L' := [els [.slice bi ([] : List Phi_).length bj,.slice bk an.length bm,nV aA.jump,nV aA.on,.slice bH aA.next_.length bJ] ([(⟨([] : List Phi_),an,aA.jump,aA.on,aA.next_⟩ : Block_)] : List Block_),blk cW [.slice bi ([] : List Phi_).length bj,.slice bk an.length bm,nV aA.jump,nV aA.on,.slice bH aA.next_.length bJ] 49,blk ai [aL,sV aF aG aA.ins.length aH,nV aA.jump,nV aA.on,.slice bH aA.next_.length bJ] 49,blk aQ [nV c_.params,nV c_.regs,.slice aV c_.blocks.length aW] 44,blk aT [nV f.params,nV f.regs,.slice aY f.blocks.length aZ] 44,blk aR [nV 0,nV 0,.slice none 0 0] 44,blk aP [nV aN.params,nV (w64 (c_.regs + f.regs)),sV ap aq (aX).length ar] 44,holeE ap aq ((aX).length) ar (aX : List Block_) (b_).toNat [aL,sV aF aG aA.ins.length aH,nV aA.jump,nV aA.on,.slice bH aA.next_.length bJ],ow [aL] aA.phis,gap aF aG aA.ins.length aH (List.take (i_).toNat aA.ins : List Ins_) ([] : List Ins_),ow [.slice aM aC.args.length aJ] aC.args,blk ac [nV aC.op,nV aC.to,.slice aM aC.args.length aJ,nV aC.n_] 51,blk ao [nV aD.params,nV aD.regs,.slice aj aD.blocks.length aO] 44,drnV (.slice aj aD.blocks.length aO) (aD.blocks : List Block_) (bK)]) [0,1,3,4,5,6,7,8,9,10,11,12,13,14] rfl rfl
   replace hm := (hm.lit_els 1 0 (by decide) rfl rfl rfl rfl).pk (L' := [ow [sV cW 0 1 1] ([(⟨([] : List Phi_),an,aA.jump,aA.on,aA.next_⟩ : Block_)] : List Block_),blk ai [aL,sV aF aG aA.ins.length aH,nV aA.jump,nV aA.on,.slice bH aA.next_.length bJ] 49,blk aQ [nV c_.params,nV c_.regs,.slice aV c_.blocks.length aW] 44,blk aT [nV f.params,nV f.regs,.slice aY f.blocks.length aZ] 44,blk aR [nV 0,nV 0,.slice none 0 0] 44,blk aP [nV aN.params,nV (w64 (c_.regs + f.regs)),sV ap aq (aX).length ar] 44,holeE ap aq ((aX).length) ar (aX : List Block_) (b_).toNat [aL,sV aF aG aA.ins.length aH,nV aA.jump,nV aA.on,.slice bH aA.next_.length bJ],ow [aL] aA.phis,gap aF aG aA.ins.length aH (List.take (i_).toNat aA.ins : List Ins_) ([] : List Ins_),ow [.slice aM aC.args.length aJ] aC.args,blk ac [nV aC.op,nV aC.to,.slice aM aC.args.length aJ,nV aC.n_] 51,blk ao [nV aD.params,nV aD.regs,.slice aj aD.blocks.length aO] 44,drnV (.slice aj aD.blocks.length aO) (aD.blocks : List Block_) (bK)]) [1,2,3,4,5,6,7,8,9,10,11,12,13] rfl rfl
   refine tAk hm [1,2,3,4,5,6,7,9,10,11,12] rfl λhS=>tO ?_
   obtain ⟨eT,eU⟩ := appM_some.1 cu
   have eV : ∀ u ∈ ([aL,sV aF aG aA.ins.length aH,nV aA.jump,nV aA.on,.slice bH aA.next_.length bJ] : List Value),u.oneCell' = true := (one_cons (rep_one (hm.ow_rep 7 rfl)) (one_cons rfl (one_cons rfl (one_cons rfl (one_cons rfl one_nil)))))
   replace hm := (hm.both 6 0 (by decide) rfl rfl).pk (L' := [blk ai [aL,sV aF aG aA.ins.length aH,nV aA.jump,nV aA.on,.slice bH aA.next_.length bJ] 49,blk aQ [nV c_.params,nV c_.regs,.slice aV c_.blocks.length aW] 44,blk aT [nV f.params,nV f.regs,.slice aY f.blocks.length aZ] 44,blk aR [nV 0,nV 0,.slice none 0 0] 44,blk aP [nV aN.params,nV (w64 (c_.regs + f.regs)),sV ap aq (aX).length ar] 44,both (holeE ap aq ((aX).length) ar (aX : List Block_) (b_).toNat [aL,sV aF aG aA.ins.length aH,nV aA.jump,nV aA.on,.slice bH aA.next_.length bJ]) (ow [sV cW 0 1 1] ([(⟨([] : List Phi_),an,aA.jump,aA.on,aA.next_⟩ : Block_)] : List Block_)),ow [aL] aA.phis,gap aF aG aA.ins.length aH (List.take (i_).toNat aA.ins : List Ins_) ([] : List Ins_),ow [.slice aM aC.args.length aJ] aC.args,blk ac [nV aC.op,nV aC.to,.slice aM aC.args.length aJ,nV aC.n_] 51,blk ao [nV aD.params,nV aD.regs,.slice aj aD.blocks.length aO] 44,drnV (.slice aj aD.blocks.length aO) (aD.blocks : List Block_) (bK)]) [1,2,3,4,5,6,7,8,9,10,11,12] rfl rfl
   refine tf rfl rfl (λa hf=>e_appendHx (xs := aX) (ys := ([(⟨([] : List Phi_),an,aA.jump,aA.on,aA.next_⟩ : Block_)] : List Block_)) 5 et_42 hf hm rfl eV rfl rfl rfl eT eU) ?_
   rintro _ w ⟨dU,dV,dW,rfl,hm⟩
   replace hm : Mem w0 (hp w0) _ [blk ai [aL,sV aF aG aA.ins.length aH,nV aA.jump,nV aA.on,.slice bH aA.next_.length bJ] 49,blk aQ [nV c_.params,nV c_.regs,.slice aV c_.blocks.length aW] 44,blk aT [nV f.params,nV f.regs,.slice aY f.blocks.length aZ] 44,blk aR [nV 0,nV 0,.slice none 0 0] 44,blk aP [nV aN.params,nV (w64 (c_.regs + f.regs)),sV ap aq (aX).length ar] 44,holeE dU dV cK.length dW (cK : List Block_) (b_).toNat [aL,sV aF aG aA.ins.length aH,nV aA.jump,nV aA.on,.slice bH aA.next_.length bJ],ow [aL] aA.phis,gap aF aG aA.ins.length aH (List.take (i_).toNat aA.ins : List Ins_) ([] : List Ins_),ow [.slice aM aC.args.length aJ] aC.args,blk ac [nV aC.op,nV aC.to,.slice aM aC.args.length aJ,nV aC.n_] 51,blk ao [nV aD.params,nV aD.regs,.slice aj aD.blocks.length aO] 44,drnV (.slice aj aD.blocks.length aO) (aD.blocks : List Block_) (bK)] := hm
   refine tAn rfl (tP rfl (λw=>yF fo_44_2 rfl) (tO (tf0 rfl rfl (λa hf=>e_store1 4 hf hm rfl sizeOf42 rfl rfl rfl rfl rfl) ?_)))
   rintro _ w hm
   exact tAn rfl (tE (gZ λa hf=>⟨.slice bH aA.next_.length bJ,dU,dV,dW,.slice bH aA.next_.length bJ,hf.sb rfl,hm.pk [1,2,3,4,5,6,7,9,8,0] rfl rfl⟩))
  repeat clear hm
  rintro aS a w ⟨bN,ak,al,am,bC,hf,hm⟩
  refine gv hf (gS (gR (gf rfl (λa hf=>e_build0 (α := Ins_) et_46 hm rfl) ?_)))
  rintro dX w hm
  refine gF fo_49_1 rfl (gL hm 10 isAgg46 rfl (gM rfl (gb λcX eW=>?_)))
  obtain ⟨iT,dY⟩ := subM_some.1 eW
  refine gY (yG rfl (y_subHI (α := Ins_) (n := cX.length) st_46 rfl rfl rfl co dz cT.2 (by rw [← dY]; simp only [List.length_drop,List.length_take]; omega))) (gb λeX eY=>?_)
  obtain ⟨eZ,ea⟩ := appM_some.1 eY
  replace hm := hm.imp (c' := gap aF aG aA.ins.length aH (cX : List Ins_) ([] : List Ins_)) 7 rfl (λF h0=>by rw [← dY]; exact h0)
  obtain ⟨dZ,hS0_1,hm⟩ := hm.gap_ys 7 rfl
  replace hm := (hm.both 1 0 (by decide) rfl rfl).pk (L' := [both (ow [dX] ([] : List Ins_)) (els dZ (cX : List Ins_)),blk aQ [nV c_.params,nV c_.regs,.slice aV c_.blocks.length aW] 44,blk aT [nV f.params,nV f.regs,.slice aY f.blocks.length aZ] 44,blk aR [nV 0,nV 0,.slice none 0 0] 44,blk aP [nV aN.params,nV (w64 (c_.regs + f.regs)),sV ak al (aS).length am] 44,holeE ak al ((aS).length) am (aS : List Block_) (b_).toNat [aL,sV aF aG aA.ins.length aH,nV aA.jump,nV aA.on,bN],ow [aL] aA.phis,gap aF aG aA.ins.length aH ([] : List Ins_) ([] : List Ins_),blk ac [nV aC.op,nV aC.to,.slice aM aC.args.length aJ,nV aC.n_] 51,ow [.slice aM aC.args.length aJ] aC.args,blk ai [aL,sV aF aG aA.ins.length aH,nV aA.jump,nV aA.on,bC] 49]) [1,2,3,4,5,6,7,8,9,10,11] rfl rfl
  replace hm := hm.pk (L' := [both (ow [dX] ([] : List Ins_)) (els dZ (cX : List Ins_)),blk aQ [nV c_.params,nV c_.regs,.slice aV c_.blocks.length aW] 44,blk aT [nV f.params,nV f.regs,.slice aY f.blocks.length aZ] 44,blk aR [nV 0,nV 0,.slice none 0 0] 44,blk aP [nV aN.params,nV (w64 (c_.regs + f.regs)),sV ak al (aS).length am] 44,holeE ak al ((aS).length) am (aS : List Block_) (b_).toNat [aL,sV aF aG aA.ins.length aH,nV aA.jump,nV aA.on,bN],ow [aL] aA.phis,blk ac [nV aC.op,nV aC.to,.slice aM aC.args.length aJ,nV aC.n_] 51,ow [.slice aM aC.args.length aJ] aC.args,blk ai [aL,sV aF aG aA.ins.length aH,nV aA.jump,nV aA.on,bC] 49]) [0,1,2,3,4,5,6,8,9,10] rfl rfl
  refine gf rfl (λa hf=>e_appendE (xs := ([] : List Ins_)) (ys := cX) 0 et_46 hf hm rfl (hS0_1 _) rfl rfl rfl eZ) ?_
  rintro iU w hm
  rw [ea] at hm
  refine gA rfl (gE (gS (gS (gR (gA rfl (gE ?_))))))
  obtain ⟨aa,ab,rfl,iV⟩ := ro_slice (hm.ow_rep 6 rfl)
  obtain ⟨eb,ec,rfl,iW⟩ := ro_slice (hm.ow_rep 0 rfl)
  refine gBk (gNg (λbO cE a w=>∃ (cF cG : Value),St 221 [(2,(nV b_)),(4,(pV aQ)),(5,(pV aT)),(8,(pV aR)),(9,(pV aP)),(10,(pV ac)),(11,(nV c_.regs)),(12,(nV ((c_.blocks.length : Int)))),(13,(nV (((c_.blocks.length : Int)) + ((f.blocks.length : Int))))),(20,(pV ai)),(21,cG),(22,(nV bO))] w0 (hp w0) [blk aQ [nV c_.params,nV c_.regs,.slice aV c_.blocks.length aW] 44,blk aT [nV f.params,nV f.regs,.slice aY f.blocks.length aZ] 44,blk aR [nV 0,nV 0,.slice none 0 0] 44,blk aP [nV aN.params,nV (w64 (c_.regs + f.regs)),sV ak al (aS).length am] 44,holeE ak al ((aS).length) am (aS : List Block_) (b_).toNat [.slice aa aA.phis.length ab,sV aF aG aA.ins.length aH,nV aA.jump,nV aA.on,bN],ow [.slice aa aA.phis.length ab] aA.phis,blk ac [nV aC.op,nV aC.to,.slice aM aC.args.length aJ,nV aC.n_] 51,ow [.slice aM aC.args.length aJ] aC.args,blk ai [.slice aa aA.phis.length ab,cF,nV aA.jump,nV aA.on,bC] 49,ow [cG] cE] a w) (λa hf=>⟨sV aF aG aA.ins.length aH,.slice eb eX.length ec,hf.sb rfl,hm.pk [1,2,3,4,5,6,7,8,9,0] rfl rfl⟩) ?_ ?_)
  ·repeat clear hm
   rintro _ _ bO cE a w ⟨cF,cG,hf,hm⟩ iX iY iZ _
   refine gv hf (gS (gS (gR (gM rfl (gF fo_51_2 rfl (gL hm 6 isAgg47 rfl (gY (yV st_47 rfl) (gB rfl (gE (go _ 159 rfl (decide_eq_true (by omega)) (gct rfl (gSk (gS (gBk (gR (gM rfl (gM rfl (gM rfl (gB rfl (gF fo_51_2 rfl (gL hm 6 isAgg47 rfl (gM rfl (gg λbp ed cv=>?_)))))))))))))))))))))))
   obtain ⟨bs,bt,i4,he⟩ := idx_form (hm.ow_rep 7 rfl) cv
   obtain ⟨rfl,_,rfl⟩ := sl3 he
   refine gI st_47 ed (idx_lt cv) rfl (gY (yl isAgg3 ((flat_cells (cs := [nV bp]) (hm.ow_rep 7 rfl) cv rfl).cell (j := 0) rfl) rfl) (gf rfl (λa hf=>e_build (vs := #[(0,(nV bp))]) (cs := [nV bp]) et_47 hf hm rfl rfl (by kernel_rfl) rfl rfl) ?_))
   rintro _ w ⟨bu,rfl,hm⟩
   replace hm := hm.lit (xs := ([bp] : List Int)) 0 rfl rfl rfl rfl
   refine gY (yG rfl (y_build (vs := [(0,(nV 2)),(1,(nV (w64 (c_.regs + bO)))),(2,(sV bu 0 1 1))]) (cs := #[nV 2,nV (w64 (c_.regs + bO)),sV bu 0 1 1,nV 0]) rfl rfl (by kernel_rfl))) (gf rfl (λa hf=>e_build (vs := #[(0,(.agg #[nV 2,nV (w64 (c_.regs + bO)),sV bu 0 1 1,nV 0]))]) (cs := [nV 2,nV (w64 (c_.regs + bO)),sV bu 0 1 1,nV 0]) et_46 hf hm rfl rfl (by kernel_rfl) rfl rfl) ?_)
   rintro _ w ⟨cb,rfl,hm⟩
   replace hm := hm.els_nil (α := Ins_)
   replace hm : Mem w0 (hp w0) _ [els [] ([] : List Ins_),blk cb [nV 2,nV (w64 (c_.regs + bO)),sV bu 0 1 1,nV 0] 51,ow [nV 2,nV (w64 (c_.regs + bO)),sV bu 0 1 1,nV 0] ((⟨2,w64 (c_.regs + bO),([bp] : List Int),0⟩ : Ins_) : Ins_),blk aQ [nV c_.params,nV c_.regs,.slice aV c_.blocks.length aW] 44,blk aT [nV f.params,nV f.regs,.slice aY f.blocks.length aZ] 44,blk aR [nV 0,nV 0,.slice none 0 0] 44,blk aP [nV aN.params,nV (w64 (c_.regs + f.regs)),sV ak al (aS).length am] 44,holeE ak al ((aS).length) am (aS : List Block_) (b_).toNat [.slice aa aA.phis.length ab,sV aF aG aA.ins.length aH,nV aA.jump,nV aA.on,bN],ow [.slice aa aA.phis.length ab] aA.phis,blk ac [nV aC.op,nV aC.to,sV bs bt aC.args.length aJ,nV aC.n_] 51,ow [sV bs bt aC.args.length aJ] aC.args,blk ai [.slice aa aA.phis.length ab,cF,nV aA.jump,nV aA.on,bC] 49,ow [cG] cE] := mk_Ins_ 2 (w64 (c_.regs + bO)) 0 hm 2 rfl
   replace hm := (hm.els_cons 0 2 (by decide) rfl rfl).pk (L' := [els [nV 2,nV (w64 (c_.regs + bO)),sV bu 0 1 1,nV 0] ([(⟨2,w64 (c_.regs + bO),([bp] : List Int),0⟩ : Ins_)] : List Ins_),blk cb [nV 2,nV (w64 (c_.regs + bO)),sV bu 0 1 1,nV 0] 51,blk aQ [nV c_.params,nV c_.regs,.slice aV c_.blocks.length aW] 44,blk aT [nV f.params,nV f.regs,.slice aY f.blocks.length aZ] 44,blk aR [nV 0,nV 0,.slice none 0 0] 44,blk aP [nV aN.params,nV (w64 (c_.regs + f.regs)),sV ak al (aS).length am] 44,holeE ak al ((aS).length) am (aS : List Block_) (b_).toNat [.slice aa aA.phis.length ab,sV aF aG aA.ins.length aH,nV aA.jump,nV aA.on,bN],ow [.slice aa aA.phis.length ab] aA.phis,blk ac [nV aC.op,nV aC.to,sV bs bt aC.args.length aJ,nV aC.n_] 51,ow [sV bs bt aC.args.length aJ] aC.args,blk ai [.slice aa aA.phis.length ab,cF,nV aA.jump,nV aA.on,bC] 49,ow [cG] cE]) [0,1,3,4,5,6,7,8,9,10,11,12] rfl rfl
   replace hm := (hm.lit_els 1 0 (by decide) rfl rfl rfl rfl).pk (L' := [ow [sV cb 0 1 1] ([(⟨2,w64 (c_.regs + bO),([bp] : List Int),0⟩ : Ins_)] : List Ins_),blk aQ [nV c_.params,nV c_.regs,.slice aV c_.blocks.length aW] 44,blk aT [nV f.params,nV f.regs,.slice aY f.blocks.length aZ] 44,blk aR [nV 0,nV 0,.slice none 0 0] 44,blk aP [nV aN.params,nV (w64 (c_.regs + f.regs)),sV ak al (aS).length am] 44,holeE ak al ((aS).length) am (aS : List Block_) (b_).toNat [.slice aa aA.phis.length ab,sV aF aG aA.ins.length aH,nV aA.jump,nV aA.on,bN],ow [.slice aa aA.phis.length ab] aA.phis,blk ac [nV aC.op,nV aC.to,sV bs bt aC.args.length aJ,nV aC.n_] 51,ow [sV bs bt aC.args.length aJ] aC.args,blk ai [.slice aa aA.phis.length ab,cF,nV aA.jump,nV aA.on,bC] 49,ow [cG] cE]) [1,2,3,4,5,6,7,8,9,10,11] rfl rfl
   refine gb λi5 ee=>?_
   obtain ⟨ef,eg⟩ := appM_some.1 ee
   replace hm := (hm.both 10 0 (by decide) rfl rfl).pk (L' := [blk aQ [nV c_.params,nV c_.regs,.slice aV c_.blocks.length aW] 44,blk aT [nV f.params,nV f.regs,.slice aY f.blocks.length aZ] 44,blk aR [nV 0,nV 0,.slice none 0 0] 44,blk aP [nV aN.params,nV (w64 (c_.regs + f.regs)),sV ak al (aS).length am] 44,holeE ak al ((aS).length) am (aS : List Block_) (b_).toNat [.slice aa aA.phis.length ab,sV aF aG aA.ins.length aH,nV aA.jump,nV aA.on,bN],ow [.slice aa aA.phis.length ab] aA.phis,blk ac [nV aC.op,nV aC.to,sV bs bt aC.args.length aJ,nV aC.n_] 51,ow [sV bs bt aC.args.length aJ] aC.args,blk ai [.slice aa aA.phis.length ab,cF,nV aA.jump,nV aA.on,bC] 49,both (ow [cG] cE) (ow [sV cb 0 1 1] ([(⟨2,w64 (c_.regs + bO),([bp] : List Int),0⟩ : Ins_)] : List Ins_))]) [1,2,3,4,5,6,7,8,9,10] rfl rfl
   refine gf rfl (λa hf=>e_appendD (xs := cE) (ys := ([(⟨2,w64 (c_.regs + bO),([bp] : List Int),0⟩ : Ins_)] : List Ins_)) 9 et_46 hf hm rfl rfl rfl rfl ef) ?_
   rintro eh w hm
   rw [eg] at hm
   exact gA rfl (gE (gR (gM rfl (gP (by omega) (by omega) rfl (gA rfl (gE (gZe λa hf=>⟨cF,eh,hf.sb rfl,hm.pk [0,1,2,3,4,5,6,7,8,9] rfl rfl⟩)))))))
  repeat clear hm
  rintro i6 cw a w ⟨bY,d4,hf,hm⟩ i7 i8
  refine gv hf (gS (gS (gR (gM rfl (gF fo_51_2 rfl (gL hm 6 isAgg47 rfl (gY (yV st_47 rfl) (gB rfl (gE (go _ 159 rfl (decide_eq_false (by omega)) (gcf rfl (gXt (gHh (gS (gR (gY (yn (hm.blk_at 1 rfl) isAgg44 sizeOf44 rfl) (gCg rfl call47 (spec_l12Live_ok _ f (.slice aY f.blocks.length aZ) (hm.now h2)) ?_)))))))))))))))))
  rintro cL i9 ib w ⟨ic,d5,rfl,hB⟩
  replace hm := hm.give hB; clear hB
  refine gY (yG rfl (y_field1 underlying76 rfl rfl isAgg74 rfl rfl rfl)) (gg λbL ei cd=>?_)
  obtain ⟨cx,cy,d6,he⟩ := idx_form' (hm.ow_rep 0 rfl) cd
  subst he
  obtain ⟨_,_,d7,ej⟩ := ro_get' (hm.ow_rep 0 rfl) cd
  have cz := ej
  obtain ⟨d8,rfl,-⟩ := id cz
  replace cz : GT.rep (hp _) [d8] bL := cz
  replace d7 : CellsAt (hp _) cx (cy + (0 : Int).toNat * 1) [d8] := d7
  refine gI st_74 ei (idx_lt cd) rfl ?_
  obtain ⟨_,ek,hm⟩ := hm.openE 0 rfl cd
  have em := hm.ow_rep 0 rfl
  have ce := em
  obtain ⟨cY,rfl,-⟩ := id ce
  replace ce : GT.rep (hp _) [cY] bL := ce
  clear ek ce
  replace hm : Mem w0 (hp w0) _ [ow [cY] (bL : List Bool),holeE cx cy cL.ins.length d6 (cL.ins : List (List Bool)) (0 : Int).toNat [cY],ow [d5] cL.outs,blk aQ [nV c_.params,nV c_.regs,.slice aV c_.blocks.length aW] 44,blk aT [nV f.params,nV f.regs,.slice aY f.blocks.length aZ] 44,blk aR [nV 0,nV 0,.slice none 0 0] 44,blk aP [nV aN.params,nV (w64 (c_.regs + f.regs)),sV ak al (aS).length am] 44,holeE ak al ((aS).length) am (aS : List Block_) (b_).toNat [.slice aa aA.phis.length ab,sV aF aG aA.ins.length aH,nV aA.jump,nV aA.on,bN],ow [.slice aa aA.phis.length ab] aA.phis,blk ac [nV aC.op,nV aC.to,.slice aM aC.args.length aJ,nV aC.n_] 51,ow [.slice aM aC.args.length aJ] aC.args,blk ai [.slice aa aA.phis.length ab,bY,nV aA.jump,nV aA.on,bC] 49,ow [d4] cw] := hm
  replace hm := hm.pk (L' := [ow [cY] bL,holeE cx cy cL.ins.length d6 (cL.ins : List (List Bool)) (0 : Int).toNat [cY],ow [d5] cL.outs,blk aQ [nV c_.params,nV c_.regs,.slice aV c_.blocks.length aW] 44,blk aT [nV f.params,nV f.regs,.slice aY f.blocks.length aZ] 44,blk aR [nV 0,nV 0,.slice none 0 0] 44,blk aP [nV aN.params,nV (w64 (c_.regs + f.regs)),sV ak al (aS).length am] 44,holeE ak al ((aS).length) am (aS : List Block_) (b_).toNat [.slice aa aA.phis.length ab,sV aF aG aA.ins.length aH,nV aA.jump,nV aA.on,bN],ow [.slice aa aA.phis.length ab] aA.phis,blk ac [nV aC.op,nV aC.to,.slice aM aC.args.length aJ,nV aC.n_] 51,ow [.slice aM aC.args.length aJ] aC.args,blk ai [.slice aa aA.phis.length ab,bY,nV aA.jump,nV aA.on,bC] 49,ow [d4] cw]) [0,1,2,3,4,5,6,7,8,9,10,11,12] rfl rfl
  refine gY (yl isAgg73 ((hm.holeE_at 1 rfl).cell (j := 0) rfl) rfl) (gA rfl (gE (gS (gS (gR (gF fo_44_0 rfl (gL hm 4 isAgg3 rfl (gA rfl (gE ?_)))))))))
  obtain ⟨en,eo,rfl,ie⟩ := ro_slice (hm.ow_rep 12 rfl)
  obtain ⟨cf,b6,rfl,ig⟩ := ro_slice (hm.ow_rep 0 rfl)
  refine gJg (λbP a w=>∃ (dA : Value),St 221 [(2,(nV b_)),(4,(pV aQ)),(8,(pV aR)),(9,(pV aP)),(12,(nV ((c_.blocks.length : Int)))),(13,(nV (((c_.blocks.length : Int)) + ((f.blocks.length : Int))))),(20,(pV ai)),(21,dA)] w0 (hp w0) [blk aQ [nV c_.params,nV c_.regs,.slice aV c_.blocks.length aW] 44,blk aR [nV 0,nV 0,.slice none 0 0] 44,blk aP [nV aN.params,nV (w64 (c_.regs + f.regs)),sV ak al (aS).length am] 44,holeE ak al ((aS).length) am (aS : List Block_) (b_).toNat [.slice aa aA.phis.length ab,sV aF aG aA.ins.length aH,nV aA.jump,nV aA.on,bN],ow [.slice aa aA.phis.length ab] aA.phis,blk ai [.slice aa aA.phis.length ab,bY,nV aA.jump,nV aA.on,bC] 49,ow [dA] bP] a w) (λbP=>?_) ?_
  ·refine gBk (gMg (fun bB a w => ∃ (bq : Value), St 221 [(2, (nV b_)), (4, (pV aQ)), (5, (pV aT)), (8, (pV aR)), (9, (pV aP)), (11, (nV c_.regs)), (12, (nV ((c_.blocks.length : Int)))), (13, (nV (((c_.blocks.length : Int)) + ((f.blocks.length : Int))))), (20, (pV ai)), (21, bq), (23, (.slice cf bL.length b6)), (24, (nV bB.2))] w0 (hp w0) [blk aQ [nV c_.params, nV c_.regs, .slice aV c_.blocks.length aW] 44, blk aT [nV f.params, nV f.regs, .slice aY f.blocks.length aZ] 44, blk aR [nV 0, nV 0, .slice none 0 0] 44, blk aP [nV aN.params, nV (w64 (c_.regs + f.regs)), sV ak al (aS).length am] 44, holeE ak al ((aS).length) am (aS : List Block_) (b_).toNat [.slice aa aA.phis.length ab, sV aF aG aA.ins.length aH, nV aA.jump, nV aA.on, bN], ow [.slice aa aA.phis.length ab] aA.phis, blk ai [.slice aa aA.phis.length ab, bY, nV aA.jump, nV aA.on, bC] 49, ow [bq] bB.1, ow [.slice cf bL.length b6] bL] a w) (fun a hf => ⟨.slice en cw.length eo, hf.sb rfl, hm.pk [3, 4, 5, 6, 7, 8, 11, 12, 0] rfl rfl⟩) ?_)
   repeat clear hm
   rintro ii ep bB a w ⟨bq,hf,hm⟩ ij et
   refine gv hf (gS (gS (gR (gM rfl (gF fo_44_1 rfl (gL hm 1 isAgg3 rfl (gB rfl (gE (gsd 185 rfl (λeu=>?_) λeu=>?_)))))))))
   ·refine gct rfl (gSk (gS (gJg (fun dB a w => ∃ (cg : Value), St 221 [(2, (nV b_)), (4, (pV aQ)), (5, (pV aT)), (8, (pV aR)), (9, (pV aP)), (11, (nV c_.regs)), (12, (nV ((c_.blocks.length : Int)))), (13, (nV (((c_.blocks.length : Int)) + ((f.blocks.length : Int))))), (20, (pV ai)), (21, cg), (23, (.slice cf bL.length b6)), (24, (nV bB.2))] w0 (hp w0) [blk aQ [nV c_.params, nV c_.regs, .slice aV c_.blocks.length aW] 44, blk aT [nV f.params, nV f.regs, .slice aY f.blocks.length aZ] 44, blk aR [nV 0, nV 0, .slice none 0 0] 44, blk aP [nV aN.params, nV (w64 (c_.regs + f.regs)), sV ak al (aS).length am] 44, holeE ak al ((aS).length) am (aS : List Block_) (b_).toNat [.slice aa aA.phis.length ab, sV aF aG aA.ins.length aH, nV aA.jump, nV aA.on, bN], ow [.slice aa aA.phis.length ab] aA.phis, blk ai [.slice aa aA.phis.length ab, bY, nV aA.jump, nV aA.on, bC] 49, ow [cg] dB, ow [.slice cf bL.length b6] bL] a w) (fun dB => ?_) ?_)))
    ·refine gBk (gS (gR (gM rfl (gM rfl (gg fun ew ey dC => ?_)))))
     obtain ⟨cM,cN,ik,he⟩ := idx_form (hm.ow_rep 8 rfl) dC
     obtain ⟨rfl,_,rfl⟩ := sl3 he
     refine gI st_73 ey (idx_lt dC) rfl (gY (yl isAgg4 ((flat_cells (cs := [(.bool (ew))]) (hm.ow_rep 8 rfl) dC rfl).cell (j := 0) rfl) rfl) (gE (gJg (λdD a w=>∃ (ci : Value),St 221 [(2,(nV b_)),(4,(pV aQ)),(5,(pV aT)),(8,(pV aR)),(9,(pV aP)),(11,(nV c_.regs)),(12,(nV ((c_.blocks.length : Int)))),(13,(nV (((c_.blocks.length : Int)) + ((f.blocks.length : Int))))),(20,(pV ai)),(21,ci),(23,(sV cM cN bL.length b6)),(24,(nV bB.2))] w0 (hp w0) [blk aQ [nV c_.params,nV c_.regs,.slice aV c_.blocks.length aW] 44,blk aT [nV f.params,nV f.regs,.slice aY f.blocks.length aZ] 44,blk aR [nV 0,nV 0,.slice none 0 0] 44,blk aP [nV aN.params,nV (w64 (c_.regs + f.regs)),sV ak al (aS).length am] 44,holeE ak al ((aS).length) am (aS : List Block_) (b_).toNat [.slice aa aA.phis.length ab,sV aF aG aA.ins.length aH,nV aA.jump,nV aA.on,bN],ow [.slice aa aA.phis.length ab] aA.phis,blk ai [.slice aa aA.phis.length ab,bY,nV aA.jump,nV aA.on,bC] 49,ow [ci] dD,ow [sV cM cN bL.length b6] bL] a w) (λdD=>?_) ?_)))
     ·refine gs 191 rfl (fun ez => ?_) fun ez => ?_
      ·refine gct rfl (gR (gM rfl (gM rfl (gM rfl (gB rfl (gf rfl (fun a hf => e_build0 (α := Int) et_47 hm rfl) ?_))))))
       rintro il w hm
       obtain ⟨bv,bx,rfl,im⟩ := ro_slice (hm.ow_rep 0 rfl)
       refine gY (yG rfl (y_build (vs := [(0,(nV 1)),(1,(nV (w64 (c_.regs + bB.2)))),(2,(.slice bv ([] : List Int).length bx))]) (cs := #[nV 1,nV (w64 (c_.regs + bB.2)),.slice bv ([] : List Int).length bx,nV 0]) rfl rfl (by kernel_rfl))) (gf rfl (λa hf=>e_build (vs := #[(0,(.agg #[nV 1,nV (w64 (c_.regs + bB.2)),.slice bv ([] : List Int).length bx,nV 0]))]) (cs := [nV 1,nV (w64 (c_.regs + bB.2)),.slice bv ([] : List Int).length bx,nV 0]) et_46 hf hm rfl rfl (by kernel_rfl) rfl rfl) ?_)
       rintro _ w ⟨cj,rfl,hm⟩
       replace hm := hm.els_nil (α := Ins_)
       replace hm : Mem w0 (hp w0) _ [els [] ([] : List Ins_),blk cj [nV 1,nV (w64 (c_.regs + bB.2)),.slice bv ([] : List Int).length bx,nV 0] 51,ow [nV 1,nV (w64 (c_.regs + bB.2)),.slice bv ([] : List Int).length bx,nV 0] ((⟨1,w64 (c_.regs + bB.2),([] : List Int),0⟩ : Ins_) : Ins_),blk aQ [nV c_.params,nV c_.regs,.slice aV c_.blocks.length aW] 44,blk aT [nV f.params,nV f.regs,.slice aY f.blocks.length aZ] 44,blk aR [nV 0,nV 0,.slice none 0 0] 44,blk aP [nV aN.params,nV (w64 (c_.regs + f.regs)),sV ak al (aS).length am] 44,holeE ak al ((aS).length) am (aS : List Block_) (b_).toNat [.slice aa aA.phis.length ab,sV aF aG aA.ins.length aH,nV aA.jump,nV aA.on,bN],ow [.slice aa aA.phis.length ab] aA.phis,blk ai [.slice aa aA.phis.length ab,bY,nV aA.jump,nV aA.on,bC] 49,ow [bq] bB.1,ow [sV cM cN bL.length b6] bL] := mk_Ins_ 1 (w64 (c_.regs + bB.2)) 0 hm 2 rfl
       replace hm := (hm.els_cons 0 2 (by decide) rfl rfl).pk (L' := [els [nV 1,nV (w64 (c_.regs + bB.2)),.slice bv ([] : List Int).length bx,nV 0] ([(⟨1,w64 (c_.regs + bB.2),([] : List Int),0⟩ : Ins_)] : List Ins_),blk cj [nV 1,nV (w64 (c_.regs + bB.2)),.slice bv ([] : List Int).length bx,nV 0] 51,blk aQ [nV c_.params,nV c_.regs,.slice aV c_.blocks.length aW] 44,blk aT [nV f.params,nV f.regs,.slice aY f.blocks.length aZ] 44,blk aR [nV 0,nV 0,.slice none 0 0] 44,blk aP [nV aN.params,nV (w64 (c_.regs + f.regs)),sV ak al (aS).length am] 44,holeE ak al ((aS).length) am (aS : List Block_) (b_).toNat [.slice aa aA.phis.length ab,sV aF aG aA.ins.length aH,nV aA.jump,nV aA.on,bN],ow [.slice aa aA.phis.length ab] aA.phis,blk ai [.slice aa aA.phis.length ab,bY,nV aA.jump,nV aA.on,bC] 49,ow [bq] bB.1,ow [sV cM cN bL.length b6] bL]) [0,1,3,4,5,6,7,8,9,10,11] rfl rfl
       replace hm := (hm.lit_els 1 0 (by decide) rfl rfl rfl rfl).pk (L' := [ow [sV cj 0 1 1] ([(⟨1,w64 (c_.regs + bB.2),([] : List Int),0⟩ : Ins_)] : List Ins_),blk aQ [nV c_.params,nV c_.regs,.slice aV c_.blocks.length aW] 44,blk aT [nV f.params,nV f.regs,.slice aY f.blocks.length aZ] 44,blk aR [nV 0,nV 0,.slice none 0 0] 44,blk aP [nV aN.params,nV (w64 (c_.regs + f.regs)),sV ak al (aS).length am] 44,holeE ak al ((aS).length) am (aS : List Block_) (b_).toNat [.slice aa aA.phis.length ab,sV aF aG aA.ins.length aH,nV aA.jump,nV aA.on,bN],ow [.slice aa aA.phis.length ab] aA.phis,blk ai [.slice aa aA.phis.length ab,bY,nV aA.jump,nV aA.on,bC] 49,ow [bq] bB.1,ow [sV cM cN bL.length b6] bL]) [1,2,3,4,5,6,7,8,9,10] rfl rfl
       refine gb λio fA=>?_
       obtain ⟨fB,fC⟩ := appM_some.1 fA
       replace hm := (hm.both 8 0 (by decide) rfl rfl).pk (L' := [blk aQ [nV c_.params,nV c_.regs,.slice aV c_.blocks.length aW] 44,blk aT [nV f.params,nV f.regs,.slice aY f.blocks.length aZ] 44,blk aR [nV 0,nV 0,.slice none 0 0] 44,blk aP [nV aN.params,nV (w64 (c_.regs + f.regs)),sV ak al (aS).length am] 44,holeE ak al ((aS).length) am (aS : List Block_) (b_).toNat [.slice aa aA.phis.length ab,sV aF aG aA.ins.length aH,nV aA.jump,nV aA.on,bN],ow [.slice aa aA.phis.length ab] aA.phis,blk ai [.slice aa aA.phis.length ab,bY,nV aA.jump,nV aA.on,bC] 49,both (ow [bq] bB.1) (ow [sV cj 0 1 1] ([(⟨1,w64 (c_.regs + bB.2),([] : List Int),0⟩ : Ins_)] : List Ins_)),ow [sV cM cN bL.length b6] bL]) [1,2,3,4,5,6,7,8,9] rfl rfl
       refine gf rfl (λa hf=>e_appendD (xs := bB.1) (ys := ([(⟨1,w64 (c_.regs + bB.2),([] : List Int),0⟩ : Ins_)] : List Ins_)) 7 et_46 hf hm rfl rfl rfl rfl fB) ?_
       rintro fD w hm
       rw [fC] at hm
       exact gA rfl (gE (gZ λa hf=>⟨fD,hf.sb rfl,hm.pk [0,1,2,3,4,5,6,7,8] rfl rfl⟩))
      exact gcf rfl (gSk (gZ λa hf=>⟨bq,hf.sb rfl,hm.pk [0,1,2,3,4,5,6,7,8] rfl rfl⟩))
     repeat clear hm
     rintro dD a w ⟨ci,hf,hm⟩
     exact gv hf (gZ λa hf=>⟨ci,hf.sb rfl,hm.pk [0,1,2,3,4,5,6,7,8] rfl rfl⟩)
    repeat clear hm
    rintro dB a w ⟨cg,hf,hm⟩
    exact gv hf (gR (gM rfl (gB rfl (gA rfl (gE (gZe λa hf=>⟨cg,hf.sb rfl,hm.pk [0,1,2,3,4,5,6,7,8] rfl rfl⟩))))))
   exact gcf rfl (gXt (gHh (gLp et ep (gZ λa hf=>⟨bq,hf.sb rfl,hm.pk [0,2,3,4,5,6,7] rfl rfl⟩))))
  repeat clear hm
  rintro bP a w ⟨dA,hf,hm⟩
  refine gv hf (gS (gR (gF fo_44_2 rfl (gL hm 2 isAgg42 rfl (gM rfl (gF fo_49_0 rfl (gL hm 5 isAgg45 rfl (gM rfl (gM rfl (gf rfl (λa hf=>e_build (vs := #[(0,(nV ((c_.blocks.length : Int))))]) (cs := [nV ((c_.blocks.length : Int))]) et_47 hf hm rfl rfl (by kernel_rfl) rfl rfl) ?_))))))))))
  rintro _ w ⟨bz,rfl,hm⟩
  replace hm := hm.lit (xs := ([(c_.blocks.length : Int)] : List Int)) 0 rfl rfl rfl rfl
  obtain ⟨cA,cB,rfl,ip⟩ := ro_slice (hm.ow_rep 7 rfl)
  refine gY (yG rfl (y_build (vs := [(0,(.slice aa aA.phis.length ab)),(1,(.slice cA bP.length cB)),(2,(nV 1)),(4,(sV bz 0 1 1))]) (cs := #[.slice aa aA.phis.length ab,.slice cA bP.length cB,nV 1,nV 0,sV bz 0 1 1]) rfl rfl (by kernel_rfl))) ?_
  have hL0_2 := hm.holeE_len 4 rfl
  obtain ⟨iq,d9⟩ := hm.holeE_ex 4 rfl
  refine gI st_42 ck (idx_lt2 d9 hL0_2) rfl ?_
  have fE : ∀ u ∈ ([.slice aa aA.phis.length ab,.slice cA bP.length cB,nV 1,nV 0,sV bz 0 1 1] : List Value),u.oneCell' = true := (one_cons rfl (one_cons rfl (one_cons rfl (one_cons rfl (one_cons rfl one_nil)))))
  refine gf0 rfl (λa hf=>e_storeH (j := 0) (vs := [.slice aa aA.phis.length ab,.slice cA bP.length cB,nV 1,nV 0,sV bz 0 1 1]) 4 hf hm rfl rfl rfl sizeOf49 rfl rfl rfl fE rfl) ?_
  rintro _ w hm
  replace hm : Mem w0 (hp w0) _ [ow [sV bz 0 1 1] ([(c_.blocks.length : Int)] : List Int),blk aQ [nV c_.params,nV c_.regs,.slice aV c_.blocks.length aW] 44,blk aR [nV 0,nV 0,.slice none 0 0] 44,blk aP [nV aN.params,nV (w64 (c_.regs + f.regs)),sV ak al (aS).length am] 44,holeE ak al ((aS).length) am (aS : List Block_) (b_).toNat [.slice aa aA.phis.length ab,.slice cA bP.length cB,nV 1,nV 0,sV bz 0 1 1],ow [.slice aa aA.phis.length ab] aA.phis,blk ai [.slice aa aA.phis.length ab,bY,nV aA.jump,nV aA.on,bC] 49,ow [.slice cA bP.length cB] bP] := hm
  refine gE (gS (gS ?_))
  replace hm := (mk_Block_ 1 0 hm 5 7 0 rfl).pk (L' := [blk aQ [nV c_.params,nV c_.regs,.slice aV c_.blocks.length aW] 44,blk aR [nV 0,nV 0,.slice none 0 0] 44,blk aP [nV aN.params,nV (w64 (c_.regs + f.regs)),sV ak al (aS).length am] 44,holeE ak al ((aS).length) am (aS : List Block_) (b_).toNat [.slice aa aA.phis.length ab,.slice cA bP.length cB,nV 1,nV 0,sV bz 0 1 1],ow [.slice aa aA.phis.length ab,.slice cA bP.length cB,nV 1,nV 0,sV bz 0 1 1] ((⟨aA.phis,bP,1,0,([(c_.blocks.length : Int)] : List Int)⟩ : Block_) : Block_),blk ai [.slice aa aA.phis.length ab,bY,nV aA.jump,nV aA.on,bC] 49]) [1,2,3,4,5,6] rfl rfl
  replace hm := (hm.shutE (y := ((⟨aA.phis,bP,1,0,([(c_.blocks.length : Int)] : List Int)⟩ : Block_) : Block_)) 3 4 (by decide) rfl rfl).pk (L' := [blk aQ [nV c_.params,nV c_.regs,.slice aV c_.blocks.length aW] 44,blk aR [nV 0,nV 0,.slice none 0 0] 44,blk aP [nV aN.params,nV (w64 (c_.regs + f.regs)),sV ak al (aS).length am] 44,ow [sV ak al (aS).length am] (aS.set (b_).toNat (⟨aA.phis,bP,1,0,([(c_.blocks.length : Int)] : List Int)⟩ : Block_)),blk ai [.slice aa aA.phis.length ab,bY,nV aA.jump,nV aA.on,bC] 49]) [0,1,2,3,5] rfl rfl
  have ir := List.getElem?_set_self (a := ((⟨aA.phis,bP,1,0,([(c_.blocks.length : Int)] : List Int)⟩ : Block_) : Block_)) (idx_lt d9)
  refine gR (gA rfl (gE (gBk (gNg (λdE b7 a w=>∃ (cO : Value),St 221 [(2,(nV b_)),(4,(pV aQ)),(8,(pV aR)),(9,(pV aP)),(12,(nV ((c_.blocks.length : Int)))),(13,(nV (((c_.blocks.length : Int)) + ((f.blocks.length : Int))))),(25,(nV dE))] w0 (hp w0) [blk aQ [nV c_.params,nV c_.regs,.slice aV c_.blocks.length aW] 44,blk aR [nV 0,nV 0,.slice none 0 0] 44,blk aP [nV b7.1,nV b7.2.1,cO] 44,ow [cO] b7.2.2] a w) (λa hf=>⟨sV ak al (aS).length am,hf.sb rfl,hm.pk [0,1,2,3] rfl rfl⟩) ?_ ?_))))
  ·repeat clear hm
   rintro _ _ dE b7 a w ⟨cO,hf,hm⟩ iu iv iw _
   refine gv hf (gS (gS (gR (gM rfl (gM rfl (gB rfl (gE (go _ 212 rfl (decide_eq_true (by omega)) (gct rfl (gSk (gS (gBk (gR (gY (yn (hm.blk_at 0 rfl) isAgg44 sizeOf44 rfl) (gM rfl (gM rfl (gM rfl ?_)))))))))))))))))
   obtain ⟨fF,hle,hm1,hsub,fG⟩ := hm.take2 (L1 := [blk aP [nV b7.1,nV b7.2.1,cO] 44,ow [cO] b7.2.2]) (L2 := [blk aQ [nV c_.params,nV c_.regs,.slice aV c_.blocks.length aW] 44,blk aR [nV 0,nV 0,.slice none 0 0] 44]) [2,3] [0,1] (by decide) rfl rfl
   refine gCg rfl call48 (spec_l19Phis_ok _ fF c_ (.slice aV c_.blocks.length aW) (GT.mono hle h1) (⟨b7.1,b7.2.1,b7.2.2⟩ : Code_) aP cO dE b_ (((c_.blocks.length : Int)) + ((f.blocks.length : Int))) hm1 ) ?_
   rintro iy iz jA w ⟨fH,rfl,hB⟩
   replace hm := fG _ _ hB; clear hB
   exact gE (gR (gM rfl (gP (by omega) (by omega) rfl (gA rfl (gE (gZe λa hf=>⟨fH,hf.sb rfl,hm.pk [2,3,0,1] rfl rfl⟩))))))
  repeat clear hm
  rintro jB jC a w ⟨fI,hf,hm⟩ jD jE
  exact gv hf (gS (gS (gR (gM rfl (gM rfl (gB rfl (gE (go _ 212 rfl (decide_eq_false (by omega)) (gcf rfl (gXt (gHh (gS (gR (gY (yn (hm.blk_at 2 rfl) isAgg44 sizeOf44 rfl) (gSN hm 1 sizeOf44 (one_cons rfl (one_cons rfl (one_cons (rep_one (hm.ow_rep 3 rfl)) one_nil))) rfl λw hm=>gE (gRt (grc 1 results21 hm rfl isAgg44 sizeOf44 ⟨fI,rfl,hm.pk [3] rfl rfl⟩)))))))))))))))))
theorem spec_InlineCall_ok (w0 : World) (u : Unit_) (v1 : Value) (h1 : GT.rep (hp w0) [v1] u.codes) (k_ : Int) (b_ : Int) (i_ : Int) :
    ConM Tryz.prog 7 [(.agg #[v1]),nV k_,nV b_,nV i_] w0 (spec_InlineCall u k_ b_ i_) λr v w'=>∃ (x1 : Value),v = (.tuple #[(.agg #[x1]),(.bool (r.2))]) ∧ Mem w0 (hp w0) w' [ow [x1] r.1.codes] := by
  unfold spec_InlineCall
  refine gcon func7 rfl λr=>?_
  have hm := Mem.start w0
  refine gS (gR (gBx hm rfl λaH w hm=>gAl hm zeroValue28 rfl λaJ w hm=>gA rfl (gE (gS (gS (gJ hm (λaM=>[(1,(nV k_)),(2,(nV b_)),(3,(nV i_)),(4,(pV aH)),(8,(pV aJ)),(45,(.bool (aM)))]) (λaM=>[blk aH [v1] 28,blk aJ [.slice none 0 0] 28]) (λaM=>?_) ?_))))))
  ·refine gR (gY (yn (hm.blk_at 1 rfl) isAgg28 sizeOf28 rfl) (gM rfl (gC hm rfl call18 (spec_l12Has_ok _ u v1 (hm.now h1) k_) fun bO bP w hm => gN rfl (gM rfl (gsn 16 rfl (fun am => ?_) fun am => ?_)))))
   ·exact gO rfl (gO rfl (gO rfl (gO rfl (gO rfl (gO rfl (gO rfl (gO rfl (gO rfl (gO rfl (gO rfl (gKt rfl (gM rfl (gO rfl (gO rfl (gO rfl (gO rfl (gO rfl (gO rfl (gO rfl (gO rfl (gO rfl (gO rfl (gO rfl (gO rfl (gO rfl (gO rfl (gO rfl (gKt rfl (gE (gz hm [1,0] rfl))))))))))))))))))))))))))))))
   refine gM rfl (gF fo_28_0 rfl (gL hm 1 isAgg26 rfl (gM rfl (gg λan ac aN=>?_))))
   obtain ⟨bQ,bR,bS,he⟩ := idx_form' h1 aN
   subst he
   obtain ⟨bT,ae,aS⟩ := rk_Code_ h1 aN
   refine gI st_26 ac (idx_lt aN) rfl (gF fo_44_2 rfl (gY (yl isAgg42 ((ae.mono hm.lez).cell (j := 2) rfl) rfl) ?_))
   obtain ⟨bU,bV,rfl,bW⟩ := ro_slice aS
   refine gY (yV st_42 rfl) (gY (yS (by omega) (by omega) rfl) (gC hm rfl call19 (spec_l1In_ok _ b_ 0 (((an.blocks.length : Int)) - 1)) λbX bY w hm=>gN rfl (gKf rfl (gM rfl (gsn 29 rfl (λao=>?_) λao=>?_)))))
   ·exact gO rfl (gO rfl (gO rfl (gO rfl (gO rfl (gO rfl (gO rfl (gO rfl (gO rfl (gO rfl (gO rfl (gO rfl (gO rfl (gO rfl (gO rfl (gKt rfl (gE (gz hm [1,0] rfl)))))))))))))))))
   refine gM rfl (gF fo_28_0 rfl (gL hm 1 isAgg26 rfl (gM rfl (gI st_26 ac (idx_lt aN) rfl (gF fo_44_2 rfl (gY (yl isAgg42 ((ae.mono hm.lez).cell (j := 2) rfl) rfl) (gM rfl (gg λap aq aT=>?_))))))))
   obtain ⟨bZ,b6,b7,he⟩ := idx_form' aS aT
   obtain ⟨rfl,_,rfl⟩ := sl3 he
   obtain ⟨b8,b9,ba,ar,bc,au,bd⟩ := rk_Block_ aS aT
   refine gI st_42 aq (idx_lt aT) rfl (gF fo_49_1 rfl (gY (yl isAgg46 ((ar.mono hm.lez).cell (j := 1) rfl) rfl) ?_))
   obtain ⟨be,bf,rfl,bg⟩ := ro_slice au
   exact gY (yV st_46 rfl) (gY (yS (by omega) (by omega) rfl) (gC hm rfl call19 (spec_l1In_ok _ i_ 0 (((ap.ins.length : Int)) - 1)) λbh bi w hm=>gN rfl (gKf rfl (gE (gz hm [1,0] rfl)))))
  repeat clear hm
  intro aM w hm
  refine gs 45 rfl (λav=>?_) λav=>?_
  ·refine gct rfl (gS (gR (gY (yG rfl (y_build (vs := []) (cs := #[.slice none 0 0]) rfl rfl (by kernel_rfl))) (gSN hm 1 sizeOf28 (one_cons rfl one_nil) rfl fun w hm => gA rfl (gE (gRt ?_))))))
   replace hm := hm.nilow (α := Code_)
   exact grct 2 results7 hm rfl isAgg28 sizeOf28 ⟨.slice none 0 0,rfl,hm.pk [0] rfl rfl⟩
  refine gcf rfl (gSk (gS (gR (gF fo_28_0 rfl (gL hm 0 isAgg26 rfl (gM rfl (gg λaf ah aO=>?_)))))))
  obtain ⟨aP,aQ,aR,he⟩ := idx_form' h1 aO
  subst he
  obtain ⟨bj,ai,aV⟩ := rk_Code_ h1 aO
  refine gI st_26 ah (idx_lt aO) rfl (gF fo_44_2 rfl (gY (yl isAgg42 ((ai.mono hm.lez).cell (j := 2) rfl) rfl) (gM rfl (gg λbk aw aW=>?_))))
  obtain ⟨ax,ay,az,he⟩ := idx_form' aV aW
  subst he
  obtain ⟨bm,bp,bq,bA,br,aj,bs⟩ := rk_Block_ aV aW
  refine gI st_42 aw (idx_lt aW) rfl (gF fo_49_1 rfl (gY (yl isAgg46 ((bA.mono hm.lez).cell (j := 1) rfl) rfl) (gM rfl (gg λaD bB aX=>?_))))
  obtain ⟨bt,bu,bv,he⟩ := idx_form' aj aX
  subst he
  obtain ⟨aY,bC,bD⟩ := rk_Ins_ aj aX
  refine gI st_46 bB (idx_lt aX) rfl (gY (yn (bC.mono hm.lez) isAgg51 sizeOf51 rfl) (gAl hm zeroValue51 rfl λaZ w hm=>gSN hm 0 sizeOf51 (one_cons rfl (one_cons rfl (one_cons (rep_one bD) (one_cons rfl one_nil)))) rfl λw hm=>gE (gS (gS (gR (gF fo_51_0 rfl (gL hm 0 isAgg3 rfl (gB rfl (gE (gsd 62 rfl (λbE=>?_) λbE=>?_))))))))))
  ·refine gct rfl (gS (gR (gY (yG rfl (y_build (vs := []) (cs := #[.slice none 0 0]) rfl rfl (by kernel_rfl))) (gSN hm 2 sizeOf28 (one_cons rfl one_nil) rfl fun w hm => gA rfl (gE (gRt ?_))))))
   replace hm := hm.nilow (α := Code_)
   exact grct 3 results7 hm rfl isAgg28 sizeOf28 ⟨.slice none 0 0,rfl,hm.pk [0] rfl rfl⟩
  refine gcf rfl (gSk (gS (gR (gY (yn (hm.blk_at 1 rfl) isAgg28 sizeOf28 rfl) (gCg rfl call20 (spec_l7CopyUnit_ok _ u (sV aP aQ u.codes.length aR) (hm.now h1)) ?_)))))
  rintro aC bx bz w ⟨ak,rfl,hB⟩
  replace hm := hm.give hB; clear hB
  refine gAl hm zeroValue28 rfl λaa w hm=>gSN hm 0 sizeOf28 (one_cons (rep_one (hm.ow_rep 1 rfl)) one_nil) rfl λw hm=>gE (gS (gW (.p 0 (.p 2 (.p 3 (.p 5 (.p 8 (.p 10 (.p 14 (.p 15 (.q 1 (.q 4 (.p 6 (.q 7 (.q 9 (.e 11 (.p 12 (.e 13 (.e 16 (.p 17 (.e 18 .fin .nil)) .nil) .nil)) .nil)))))))))))))) [1,4,7,9,11,13,16] [0,2,3,5,6,8,10,12,14,15,17] hm [0,1,2,3,4] [blk aa [ak] 28,ow [ak] aC.codes,blk aZ [nV aD.op,nV aD.to,aY,nV aD.n_] 51,blk aH [sV aP aQ u.codes.length aR] 28,blk aJ [.slice none 0 0] 28] rfl mxo (by kernel_rfl) (λ_ _ _ h=>h.2) λw hm hS=>tP rfl (λw=>yF fo_28_0 rfl) (tP rfl (λw=>yM rfl) (tP rfl (λw=>yF fo_28_0 rfl) (tP rfl (λw=>yM rfl) (tP rfl (λw=>yF fo_28_0 rfl) (tP rfl (λw=>yF fo_51_3 rfl) (tP rfl (λw=>yM rfl) (tP rfl (λw=>yM rfl) (tQ rfl hS (λw hm=>yL hm 0 isAgg26 rfl) (tQ rfl hS (λw hm=>yL hm 3 isAgg26 rfl) (tP rfl (λw=>yI st_26 ah (idx_lt aO) rfl) (tQ rfl hS (λw hm=>yn (ai.mono hm.lez) isAgg44 sizeOf44 rfl) (tQ rfl hS (λw hm=>yL hm 3 isAgg26 rfl) (tO (tY rfl (yL hm 2 isAgg3 rfl) (tAs hS (gg λbF bG al=>?_))))))))))))))))))
  obtain ⟨bH,bJ,bK⟩ := rk_Code_ h1 al
  refine tP rfl (λw=>yI st_26 bG (idx_lt al) rfl) (tO (tY rfl (yn (bJ.mono hm.lez) isAgg44 sizeOf44 rfl) (tAs hS (tO (gb λaA bL=>tf rfl rfl (λa hf=>e_call hf rfl call21 rfl (spec_l19Put_ok _ af (sV ax ay af.blocks.length az) (hm.now aV) bF bH (hm.now bK) b_ i_ _ bL)) ?_)))))
  rintro cA w ⟨ab,rfl,hB⟩
  replace hm := hm.give hB; clear hB
  refine tAk hm [1,2,3,4,5] rfl λhS=>gg λcB bM aL=>?_
  obtain ⟨aE,aF,aG,he⟩ := idx_form' (hm.ow_rep 2 rfl) aL
  subst he
  obtain ⟨cC,cD,cE⟩ := rk_Code_ (hm.ow_rep 2 rfl) aL
  refine tP rfl (λw=>yI st_26 bM (idx_lt aL) rfl) (tO ?_)
  replace hm : Mem w0 (hp w0) _ [ow [nV aA.params,nV aA.regs,ab] (aA : Code_),blk aa [sV aE aF aC.codes.length aG] 28,ow [sV aE aF aC.codes.length aG] aC.codes,blk aZ [nV aD.op,nV aD.to,aY,nV aD.n_] 51,blk aH [sV aP aQ u.codes.length aR] 28,blk aJ [.slice none 0 0] 28] := mk_Code_ aA.params aA.regs hm 0 rfl
  replace hm := (hm.both 2 0 (by decide) rfl rfl).pk (L' := [blk aa [sV aE aF aC.codes.length aG] 28,both (ow [sV aE aF aC.codes.length aG] aC.codes) (ow [nV aA.params,nV aA.regs,ab] (aA : Code_)),blk aZ [nV aD.op,nV aD.to,aY,nV aD.n_] 51,blk aH [sV aP aQ u.codes.length aR] 28,blk aJ [.slice none 0 0] 28]) [1,2,3,4,5] rfl rfl
  refine tf0 rfl rfl (λa hf=>e_putElem (x1 := (aA : Code_)) (vs := [nV aA.params,nV aA.regs,ab]) 1 hf hm rfl aL rfl sizeOf44 rfl rfl rfl rfl) ?_
  rintro _ w hm
  have cF := List.getElem?_set_self (a := (aA : Code_)) (idx_lt aL)
  refine tAn rfl (tE (gS (gS (gR (gY (yn (hm.blk_at 0 rfl) isAgg28 sizeOf28 rfl) (gC hm rfl call22 (spec_UnitValid_ok _ (⟨(aC.codes.set (k_).toNat aA)⟩ : Unit_) (sV aE aF aC.codes.length aG) (hm.ow_rep 1 rfl)) λcG cH w hm=>gN rfl (gE (gsn 86 rfl (λbN=>?_) λbN=>?_))))))))
  ·refine gct rfl (gS (gR (gY (yG rfl (y_build (vs := []) (cs := #[.slice none 0 0]) rfl rfl (by kernel_rfl))) (gSN hm 4 sizeOf28 (one_cons rfl one_nil) rfl fun w hm => gA rfl (gE (gRt ?_))))))
   replace hm := hm.nilow (α := Code_)
   exact grct 5 results7 hm rfl isAgg28 sizeOf28 ⟨.slice none 0 0,rfl,hm.pk [0] rfl rfl⟩
  exact gcf rfl (gSk (gS (gR (gY (yn (hm.blk_at 0 rfl) isAgg28 sizeOf28 rfl) (gSN hm 4 sizeOf28 (one_cons rfl one_nil) rfl λw hm=>gA rfl (gE (gRt (grct 4 results7 hm rfl isAgg28 sizeOf28 ⟨sV aE aF aC.codes.length aG,rfl,hm.pk [1] rfl rfl⟩))))))))
theorem impl_within_ok (w0 : World) (n_ : Int) (low : Int) (high : Int) :
    ConM Tryz.prog 25 [nV n_,nV low,nV high] w0 (impl_within n_ low high) λr v w'=>v = (.bool (r)) ∧ Below w0.heap.size w0 w' := by
  unfold impl_within
  refine gcon func25 rfl λr=>?_
  have hm := Mem.start w0
  refine gS (gR (gA rfl (gE (gS (gJ hm (λaA=>[(6,(.bool (aA)))]) (λaA=>[]) (λaA=>?_) ?_)))))
  ·refine gR (gM rfl (gM rfl (gB rfl (gM rfl (gsd 10 rfl (fun aC => ?_) fun aC => ?_)))))
   ·exact gM rfl (gM rfl (gB rfl (gKt rfl (gA rfl (gE (gz hm [] rfl))))))
   exact gO rfl (gO rfl (gO rfl (gKf rfl (gA rfl (gE (gz hm [] rfl))))))
  repeat clear hm
  intro aA w hm
  exact gRt (gr1 results25 rfl ⟨rfl,hm.below⟩)
theorem impl_codeOk_1_ok (w0 : World) (r_ : Int) (c0_ : Code_) (v1 : Value) (h1 : GT.rep (hp w0) [v1] c0_.blocks) (bf0 : Nat) (hbf0 : w0.heap[bf0]? = some (.cells ([nV c0_.params, nV c0_.regs, v1] : List Value).toArray 44 (0, 0))) :
    ConM Tryz.prog 104 [nV r_,(pV bf0)] w0 (impl_codeOk_1 r_ c0_) λr v w'=>v = (.bool (r)) ∧ Below w0.heap.size w0 w' := by
  unfold impl_codeOk_1
  refine gcon func104 rfl λr=>?_
  have hm := Mem.start w0
  exact gS (gR (gA rfl (gE (gS (gR (gM rfl (gF fo_44_1 rfl (gY (yl isAgg3 (hm.old_cell hbf0 rfl) rfl) (gB rfl (gC hm rfl call25 (impl_within_ok _ r_ 0 (w64 (c0_.regs - 1))) λaA aC w hm=>gA rfl (gE (gRt (gr1 results104 rfl ⟨rfl,hm.below⟩)))))))))))))
theorem impl_nextCount_ok (w0 : World) (jump : Int) :
    ConM Tryz.prog 105 [nV jump] w0 (impl_nextCount jump) λr v w'=>v = (nV r) ∧ Below w0.heap.size w0 w' := by
  unfold impl_nextCount
  refine gcon func105 rfl λr=>?_
  have hm := Mem.start w0
  refine gS (gR (gA rfl (gE (gS (gS (gR (gM rfl (gE (gBk (gS (gR (gB rfl (gA rfl (gE (gsd 4 rfl (λaA=>?_) λaA=>?_)))))))))))))))
  ·exact gct rfl (gS (gR (gA rfl (gE (gRt (gr1 results105 rfl ⟨rfl,hm.below⟩))))))
  refine gcf rfl (gS (gR (gB rfl (gA rfl (gE (gsd 6 rfl (λaC=>?_) λaC=>?_))))))
  ·exact gct rfl (gS (gR (gA rfl (gE (gRt (gr1 results105 rfl ⟨rfl,hm.below⟩))))))
  refine gcf rfl (gS (gR (gB rfl (gA rfl (gE (gsd 8 rfl (λaD=>?_) λaD=>?_))))))
  ·exact gct rfl (gS (gR (gA rfl (gE (gRt (gr1 results105 rfl ⟨rfl,hm.below⟩))))))
  exact gcf rfl (gSk (gS (gR (gA rfl (gE (gRt (gr1 results105 rfl ⟨rfl,hm.below⟩)))))))
theorem impl_usesOn_ok (w0 : World) (jump : Int) :
    ConM Tryz.prog 93 [nV jump] w0 (impl_usesOn jump) λr v w'=>v = (.bool (r)) ∧ Below w0.heap.size w0 w' := by
  unfold impl_usesOn
  refine gcon func93 rfl λr=>?_
  have hm := Mem.start w0
  refine gS (gR (gA rfl (gE (gS (gJ hm (λaA=>[(2,(.bool (aA)))]) (λaA=>[]) (λaA=>?_) ?_)))))
  ·refine gR (gM rfl (gB rfl (gM rfl (gsd 5 rfl (fun aC => ?_) fun aC => ?_))))
   ·exact gO rfl (gO rfl (gKt rfl (gA rfl (gE (gz hm [] rfl)))))
   exact gM rfl (gB rfl (gKf rfl (gA rfl (gE (gz hm [] rfl)))))
  repeat clear hm
  intro aA w hm
  exact gRt (gr1 results93 rfl ⟨rfl,hm.below⟩)
theorem impl_codeOk_2_ok (w0 : World) (n_ : Int) (c0_ : Code_) (v1 : Value) (h1 : GT.rep (hp w0) [v1] c0_.blocks) (bf0 : Nat) (hbf0 : w0.heap[bf0]? = some (.cells ([nV c0_.params, nV c0_.regs, v1] : List Value).toArray 44 (0, 0))) :
    ConM Tryz.prog 107 [nV n_,(pV bf0)] w0 (impl_codeOk_2 n_ c0_) λr v w'=>v = (.bool (r)) ∧ Below w0.heap.size w0 w' := by
  unfold impl_codeOk_2
  refine gcon func107 rfl λr=>?_
  have hm := Mem.start w0
  refine gS (gR (gA rfl (gE (gS (gR (gM rfl (gF fo_44_2 rfl (gY (yl isAgg42 (hm.old_cell hbf0 rfl) rfl) ?_))))))))
  obtain ⟨aA,aC,rfl,aD⟩ := ro_slice h1
  exact gY (yV st_42 rfl) (gY (yS (by omega) (by omega) rfl) (gC hm rfl call25 (impl_within_ok _ n_ 1 (((c0_.blocks.length : Int)) - 1)) λaE aF w hm=>gN rfl (gA rfl (gE (gRt (gr1 results107 rfl ⟨rfl,hm.below⟩))))))
theorem slices_IndexFunc_S_int_int_ok (w0 : World) (s_ : List Int) (v1 : Value) (h1 : GT.rep (hp w0) [v1] s_) (f : Int → Option Bool) (fv1 : Value) (hfn1 : ∀ (w : World) (y0 : Int) (r : Bool), Below w0.heap.size w0 w → f y0 = some r → FnOk Tryz.prog fv1 [nV y0] w (fun v w' => v = (.bool (r)) ∧ Below w.heap.size w w')) :
    ConM Tryz.prog 156 [v1,fv1] w0 (slices_IndexFunc_S_int_int s_ f) λr v w'=>v = (nV r) ∧ Below w0.heap.size w0 w' := by
  unfold slices_IndexFunc_S_int_int
  refine gcon func156 rfl λr=>?_
  have hm := Mem.start w0
  refine gS (gR (gA rfl (gE (gS (gS (gR (gM rfl ?_)))))))
  obtain ⟨aF,aG,rfl,aO⟩ := ro_slice h1
  refine gY (yV st_47 rfl) (gM rfl (gE (gBk (gNf hm (λaA aD=>[(0,(.slice aF s_.length aG)),(1,fv1),(7,(nV ((s_.length : Int)))),(8,(nV aA))]) (λaA aD=>[]) [] rfl ?_ ?_))))
  ·repeat clear hm
   intro aP aH aA aD w hm aQ aR aS aJ
   refine gS (gR (gB rfl (gE (gS (go _ 9 rfl (decide_eq_true (by omega)) (gct rfl (gSk (gS (gBk (gS (gR (gM rfl (gA rfl (gE (gS (gR (gM rfl (gM rfl (gM rfl (gg λaE aL aC=>?_))))))))))))))))))))
   obtain ⟨aT,aV,aW,he⟩ := idx_form h1 aC
   obtain ⟨rfl,_,rfl⟩ := sl3 he
   refine gI st_47 aL (idx_lt aC) rfl (gY (yl isAgg3 ((flat_cells (cs := [nV aE]) (hm.now h1) aC rfl).cell (j := 0) rfl) rfl) (gb λaX aM=>gf rfl (λa hf=>e_callv hf rfl rfl rfl (hfn1 _ aE _ hm.below aM)) ?_))
   rintro aY w ⟨rfl,hB⟩
   replace hm := hm.below' hB; clear hB
   refine gE (gs 16 rfl (λaN=>?_) λaN=>?_)
   ·exact gct rfl (gS (gR (gM rfl (gA rfl (gE (gRt (gLr aJ aH (gr1 results156 rfl ⟨rfl,hm.below⟩))))))))
   exact gcf rfl (gSk (gR (gP (by omega) (by omega) rfl (gM rfl (gE (gze hm [] rfl))))))
  repeat clear hm
  intro aZ aa w hm ab ac
  exact gS (gR (gB rfl (gE (gS (go _ 9 rfl (decide_eq_false (by omega)) (gcf rfl (gXt (gHh (gS (gR (gA rfl (gE (gRt (gr1 results156 rfl ⟨rfl,hm.below⟩))))))))))))))
theorem slices_ContainsFunc_S_int_int_ok (w0 : World) (s_ : List Int) (v1 : Value) (h1 : GT.rep (hp w0) [v1] s_) (f : Int → Option Bool) (fv1 : Value) (hfn1 : ∀ (w : World) (y0 : Int) (r : Bool), Below w0.heap.size w0 w → f y0 = some r → FnOk Tryz.prog fv1 [nV y0] w (fun v w' => v = (.bool (r)) ∧ Below w.heap.size w w')) :
    ConM Tryz.prog 106 [v1,fv1] w0 (slices_ContainsFunc_S_int_int s_ f) λr v w'=>v = (.bool (r)) ∧ Below w0.heap.size w0 w' := by
  unfold slices_ContainsFunc_S_int_int
  refine gcon func106 rfl λr=>?_
  have hm := Mem.start w0
  exact gS (gR (gA rfl (gE (gS (gR (gM rfl (gM rfl (gC hm rfl call156 (slices_IndexFunc_S_int_int_ok _ s_ v1 (hm.now h1) f fv1 (λw y0 r hB hq=>hfn1 w y0 r (hm.below.trans (hB.mono hm.below.size)) hq)) λaA aC w hm=>gB rfl (gA rfl (gE (gRt (gr1 results106 rfl ⟨rfl,hm.below⟩))))))))))))
theorem impl_insOk_1_ok (w0 : World) (r_ : Int) (c0_ : Code_) (v1 : Value) (h1 : GT.rep (hp w0) [v1] c0_.blocks) (bf0 : Nat) (hbf0 : w0.heap[bf0]? = some (.cells ([nV c0_.params, nV c0_.regs, v1] : List Value).toArray 44 (0, 0))) :
    ConM Tryz.prog 158 [nV r_,(pV bf0)] w0 (impl_insOk_1 r_ c0_) λr v w'=>v = (.bool (r)) ∧ Below w0.heap.size w0 w' := by
  unfold impl_insOk_1
  refine gcon func158 rfl λr=>?_
  have hm := Mem.start w0
  exact gS (gR (gA rfl (gE (gS (gR (gM rfl (gF fo_44_1 rfl (gY (yl isAgg3 (hm.old_cell hbf0 rfl) rfl) (gB rfl (gC hm rfl call25 (impl_within_ok _ r_ 0 (w64 (c0_.regs - 1))) λaA aC w hm=>gA rfl (gE (gRt (gr1 results158 rfl ⟨rfl,hm.below⟩)))))))))))))
theorem impl_isIns_ok (w0 : World) (op : Int) :
    ConM Tryz.prog 153 [nV op] w0 (impl_isIns op) λr v w'=>v = (.bool (r)) ∧ Below w0.heap.size w0 w' := by
  unfold impl_isIns
  refine gcon func153 rfl λr=>?_
  have hm := Mem.start w0
  exact gS (gR (gA rfl (gE (gS (gR (gM rfl (gC hm rfl call25 (impl_within_ok _ op 1 14) λaA aC w hm=>gA rfl (gE (gRt (gr1 results153 rfl ⟨rfl,hm.below⟩))))))))))
theorem impl_insOk_2_ok (w0 : World) (r_ : Int) (c0_0_ : Code_) (v1 : Value) (h1 : GT.rep (hp w0) [v1] c0_0_.blocks) (aA : Nat) (aC : w0.heap[aA]? = some (.cells ([nV c0_0_.params, nV c0_0_.regs, v1] : List Value).toArray 44 (0, 0))) (bf0 : Nat) (hbf0 : w0.heap[bf0]? = some (.cells ([(.func (.func 158) #[] #[(pV aA)])] : List Value).toArray 124 (0, 0))) :
    ConM Tryz.prog 159 [nV r_,(pV bf0)] w0 (impl_insOk_2 r_ c0_0_) λr v w'=>v = (.bool (r)) ∧ Below w0.heap.size w0 w' := by
  unfold impl_insOk_2
  refine gcon func159 rfl λr=>?_
  have hm := Mem.start w0
  refine gS (gR (gA rfl (gE (gS (gR (gY (yl isAgg124 (hm.old_cell hbf0 rfl) rfl) (gM rfl (gb λaE aD=>gf rfl (λa hf=>e_callv hf rfl rfl rfl ⟨158,[(pV aA)],rfl,call158,impl_insOk_1_ok _ r_ c0_0_ v1 (rep_later (hm.now h1) (Below.refl _ _)) aA (hm.old_later aC (Below.refl _ _)) _ aD⟩) ?_))))))))
  rintro aF w ⟨rfl,hB⟩
  replace hm := hm.below' hB; clear hB
  exact gN rfl (gA rfl (gE (gRt (gr1 results159 rfl ⟨rfl,hm.below⟩))))
theorem impl_sets_ok (w0 : World) (op : Int) :
    ConM Tryz.prog 92 [nV op] w0 (impl_sets op) λr v w'=>v = (.bool (r)) ∧ Below w0.heap.size w0 w' := by
  unfold impl_sets
  refine gcon func92 rfl λr=>?_
  have hm := Mem.start w0
  refine gS (gR (gA rfl (gE (gS (gJ hm (λaA=>[(2,(.bool (aA)))]) (λaA=>[]) (λaA=>?_) ?_)))))
  ·refine gR (gM rfl (gC hm rfl call153 (impl_isIns_ok _ op) fun aE aF w hm => gM rfl (gs 5 rfl (fun aC => ?_) fun aC => ?_)))
   ·refine gM rfl (gB rfl (gKt rfl (gM rfl (gsd 9 rfl (fun aD => ?_) fun aD => ?_))))
    ·exact gM rfl (gB rfl (gKt rfl (gA rfl (gE (gz hm [] rfl)))))
    exact gO rfl (gO rfl (gKf rfl (gA rfl (gE (gz hm [] rfl)))))
   exact gO rfl (gO rfl (gKf rfl (gM rfl (gO rfl (gO rfl (gKf rfl (gA rfl (gE (gz hm [] rfl)))))))))
  repeat clear hm
  intro aA w hm
  exact gRt (gr1 results92 rfl ⟨rfl,hm.below⟩)
theorem impl_isByte_ok (w0 : World) (n_ : Int) :
    ConM Tryz.prog 160 [nV n_] w0 (impl_isByte n_) λr v w'=>v = (.bool (r)) ∧ Below w0.heap.size w0 w' := by
  unfold impl_isByte
  refine gcon func160 rfl λr=>?_
  have hm := Mem.start w0
  exact gS (gR (gA rfl (gE (gS (gR (gM rfl (gC hm rfl call25 (impl_within_ok _ n_ 0 255) λaA aC w hm=>gA rfl (gE (gRt (gr1 results160 rfl ⟨rfl,hm.below⟩))))))))))
theorem impl_insArgs_ok (w0 : World) (op : Int) :
    ConM Tryz.prog 161 [nV op] w0 (impl_insArgs op) λr v w'=>v = (nV r) ∧ Below w0.heap.size w0 w' := by
  unfold impl_insArgs
  refine gcon func161 rfl λr=>?_
  have hm := Mem.start w0
  refine gS (gR (gA rfl (gE (gS (gS (gR (gM rfl (gE (gBk (gS (gR (gB rfl (gA rfl (gE (gsd 4 rfl (λaE=>?_) λaE=>?_)))))))))))))))
  ·exact gct rfl (gS (gR (gA rfl (gE (gRt (gr1 results161 rfl ⟨rfl,hm.below⟩))))))
  refine gcf rfl (gS (gS (gR (gB rfl (gA rfl (gE (gJ hm (λaA=>[(6,(.bool (aA)))]) (λaA=>[]) (λaA=>?_) ?_)))))))
  ·refine gsd 6 rfl (fun aF => ?_) fun aF => ?_
   ·exact gct rfl (gSk (gz hm [] rfl))
   refine gcf rfl (gS (gR (gB rfl (gA rfl (gE (gJ hm (λaC=>[(6,(.bool (aC)))]) (λaC=>[]) (λaC=>?_) ?_))))))
   ·refine gsd 6 rfl (fun aG => ?_) fun aG => ?_
    ·exact gct rfl (gSk (gz hm [] rfl))
    refine gcf rfl (gS (gR (gB rfl (gA rfl (gE (gJ hm (λaD=>[(6,(.bool (aD)))]) (λaD=>[]) (λaD=>?_) ?_))))))
    ·refine gsd 6 rfl (fun aH => ?_) fun aH => ?_
     ·exact gct rfl (gSk (gz hm [] rfl))
     exact gcf rfl (gR (gB rfl (gA rfl (gE (gz hm [] rfl)))))
    repeat clear hm
    intro aD w hm
    exact gz hm [] rfl
   repeat clear hm
   intro aC w hm
   exact gz hm [] rfl
  repeat clear hm
  intro aA w hm
  refine gs 6 rfl (λaJ=>?_) λaJ=>?_
  ·exact gct rfl (gS (gR (gA rfl (gE (gRt (gr1 results161 rfl ⟨rfl,hm.below⟩))))))
  exact gcf rfl (gSk (gS (gR (gA rfl (gE (gRt (gr1 results161 rfl ⟨rfl,hm.below⟩)))))))
theorem impl_insOk_ok (w0 : World) (u : Unit_) (v1 : Value) (h1 : GT.rep (hp w0) [v1] u.codes) (k_ : Int) (x_ : Ins_) (v2 : Value) (h2 : GT.rep (hp w0) [v2] x_.args) :
    ConM Tryz.prog 110 [(.agg #[v1]),nV k_,(.agg #[nV x_.op,nV x_.to,v2,nV x_.n_])] w0 (impl_insOk u k_ x_) λr v w'=>v = (.bool (r)) ∧ Below w0.heap.size w0 w' := by
  unfold impl_insOk
  refine gcon func110 rfl λr=>?_
  have hm := Mem.start w0
  refine gS (gR (gBx hm rfl λaA w hm=>gBx hm rfl λaC w hm=>gA rfl (gE (gS (gR (gF fo_28_0 rfl (gL hm 1 isAgg26 rfl (gM rfl (gg λaD aV aQ=>?_)))))))))
  obtain ⟨aG,aH,aJ,he⟩ := idx_form' h1 aQ
  subst he
  obtain ⟨aR,aW,aS⟩ := rk_Code_ h1 aQ
  refine gI st_26 aV (idx_lt aQ) rfl (gY (yn (aW.mono hm.lez) isAgg44 sizeOf44 rfl) (gAl hm zeroValue44 rfl λaE w hm=>gSN hm 0 sizeOf44 (one_cons rfl (one_cons rfl (one_cons (rep_one aS) one_nil))) rfl λw hm=>gE (gS (gR (gY (yU rfl) (gAl hm zeroValue124 rfl λaF w hm=>gS1 hm 0 sizeOf124 rfl rfl λw hm=>gE (gS (gS (gJ hm (λaL=>[(1,(nV k_)),(3,(pV aA)),(5,(pV aC)),(8,(pV aF)),(24,(.bool (aL)))]) (λaL=>[blk aA [sV aG aH u.codes.length aJ] 28,blk aC [nV x_.op,nV x_.to,v2,nV x_.n_] 51,blk aF [(.func (.func 158) #[] #[(pV aE)])] 124,blk aE [nV aD.params,nV aD.regs,aR] 44]) (λaL=>?_) ?_)))))))))
  ·refine gR (gF fo_51_0 rfl (gL hm 2 isAgg3 rfl (gC hm rfl call153 (impl_isIns_ok _ x_.op) fun aq ar w hm => gN rfl (gM rfl (gsn 19 rfl (fun aX => ?_) fun aX => ?_)))))
   ·exact gO rfl (gO rfl (gO rfl (gO rfl (gKt rfl (gE (gz hm [3,2,0,1] rfl))))))
   exact gF fo_51_2 rfl (gL hm 2 isAgg47 rfl (gY (yU rfl) (gC hm rfl call106 (slices_ContainsFunc_S_int_int_ok _ x_.args v2 (hm.now h2) (λy0=>impl_insOk_2 y0 aD) (.func (.func 159) #[] #[(pV aF)]) (λw y0 r hB hq=>⟨159,[(pV aF)],rfl,call159,impl_insOk_2_ok w y0 aD aR (rep_later (hm.now aS) hB) aE (hm.blk_later 1 rfl hB) aF (hm.blk_later 0 rfl hB) r hq⟩)) λau av w hm=>gKf rfl (gE (gz hm [3,2,0,1] rfl)))))
  repeat clear hm
  intro aL w hm
  refine gs 24 rfl (λaY=>?_) λaY=>?_
  ·exact gct rfl (gS (gR (gA rfl (gE (gRt (gr1 results110 rfl ⟨rfl,hm.below⟩))))))
  refine gcf rfl (gSk (gS (gS (gJ hm (λaM=>[(1,(nV k_)),(3,(pV aA)),(5,(pV aC)),(45,(.bool (aM)))]) (λaM=>[blk aA [sV aG aH u.codes.length aJ] 28,blk aC [nV x_.op,nV x_.to,v2,nV x_.n_] 51]) (λaM=>?_) ?_))))
  ·refine gR (gF fo_51_0 rfl (gL hm 1 isAgg3 rfl (gC hm rfl call92 (impl_sets_ok _ x_.op) fun aw ax w hm => gM rfl (gs 28 rfl (fun aZ => ?_) fun aZ => ?_))))
   ·refine gL hm 2 isAgg124 rfl (gF fo_51_1 rfl (gL hm 1 isAgg3 rfl (gb fun ay aa => gf rfl (fun a hf => e_callv hf rfl rfl rfl ⟨158, [(pV aE)], rfl, call158, impl_insOk_1_ok _ x_.to aD aR (rep_later (hm.now aS) (Below.refl _ _)) aE (hm.blk_later 3 rfl (Below.refl _ _)) _ aa⟩) ?_)))
    rintro az w ⟨rfl,hB⟩
    replace hm := hm.below' hB; clear hB
    refine gN rfl (gKt rfl (gM rfl (gsn 35 rfl (λab=>?_) λab=>?_)))
    ·exact gO rfl (gO rfl (gO rfl (gO rfl (gO rfl (gO rfl (gO rfl (gO rfl (gO rfl (gKt rfl (gE (gz hm [0,1] rfl)))))))))))
    refine gF fo_51_0 rfl (gL hm 1 isAgg3 rfl (gC hm rfl call92 (impl_sets_ok _ x_.op) λbA bB w hm=>gN rfl (gM rfl (gsn 40 rfl (λac=>?_) λac=>?_))))
    ·exact gF fo_51_1 rfl (gL hm 1 isAgg3 rfl (gB rfl (gKt rfl (gKf rfl (gE (gz hm [0,1] rfl))))))
    exact gO rfl (gO rfl (gO rfl (gKf rfl (gKf rfl (gE (gz hm [0,1] rfl))))))
   refine gO rfl (gO rfl (gO rfl (gO rfl (gO rfl (gKf rfl (gM rfl (gF fo_51_0 rfl (gL hm 1 isAgg3 rfl (gC hm rfl call92 (impl_sets_ok _ x_.op) λbC bD w hm=>gN rfl (gM rfl (gsn 40 rfl (λae=>?_) λae=>?_)))))))))))
   ·exact gF fo_51_1 rfl (gL hm 1 isAgg3 rfl (gB rfl (gKt rfl (gKf rfl (gE (gz hm [0,1] rfl))))))
   exact gO rfl (gO rfl (gO rfl (gKf rfl (gKf rfl (gE (gz hm [0,1] rfl))))))
  repeat clear hm
  intro aM w hm
  refine gs 45 rfl (λaf=>?_) λaf=>?_
  ·exact gct rfl (gS (gR (gA rfl (gE (gRt (gr1 results110 rfl ⟨rfl,hm.below⟩))))))
  refine gcf rfl (gSk (gS (gS (gR (gF fo_51_0 rfl (gL hm 1 isAgg3 rfl (gE (gBk (gS (gR (gB rfl (gA rfl (gE (gsd 48 rfl (λah=>?_) λah=>?_))))))))))))))
  ·refine gct rfl (gS (gJ hm (fun aN => [(6, (.bool (aN)))]) (fun aN => []) (fun aN => ?_) ?_))
   ·refine gR (gF fo_51_2 rfl (gL hm 1 isAgg47 rfl ?_))
    obtain ⟨bE,bF,rfl,bG⟩ := ro_slice h2
    refine gY (yV st_47 rfl) (gB rfl (gM rfl (gsd 54 rfl (λai=>?_) λai=>?_)))
    ·exact gF fo_51_3 rfl (gL hm 1 isAgg3 rfl (gC hm rfl call160 (impl_isByte_ok _ x_.n_) λbH bJ w hm=>gKt rfl (gA rfl (gE (gz hm [] rfl)))))
    exact gO rfl (gO rfl (gO rfl (gKf rfl (gA rfl (gE (gz hm [] rfl))))))
   repeat clear hm
   intro aN w hm
   exact gRt (gr1 results110 rfl ⟨rfl,hm.below⟩)
  refine gcf rfl (gS (gR (gB rfl (gA rfl (gE (gsd 59 rfl (λaj=>?_) λaj=>?_))))))
  ·refine gct rfl (gS (gJ hm (fun aO => [(6, (.bool (aO)))]) (fun aO => []) (fun aO => ?_) ?_))
   ·refine gW (.p 0 (.p 2 (.p 3 (.e 1 (.e 4 (.p 5 (.p 6 (.p 9 (.p 11 (.q 7 (.p 8 (.q 10 (.e 12 (.p 13 (.p 14 (.e 15 (.p 16 (.p 17 (.p 18 .fin))) .nil))) .nil)))))))) .nil) .nil)))) [7, 10, 12, 15] [0, 2, 3, 5, 6, 8, 9, 11, 13, 14, 16, 17, 18] hm [0, 1] [blk aA [sV aG aH u.codes.length aJ] 28, blk aC [nV x_.op, nV x_.to, v2, nV x_.n_] 51] rfl mxo (by kernel_rfl) (fun _ _ _ h => h.2) fun w hm hS => tP rfl (fun w => yF fo_51_3 rfl) (tP rfl (fun w => yM rfl) (tP rfl (fun w => yB rfl) (tO (tY rfl (yL hm 1 isAgg3 rfl) (tAn rfl (tO (gb fun bK ak => tf rfl rfl (fun a hf => e_call hf rfl call25 rfl (impl_within_ok _ x_.n_ 0 (w64 (k_ - 1)) _ ak)) ?_)))))))
    rintro bL w ⟨rfl,hB⟩
    replace hm := hm.below' hB; clear hB
    refine tAk hm [0,1] rfl λhS=>tP rfl (λw=>yM rfl) (gs 66 rfl (λal=>?_) λal=>?_)
    ·refine tP rfl (fun w => yF fo_51_2 rfl) (tP rfl (fun w => yF fo_28_0 rfl) (tP rfl (fun w => yF fo_51_3 rfl) (tQ rfl hS (fun w hm => yL hm 1 isAgg47 rfl) ?_)))
     obtain ⟨bM,bN,rfl,bO⟩ := ro_slice h2
     refine tP rfl (λw=>yV st_47 rfl) (tQ rfl hS (λw hm=>yL hm 0 isAgg26 rfl) (tO (tY rfl (yL hm 1 isAgg3 rfl) (tAs hS (gg λbP am aT=>?_)))))
     obtain ⟨bQ,an,bR⟩ := rk_Code_ h1 aT
     exact tP rfl (λw=>yI st_26 am (idx_lt aT) rfl) (tP rfl (λw=>yF fo_44_0 rfl) (tO (tY rfl (yl isAgg3 ((an.mono hm.lez).cell (j := 0) rfl) rfl) (tAs hS (tP rfl (λw=>yB rfl) (tP rfl (λw=>yKt rfl) (tP rfl (λw=>yA rfl) (tE (gz hm [] rfl)))))))))
    exact tPo rfl rfl (tPo rfl rfl (tPo rfl rfl (tQo rfl hS rfl (tPo rfl rfl (tQo rfl hS rfl (tO (tEo rfl rfl (tAs hS (tPo rfl rfl (tPo rfl rfl (tO (tEo rfl rfl (tAs hS (tPo rfl rfl (tP rfl (λw=>yKf rfl) (tP rfl (λw=>yA rfl) (tE (gz hm [] rfl))))))))))))))))))
   repeat clear hm
   intro aO w hm
   exact gRt (gr1 results110 rfl ⟨rfl,hm.below⟩)
  refine gcf rfl (gSk (gS (gJ hm (λaP=>[(6,(.bool (aP)))]) (λaP=>[]) (λaP=>?_) ?_)))
  ·refine gW (.p 0 (.e 1 (.p 2 (.p 3 (.p 4 (.p 7 (.q 5 (.p 6 (.e 8 (.e 9 (.p 10 (.p 11 (.p 12 .fin))) .nil) .nil))))))) .nil)) [8, 9] [0, 2, 3, 4, 6, 7, 10, 11, 12] hm [0, 1] [blk aA [sV aG aH u.codes.length aJ] 28, blk aC [nV x_.op, nV x_.to, v2, nV x_.n_] 51] rfl mxo (by kernel_rfl) (fun _ _ _ h => h.2) fun w hm hS => tP rfl (fun w => yF fo_51_3 rfl) (tO (tY rfl (yL hm 1 isAgg3 rfl) (tAn rfl (tP rfl (fun w => yB rfl) (tP rfl (fun w => yM rfl) (gsd 82 rfl (fun ao => ?_) fun ao => ?_))))))
   ·refine tP rfl (fun w => yF fo_51_2 rfl) (tP rfl (fun w => yF fo_51_0 rfl) (tQ rfl hS (fun w hm => yL hm 1 isAgg47 rfl) ?_))
    obtain ⟨bS,bT,rfl,bU⟩ := ro_slice h2
    refine tP rfl (λw=>yV st_47 rfl) (tO (tY rfl (yL hm 1 isAgg3 rfl) (tAs hS (tO (gb λbV ap=>tf rfl rfl (λa hf=>e_call hf rfl call161 rfl (impl_insArgs_ok _ x_.op _ ap)) ?_)))))
    rintro bW w ⟨rfl,hB⟩
    replace hm := hm.below' hB; clear hB
    exact tAk hm [0,1] rfl λhS=>tP rfl (λw=>yB rfl) (tP rfl (λw=>yKt rfl) (tP rfl (λw=>yA rfl) (tE (gz hm [] rfl))))
   exact tPo rfl rfl (tPo rfl rfl (tQo rfl hS rfl (tPo rfl rfl (tO (tEo rfl rfl (tAs hS (tO (tEo rfl rfl (tAs hS (tPo rfl rfl (tP rfl (λw=>yKf rfl) (tP rfl (λw=>yA rfl) (tE (gz hm [] rfl))))))))))))))
  repeat clear hm
  intro aP w hm
  exact gRt (gr1 results110 rfl ⟨rfl,hm.below⟩)
theorem impl_codeOk_3_ok (w0 : World) (i_ : Ins_) (v1 : Value) (h1 : GT.rep (hp w0) [v1] i_.args) (c0_ : Unit_) (v2 : Value) (h2 : GT.rep (hp w0) [v2] c0_.codes) (bf0 : Nat) (hbf0 : w0.heap[bf0]? = some (.cells ([v2] : List Value).toArray 28 (0, 0))) (c1_ : Int) (bf1 : Nat) (hbf1 : w0.heap[bf1]? = some (.cells ([nV c1_] : List Value).toArray 3 (0, 0))) :
    ConM Tryz.prog 109 [(.agg #[nV i_.op,nV i_.to,v1,nV i_.n_]),(pV bf0),(pV bf1)] w0 (impl_codeOk_3 i_ c0_ c1_) λr v w'=>v = (.bool (r)) ∧ Below w0.heap.size w0 w' := by
  unfold impl_codeOk_3
  refine gcon func109 rfl λr=>?_
  have hm := Mem.start w0
  exact gS (gR (gBx hm rfl λaA w hm=>gA rfl (gE (gS (gR (gY (yn (hm.old_at hbf0) isAgg28 sizeOf28 rfl) (gY (yl isAgg3 (hm.old_cell hbf1 rfl) rfl) (gY (yn (hm.blk_at 0 rfl) isAgg51 sizeOf51 rfl) (gC hm rfl call110 (impl_insOk_ok _ c0_ v2 (hm.now h2) c1_ i_ v1 (hm.now h1)) λaC aD w hm=>gN rfl (gA rfl (gE (gRt (gr1 results109 rfl ⟨rfl,hm.below⟩)))))))))))))
theorem slices_IndexFunc_S_impl_Ins_impl_Ins_ok (w0 : World) (s_ : List Ins_) (v1 : Value) (h1 : GT.rep (hp w0) [v1] s_) (f : Ins_ → Option Bool) (fv1 : Value) (hfn1 : ∀ (w : World) (y0 : Ins_) (z1 : Value) (_ : GT.rep (hp w) [z1] y0.args) (r : Bool), Below w0.heap.size w0 w → f y0 = some r → FnOk Tryz.prog fv1 [(.agg #[nV y0.op, nV y0.to, z1, nV y0.n_])] w (fun v w' => v = (.bool (r)) ∧ Below w.heap.size w w')) :
    ConM Tryz.prog 157 [v1,fv1] w0 (slices_IndexFunc_S_impl_Ins_impl_Ins s_ f) λr v w'=>v = (nV r) ∧ Below w0.heap.size w0 w' := by
  unfold slices_IndexFunc_S_impl_Ins_impl_Ins
  refine gcon func157 rfl λr=>?_
  have hm := Mem.start w0
  refine gS (gR (gA rfl (gE (gS (gS (gR (gM rfl ?_)))))))
  obtain ⟨aE,aF,rfl,aR⟩ := ro_slice h1
  refine gY (yV st_46 rfl) (gM rfl (gE (gBk (gNf hm (λaA aD=>[(0,(.slice aE s_.length aF)),(1,fv1),(7,(nV ((s_.length : Int)))),(8,(nV aA))]) (λaA aD=>[]) [] rfl ?_ ?_))))
  ·repeat clear hm
   intro aS aG aA aD w hm aT aV aW aH
   refine gS (gR (gB rfl (gE (gS (go _ 9 rfl (decide_eq_true (by omega)) (gct rfl (gSk (gS (gBk (gS (gR (gM rfl (gA rfl (gE (gS (gR (gM rfl (gM rfl (gM rfl (gg λaJ aL aC=>?_))))))))))))))))))))
   obtain ⟨aX,aY,aZ,he⟩ := idx_form' h1 aC
   obtain ⟨rfl,_,rfl⟩ := sl3 he
   obtain ⟨aM,aN,aO⟩ := rk_Ins_ h1 aC
   refine gI st_46 aL (idx_lt aC) rfl (gY (yn (aN.mono hm.lez) isAgg51 sizeOf51 rfl) (gb λaa aP=>gf rfl (λa hf=>e_callv hf rfl rfl rfl (hfn1 _ aJ aM (hm.now aO) _ hm.below aP)) ?_))
   rintro ab w ⟨rfl,hB⟩
   replace hm := hm.below' hB; clear hB
   refine gE (gs 16 rfl (λaQ=>?_) λaQ=>?_)
   ·exact gct rfl (gS (gR (gM rfl (gA rfl (gE (gRt (gLr aH aG (gr1 results157 rfl ⟨rfl,hm.below⟩))))))))
   exact gcf rfl (gSk (gR (gP (by omega) (by omega) rfl (gM rfl (gE (gze hm [] rfl))))))
  repeat clear hm
  intro ac ae w hm af ah
  exact gS (gR (gB rfl (gE (gS (go _ 9 rfl (decide_eq_false (by omega)) (gcf rfl (gXt (gHh (gS (gR (gA rfl (gE (gRt (gr1 results157 rfl ⟨rfl,hm.below⟩))))))))))))))
theorem slices_ContainsFunc_S_impl_Ins_impl_Ins_ok (w0 : World) (s_ : List Ins_) (v1 : Value) (h1 : GT.rep (hp w0) [v1] s_) (f : Ins_ → Option Bool) (fv1 : Value) (hfn1 : ∀ (w : World) (y0 : Ins_) (z1 : Value) (_ : GT.rep (hp w) [z1] y0.args) (r : Bool), Below w0.heap.size w0 w → f y0 = some r → FnOk Tryz.prog fv1 [(.agg #[nV y0.op, nV y0.to, z1, nV y0.n_])] w (fun v w' => v = (.bool (r)) ∧ Below w.heap.size w w')) :
    ConM Tryz.prog 108 [v1,fv1] w0 (slices_ContainsFunc_S_impl_Ins_impl_Ins s_ f) λr v w'=>v = (.bool (r)) ∧ Below w0.heap.size w0 w' := by
  unfold slices_ContainsFunc_S_impl_Ins_impl_Ins
  refine gcon func108 rfl λr=>?_
  have hm := Mem.start w0
  exact gS (gR (gA rfl (gE (gS (gR (gM rfl (gM rfl (gC hm rfl call157 (slices_IndexFunc_S_impl_Ins_impl_Ins_ok _ s_ v1 (hm.now h1) f fv1 (λw y0 aA aC r hB hq=>hfn1 w y0 aA aC r (hm.below.trans (hB.mono hm.below.size)) hq)) λaD aE w hm=>gB rfl (gA rfl (gE (gRt (gr1 results108 rfl ⟨rfl,hm.below⟩))))))))))))
theorem slices_Index_S_int_int_ok (w0 : World) (s_ : List Int) (v1 : Value) (h1 : GT.rep (hp w0) [v1] s_) (v_ : Int) :
    ConM Tryz.prog 154 [v1,nV v_] w0 (slices_Index_S_int_int s_ v_) λr v w'=>v = (nV r) ∧ Below w0.heap.size w0 w' := by
  unfold slices_Index_S_int_int
  refine gcon func154 rfl λr=>?_
  have hm := Mem.start w0
  refine gS (gR (gA rfl (gE (gS (gS (gR (gM rfl ?_)))))))
  obtain ⟨aE,aF,rfl,aN⟩ := ro_slice h1
  refine gY (yV st_47 rfl) (gM rfl (gE (gBk (gNf hm (λaA aD=>[(0,(.slice aE s_.length aF)),(1,(nV v_)),(7,(nV ((s_.length : Int)))),(8,(nV aA))]) (λaA aD=>[]) [] rfl ?_ ?_))))
  ·repeat clear hm
   intro aO aG aA aD w hm aP aQ aR aH
   refine gS (gR (gB rfl (gE (gS (go _ 9 rfl (decide_eq_true (by omega)) (gct rfl (gSk (gS (gBk (gS (gR (gM rfl (gA rfl (gE (gS (gR (gM rfl (gM rfl (gM rfl (gg λaJ aL aC=>?_))))))))))))))))))))
   obtain ⟨aS,aT,aV,he⟩ := idx_form h1 aC
   obtain ⟨rfl,_,rfl⟩ := sl3 he
   refine gI st_47 aL (idx_lt aC) rfl (gY (yl isAgg3 ((flat_cells (cs := [nV aJ]) (hm.now h1) aC rfl).cell (j := 0) rfl) rfl) (gB rfl (gE (gsd 16 rfl (λaM=>?_) λaM=>?_))))
   ·exact gct rfl (gS (gR (gM rfl (gA rfl (gE (gRt (gLr aH aG (gr1 results154 rfl ⟨rfl,hm.below⟩))))))))
   exact gcf rfl (gSk (gR (gP (by omega) (by omega) rfl (gM rfl (gE (gze hm [] rfl))))))
  repeat clear hm
  intro aW aX w hm aY aZ
  exact gS (gR (gB rfl (gE (gS (go _ 9 rfl (decide_eq_false (by omega)) (gcf rfl (gXt (gHh (gS (gR (gA rfl (gE (gRt (gr1 results154 rfl ⟨rfl,hm.below⟩))))))))))))))
theorem slices_Contains_S_int_int_ok (w0 : World) (s_ : List Int) (v1 : Value) (h1 : GT.rep (hp w0) [v1] s_) (v_ : Int) :
    ConM Tryz.prog 96 [v1,nV v_] w0 (slices_Contains_S_int_int s_ v_) λr v w'=>v = (.bool (r)) ∧ Below w0.heap.size w0 w' := by
  unfold slices_Contains_S_int_int
  refine gcon func96 rfl λr=>?_
  have hm := Mem.start w0
  exact gS (gR (gA rfl (gE (gS (gR (gM rfl (gM rfl (gC hm rfl call154 (slices_Index_S_int_int_ok _ s_ v1 (hm.now h1) v_) λaA aC w hm=>gB rfl (gA rfl (gE (gRt (gr1 results96 rfl ⟨rfl,hm.below⟩))))))))))))
theorem impl_PredsOf_ok (w0 : World) (c_ : Code_) (v1 : Value) (h1 : GT.rep (hp w0) [v1] c_.blocks) (b_ : Int) :
    ConM Tryz.prog 60 [(.agg #[nV c_.params,nV c_.regs,v1]),nV b_] w0 (impl_PredsOf c_ b_) λr v w'=>∃ (x1 : Value),v = x1 ∧ Mem w0 (hp w0) w' [ow [x1] r] := by
  unfold impl_PredsOf
  refine gcon func60 rfl λr=>?_
  have hm := Mem.start w0
  refine gS (gR (gBx hm rfl λaf w hm=>gA rfl (gE (gS (gR (gA rfl (gE (gS (gS (gR (gM rfl (gF fo_44_2 rfl (gL hm 0 isAgg42 rfl ?_)))))))))))))
  obtain ⟨aL,aF,rfl,ah⟩ := ro_slice h1
  refine gY (yV st_42 rfl) (gY (yS (by omega) (by omega) rfl) (gC hm rfl call25 (impl_within_ok _ b_ 0 (((c_.blocks.length : Int)) - 1)) λai aj w hm=>gN rfl (gE (gsn 14 rfl (λaO=>?_) λaO=>?_))))
  ·refine gct rfl (gS (gR (gA rfl (gE (gRt ?_)))))
   replace hm := hm.nilow (α := Int)
   exact gr1 results60 rfl ⟨.slice none 0 0,rfl,hm.pk [0] rfl rfl⟩
  refine gcf rfl (gSk (gS (gS (gR (gF fo_44_2 rfl (gL hm 0 isAgg42 rfl (gY (yV st_42 rfl) (gM rfl (gE (gBk ?_))))))))))
  replace hm := hm.nilow (α := Int)
  refine gNg (λaA aM a w=>∃ (aC : Value),St 33 [(1,(nV b_)),(5,aC),(16,(.slice aL c_.blocks.length aF)),(17,(nV ((c_.blocks.length : Int)))),(18,(nV aA))] w0 (hp w0) [ow [aC] aM] a w) (λa hf=>⟨.slice none 0 0,hf.sb rfl,hm.pk [0] rfl rfl⟩) ?_ ?_
  ·repeat clear hm
   rintro _ _ aA aM a w ⟨aC,hf,hm⟩ ak al am _
   refine gv hf (gS (gR (gB rfl (gE (gS (go _ 19 rfl (decide_eq_true (by omega)) (gct rfl (gSk (gS (gJg (λaG a w=>∃ (aD : Value),St 33 [(1,(nV b_)),(5,aD),(16,(.slice aL c_.blocks.length aF)),(17,(nV ((c_.blocks.length : Int)))),(18,(nV aA))] w0 (hp w0) [ow [aD] aG] a w) (λaG=>?_) ?_))))))))))
   ·refine gBk (gS (gR (gM rfl (gg fun aP aQ aH => ?_))))
    obtain ⟨aR,aS,an,he⟩ := idx_form' h1 aH
    obtain ⟨rfl,_,rfl⟩ := sl3 he
    obtain ⟨ao,ap,aT,aV,aW,aX,aN⟩ := rk_Block_ h1 aH
    refine gI st_42 aQ (idx_lt aH) rfl (gY (yn (aV.mono hm.lez) isAgg49 sizeOf49 rfl) (gAl hm zeroValue49 rfl λaq w hm=>gA rfl (gSN hm 0 sizeOf49 (one_cons (rep_one aW) (one_cons (rep_one aX) (one_cons rfl (one_cons rfl (one_cons (rep_one aN) one_nil))))) rfl λw hm=>gE (gS (gR (gF fo_49_4 rfl (gL hm 0 isAgg47 rfl (gM rfl (gC hm rfl call96 (slices_Contains_S_int_int_ok _ aP.next_ aT (hm.now aN) b_) λar au w hm=>gE (gJg (λaJ a w=>∃ (aE : Value),St 33 [(1,(nV b_)),(5,aE),(16,(sV aR aS c_.blocks.length aF)),(17,(nV ((c_.blocks.length : Int)))),(18,(nV aA))] w0 (hp w0) [ow [aE] aJ] a w) (λaJ=>?_) ?_))))))))))
    ·refine gs 26 rfl (fun aY => ?_) fun aY => ?_
     ·refine gct rfl (gR (gM rfl (gM rfl (gf rfl (fun a hf => e_build (vs := #[(0, (nV aA))]) (cs := [nV aA]) et_47 hf hm rfl rfl (by kernel_rfl) rfl rfl) ?_))))
      rintro _ w ⟨av,rfl,hm⟩
      replace hm := hm.lit (xs := ([aA] : List Int)) 0 rfl rfl rfl rfl
      refine gb λaw aZ=>?_
      obtain ⟨aa,ab⟩ := appM_some.1 aZ
      refine gf rfl (λa hf=>e_append 2 et_47 hf hm rfl (hm.ow_rep 0 rfl) rfl rfl rfl aa) ?_
      rintro ac w hm
      rw [ab] at hm
      exact gA rfl (gE (gZ λa hf=>⟨ac,hf.sb rfl,hm.pk [2] rfl rfl⟩))
     exact gcf rfl (gSk (gZ λa hf=>⟨aC,hf.sb rfl,hm.pk [1] rfl rfl⟩))
    repeat clear hm
    rintro aJ a w ⟨aE,hf,hm⟩
    exact gv hf (gZ λa hf=>⟨aE,hf.sb rfl,hm.pk [0] rfl rfl⟩)
   repeat clear hm
   rintro aG a w ⟨aD,hf,hm⟩
   exact gv hf (gR (gP (by omega) (by omega) rfl (gM rfl (gE (gZe λa hf=>⟨aD,hf.sb rfl,hm.pk [0] rfl rfl⟩)))))
  repeat clear hm
  rintro ax ay a w ⟨ae,hf,hm⟩ az bA
  exact gv hf (gS (gR (gB rfl (gE (gS (go _ 19 rfl (decide_eq_false (by omega)) (gcf rfl (gXt (gHh (gS (gR (gM rfl (gA rfl (gE (gRt (gr1 results60 rfl ⟨ae,rfl,hm.pk [0] rfl rfl⟩))))))))))))))))
theorem impl_codeOk_4_ok (w0 : World) (r_ : Int) (c0_0_ : Code_) (v1 : Value) (h1 : GT.rep (hp w0) [v1] c0_0_.blocks) (aA : Nat) (aC : w0.heap[aA]? = some (.cells ([nV c0_0_.params, nV c0_0_.regs, v1] : List Value).toArray 44 (0, 0))) (bf0 : Nat) (hbf0 : w0.heap[bf0]? = some (.cells ([(.func (.func 104) #[] #[(pV aA)])] : List Value).toArray 124 (0, 0))) :
    ConM Tryz.prog 111 [nV r_,(pV bf0)] w0 (impl_codeOk_4 r_ c0_0_) λr v w'=>v = (.bool (r)) ∧ Below w0.heap.size w0 w' := by
  unfold impl_codeOk_4
  refine gcon func111 rfl λr=>?_
  have hm := Mem.start w0
  refine gS (gR (gA rfl (gE (gS (gR (gY (yl isAgg124 (hm.old_cell hbf0 rfl) rfl) (gM rfl (gb λaE aD=>gf rfl (λa hf=>e_callv hf rfl rfl rfl ⟨104,[(pV aA)],rfl,call104,impl_codeOk_1_ok _ r_ c0_0_ v1 (rep_later (hm.now h1) (Below.refl _ _)) aA (hm.old_later aC (Below.refl _ _)) _ aD⟩) ?_))))))))
  rintro aF w ⟨rfl,hB⟩
  replace hm := hm.below' hB; clear hB
  exact gN rfl (gA rfl (gE (gRt (gr1 results111 rfl ⟨rfl,hm.below⟩))))
theorem impl_codeOk_ok (w0 : World) (u : Unit_) (v1 : Value) (h1 : GT.rep (hp w0) [v1] u.codes) (k_ : Int) :
    ConM Tryz.prog 66 [(.agg #[v1]),nV k_] w0 (impl_codeOk u k_) λr v w'=>v = (.bool (r)) ∧ Below w0.heap.size w0 w' := by
  unfold impl_codeOk
  refine gcon func66 rfl λr=>?_
  have hm := Mem.start w0
  refine gS (gR (gBx hm rfl λaE w hm=>gBx hm rfl λaF w hm=>gA rfl (gE (gS (gR (gF fo_28_0 rfl (gL hm 1 isAgg26 rfl (gL hm 0 isAgg3 rfl (gg λaA au ab=>?_)))))))))
  obtain ⟨aO,aP,aQ,he⟩ := idx_form' h1 ab
  subst he
  obtain ⟨av,aw,aN⟩ := rk_Code_ h1 ab
  refine gI st_26 au (idx_lt ab) rfl (gY (yn (aw.mono hm.lez) isAgg44 sizeOf44 rfl) (gAl hm zeroValue44 rfl λaC w hm=>gSN hm 0 sizeOf44 (one_cons rfl (one_cons rfl (one_cons (rep_one aN) one_nil))) rfl λw hm=>gE (gS (gS (gJ hm (λaS=>[(2,(pV aE)),(3,(pV aF)),(5,(pV aC)),(36,(.bool (aS)))]) (λaS=>[blk aE [sV aO aP u.codes.length aQ] 28,blk aF [nV k_] 3,blk aC [nV aA.params,nV aA.regs,av] 44]) (λaS=>?_) ?_)))))
  ·refine gR (gF fo_44_1 rfl (gL hm 0 isAgg3 rfl (gC hm rfl call25 (impl_within_ok _ aA.regs 0 300) fun bd be w hm => gN rfl (gM rfl (gsn 21 rfl (fun ax => ?_) fun ax => ?_)))))
   ·exact gO rfl (gO rfl (gO rfl (gO rfl (gO rfl (gO rfl (gO rfl (gKt rfl (gM rfl (gO rfl (gO rfl (gO rfl (gO rfl (gO rfl (gKt rfl (gE (gz hm [2,1,0] rfl))))))))))))))))
   refine gF fo_44_0 rfl (gL hm 0 isAgg3 rfl (gF fo_44_1 rfl (gL hm 0 isAgg3 rfl (gY (yG rfl (y_min rfl rfl rfl)) ?_))))
   have bf : minI 3 aA.regs = min 3 aA.regs := minI_eq _ _
   refine gC hm rfl call25 (impl_within_ok _ aA.params 0 (minI 3 aA.regs)) λbg bh w hm=>gN rfl (gKf rfl (gM rfl (gsn 30 rfl (λay=>?_) λay=>?_)))
   ·exact gO rfl (gO rfl (gO rfl (gO rfl (gO rfl (gKt rfl (gE (gz hm [2,1,0] rfl)))))))
   refine gF fo_44_2 rfl (gL hm 0 isAgg42 rfl ?_)
   obtain ⟨bi,bj,rfl,bk⟩ := ro_slice aN
   exact gY (yV st_42 rfl) (gC hm rfl call25 (impl_within_ok _ (aA.blocks.length : Int) 1 160) λbm bp w hm=>gN rfl (gKf rfl (gE (gz hm [2,1,0] rfl))))
  repeat clear hm
  intro aS w hm
  refine gs 36 rfl (λaz=>?_) λaz=>?_
  ·exact gct rfl (gS (gR (gA rfl (gE (gRt (gr1 results66 rfl ⟨rfl,hm.below⟩))))))
  refine gcf rfl (gSk (gS (gR (gY (yU rfl) (gAl hm zeroValue124 rfl λaH w hm=>gS1 hm 0 sizeOf124 rfl rfl λw hm=>gE (gS (gS (gR (gF fo_44_2 rfl (gL hm 3 isAgg42 rfl ?_))))))))))
  obtain ⟨am,aG,rfl,bq⟩ := ro_slice aN
  refine gY (yV st_42 rfl) (gM rfl (gE (gBk (gNf hm (λaM an=>[(2,(pV aE)),(3,(pV aF)),(5,(pV aC)),(6,(pV aH)),(39,(.slice am aA.blocks.length aG)),(40,(nV ((aA.blocks.length : Int)))),(41,(nV aM))]) (λaM an=>[blk aE [sV aO aP u.codes.length aQ] 28,blk aF [nV k_] 3,blk aC [nV aA.params,nV aA.regs,.slice am aA.blocks.length aG] 44,blk aH [(.func (.func 104) #[] #[(pV aC)])] 124]) [1,2,3,0] rfl ?_ ?_))))
  ·repeat clear hm
   intro br ac aM an w hm bs bt bu ae
   refine gS (gR (gB rfl (gE (gS (go _ 42 rfl (decide_eq_true (by omega)) (gct rfl (gSk (gS (gBk (gS (gR (gM rfl (gg λaD bA af=>?_)))))))))))))
   obtain ⟨aJ,aL,bv,he⟩ := idx_form' aN af
   obtain ⟨rfl,_,rfl⟩ := sl3 he
   obtain ⟨ah,aT,aV,bB,aW,ao,ai⟩ := rk_Block_ aN af
   refine gI st_42 bA (idx_lt af) rfl (gY (yn (bB.mono hm.lez) isAgg49 sizeOf49 rfl) (gAl hm zeroValue49 rfl λaR w hm=>gA rfl (gSN hm 0 sizeOf49 (one_cons (rep_one aW) (one_cons (rep_one ao) (one_cons rfl (one_cons rfl (one_cons (rep_one ai) one_nil))))) rfl λw hm=>gE (gS (gS (gJ hm (λaX=>[(2,(pV aE)),(3,(pV aF)),(5,(pV aC)),(6,(pV aH)),(7,(nV aM)),(8,(pV aR)),(39,(sV aJ aL aA.blocks.length aG)),(40,(nV ((aA.blocks.length : Int)))),(41,(nV aM)),(75,(.bool (aX)))]) (λaX=>[blk aE [sV aO aP u.codes.length aQ] 28,blk aF [nV k_] 3,blk aC [nV aA.params,nV aA.regs,sV aJ aL aA.blocks.length aG] 44,blk aH [(.func (.func 104) #[] #[(pV aC)])] 124,blk aR [ah,aT,nV aD.jump,nV aD.on,aV] 49]) (λaX=>?_) ?_))))))
   ·refine gW (.p 0 (.p 3 (.q 1 (.p 2 (.e 4 (.e 5 (.p 6 (.p 7 (.p 8 (.e 9 (.e 10 (.p 11 (.p 13 (.q 12 (.e 14 (.e 15 (.p 16 (.p 17 (.p 18 (.p 19 (.p 20 (.e 21 (.e 22 (.p 23 (.p 24 (.p 25 (.e 26 (.p 27 (.p 28 (.p 29 .fin))) .nil)))) .nil) .nil)))))) .nil) .nil)))) .nil) .nil)))) .nil) .nil))))) [4, 5, 14] [0, 2, 3, 6, 7, 8, 11, 13, 16, 17, 18, 19, 20, 23, 24, 25, 27, 28, 29] hm [0, 1, 2, 3, 4] [blk aR [ah, aT, nV aD.jump, nV aD.on, aV] 49, blk aE [sV aO aP u.codes.length aQ] 28, blk aF [nV k_] 3, blk aC [nV aA.params, nV aA.regs, sV aJ aL aA.blocks.length aG] 44, blk aH [(.func (.func 104) #[] #[(pV aC)])] 124] rfl mxo (by kernel_rfl) (fun _ _ _ h => h.2) fun w hm hS => tP rfl (fun w => yF fo_49_4 rfl) (tP rfl (fun w => yF fo_49_2 rfl) (tQ rfl hS (fun w hm => yL hm 0 isAgg47 rfl) ?_))
    obtain ⟨bx,bz,rfl,cA⟩ := ro_slice ai
    refine tP rfl (λw=>yV st_47 rfl) (tO (tY rfl (yL hm 0 isAgg3 rfl) (tAs hS (tO (gb λcB bC=>tf rfl rfl (λa hf=>e_call hf rfl call105 rfl (impl_nextCount_ok _ aD.jump _ bC)) ?_)))))
    rintro cC w ⟨rfl,hB⟩
    replace hm := hm.below' hB; clear hB
    refine tAk hm [0,1,2,3,4] rfl λhS=>tP rfl (λw=>yB rfl) (tP rfl (λw=>yM rfl) (gsd 53 rfl (λbD=>?_) λbD=>?_))
    ·refine tPo rfl rfl (tO (tEo rfl rfl (tAn rfl (tO (tEo rfl rfl (tAn rfl (tPo rfl rfl (tPo rfl rfl (tQo rfl hS rfl (tO (tEo rfl rfl (tAs hS (tO (tEo rfl rfl (tAn rfl (tPo rfl rfl (tPo rfl rfl (tP rfl (fun w => yKt rfl) (tP rfl (fun w => yM rfl) (tPo rfl rfl (tO (tEo rfl rfl (tAn rfl (tO (tEo rfl rfl (tAn rfl (tPo rfl rfl (tPo rfl rfl (tPo rfl rfl (tO ?_))))))))))))))))))))))))))))))
     exact tEo rfl rfl (tAn rfl (tPo rfl rfl (tPo rfl rfl (tP rfl (λw=>yKt rfl) (tE (gz hm [1,2,3,4,0] rfl))))))
    refine tP rfl (λw=>yF fo_49_2 rfl) (tO (tY rfl (yL hm 0 isAgg3 rfl) (tAn rfl (tO (gb λcD bE=>tf rfl rfl (λa hf=>e_call hf rfl call93 rfl (impl_usesOn_ok _ aD.jump _ bE)) ?_)))))
    rintro cE w ⟨rfl,hB⟩
    replace hm := hm.below' hB; clear hB
    refine tAk hm [0,1,2,3,4] rfl λhS=>tP rfl (λw=>yM rfl) (gs 57 rfl (λbF=>?_) λbF=>?_)
    ·refine tP rfl (fun w => yF fo_49_3 rfl) (tQ rfl hS (fun w hm => yL hm 4 isAgg124 rfl) (tO (tY rfl (yL hm 0 isAgg3 rfl) (tAs hS (tO (gb fun cF bG => tf rfl rfl (fun a hf => e_callv hf rfl rfl rfl ⟨104, [(pV aC)], rfl, call104, impl_codeOk_1_ok _ aD.on aA (sV aJ aL aA.blocks.length aG) (rep_later (hm.now aN) (Below.refl _ _)) aC (hm.blk_later 3 rfl (Below.refl _ _)) _ bG⟩) ?_))))))
     rintro cG w ⟨rfl,hB⟩
     replace hm := hm.below' hB; clear hB
     refine tAn rfl (tP rfl (λw=>yN rfl) (tP rfl (λw=>yKt rfl) (tP rfl (λw=>yKf rfl) (tP rfl (λw=>yM rfl) (gsn 65 rfl (λbH=>?_) λbH=>?_)))))
     ·exact tPo rfl rfl (tO (tEo rfl rfl (tAn rfl (tO (tEo rfl rfl (tAn rfl (tPo rfl rfl (tPo rfl rfl (tPo rfl rfl (tO (tEo rfl rfl (tAn rfl (tPo rfl rfl (tPo rfl rfl (tP rfl (λw=>yKt rfl) (tE (gz hm [1,2,3,4,0] rfl)))))))))))))))))
     refine tP rfl (λw=>yF fo_49_2 rfl) (tO (tY rfl (yL hm 0 isAgg3 rfl) (tAn rfl (tO (gb λcH bJ=>tf rfl rfl (λa hf=>e_call hf rfl call93 rfl (impl_usesOn_ok _ aD.jump _ bJ)) ?_)))))
     rintro cI w ⟨rfl,hB⟩
     replace hm := hm.below' hB; clear hB
     refine tAn rfl (tP rfl (λw=>yN rfl) (tP rfl (λw=>yM rfl) (gsn 70 rfl (λbK=>?_) λbK=>?_)))
     ·exact tP rfl (λw=>yF fo_49_3 rfl) (tO (tY rfl (yL hm 0 isAgg3 rfl) (tAn rfl (tP rfl (λw=>yB rfl) (tP rfl (λw=>yKt rfl) (tP rfl (λw=>yKf rfl) (tE (gz hm [1,2,3,4,0] rfl))))))))
     exact tPo rfl rfl (tO (tEo rfl rfl (tAn rfl (tPo rfl rfl (tP rfl (λw=>yKf rfl) (tP rfl (λw=>yKf rfl) (tE (gz hm [1,2,3,4,0] rfl))))))))
    refine tPo rfl rfl (tQo rfl hS rfl (tO (tEo rfl rfl (tAs hS (tO (tEo rfl rfl (tAn rfl (tPo rfl rfl (tP rfl (λw=>yKf rfl) (tP rfl (λw=>yKf rfl) (tP rfl (λw=>yM rfl) (tP rfl (λw=>yF fo_49_2 rfl) (tO (tY rfl (yL hm 0 isAgg3 rfl) (tAn rfl (tO (gb λcJ bL=>tf rfl rfl (λa hf=>e_call hf rfl call93 rfl (impl_usesOn_ok _ aD.jump _ bL)) ?_)))))))))))))))))
    rintro cK w ⟨rfl,hB⟩
    replace hm := hm.below' hB; clear hB
    refine tAn rfl (tP rfl (λw=>yN rfl) (tP rfl (λw=>yM rfl) (gsn 70 rfl (λbM=>?_) λbM=>?_)))
    ·exact tP rfl (λw=>yF fo_49_3 rfl) (tO (tY rfl (yL hm 0 isAgg3 rfl) (tAn rfl (tP rfl (λw=>yB rfl) (tP rfl (λw=>yKt rfl) (tP rfl (λw=>yKf rfl) (tE (gz hm [1,2,3,4,0] rfl))))))))
    exact tPo rfl rfl (tO (tEo rfl rfl (tAn rfl (tPo rfl rfl (tP rfl (λw=>yKf rfl) (tP rfl (λw=>yKf rfl) (tE (gz hm [1,2,3,4,0] rfl))))))))
   repeat clear hm
   intro aX w hm
   refine gs 75 rfl (λbN=>?_) λbN=>?_
   ·exact gct rfl (gS (gR (gA rfl (gE (gRt (gLr ae ac (gr1 results66 rfl ⟨rfl,hm.below⟩)))))))
   refine gcf rfl (gSk (gS (gS (gJ hm (λaY=>[(2,(pV aE)),(3,(pV aF)),(5,(pV aC)),(6,(pV aH)),(7,(nV aM)),(8,(pV aR)),(39,(sV aJ aL aA.blocks.length aG)),(40,(nV ((aA.blocks.length : Int)))),(41,(nV aM)),(85,(.bool (aY)))]) (λaY=>[blk aE [sV aO aP u.codes.length aQ] 28,blk aF [nV k_] 3,blk aC [nV aA.params,nV aA.regs,sV aJ aL aA.blocks.length aG] 44,blk aH [(.func (.func 104) #[] #[(pV aC)])] 124,blk aR [ah,aT,nV aD.jump,nV aD.on,aV] 49]) (λaY=>?_) ?_))))
   ·refine gR (gF fo_49_4 rfl (gL hm 4 isAgg47 rfl (gY (yU rfl) (gC hm rfl call106 (slices_ContainsFunc_S_int_int_ok _ aD.next_ aV (hm.now ai) (fun y0 => impl_codeOk_2 y0 aA) (.func (.func 107) #[] #[(pV aC)]) (fun w y0 r hB hq => ⟨107, [(pV aC)], rfl, call107, impl_codeOk_2_ok w y0 aA (sV aJ aL aA.blocks.length aG) (rep_later (hm.now aN) hB) aC (hm.blk_later 2 rfl hB) r hq⟩)) fun cL cM w hm => gM rfl (gs 80 rfl (fun bO => ?_) fun bO => ?_)))))
    ·exact gO rfl (gO rfl (gO rfl (gO rfl (gKt rfl (gE (gz hm [0,1,2,3,4] rfl))))))
    exact gF fo_49_1 rfl (gL hm 4 isAgg46 rfl (gY (yU rfl) (gC hm rfl call108 (slices_ContainsFunc_S_impl_Ins_impl_Ins_ok _ aD.ins aT (hm.now ao) (λy0=>impl_codeOk_3 y0 u k_) (.func (.func 109) #[] #[(pV aE),(pV aF)]) (λw y0 bP bQ r hB hq=>⟨109,[(pV aE),(pV aF)],rfl,call109,impl_codeOk_3_ok w y0 bP bQ u (sV aO aP u.codes.length aQ) (rep_later (hm.now h1) hB) aE (hm.blk_later 0 rfl hB) k_ aF (hm.blk_later 1 rfl hB) r hq⟩)) λcN cO w hm=>gKf rfl (gE (gz hm [0,1,2,3,4] rfl)))))
   repeat clear hm
   intro aY w hm
   refine gs 85 rfl (λbR=>?_) λbR=>?_
   ·exact gct rfl (gS (gR (gA rfl (gE (gRt (gLr ae ac (gr1 results66 rfl ⟨rfl,hm.below⟩)))))))
   refine gcf rfl (gSk (gS (gR (gY (yn (hm.blk_at 2 rfl) isAgg44 sizeOf44 rfl) (gM rfl (gCg rfl call60 (impl_PredsOf_ok _ aA (sV aJ aL aA.blocks.length aG) (hm.now aN) aM) ?_))))))
   rintro ap cP cQ w ⟨_,rfl,hB⟩
   replace hm := hm.give hB; clear hB
   obtain ⟨cR,cS,rfl,cT⟩ := ro_slice (hm.ow_rep 0 rfl)
   refine gY (yV st_47 rfl) (gA rfl (gE (gS (gR (gF fo_49_0 rfl (gL hm 5 isAgg45 rfl ?_))))))
   obtain ⟨bS,aq,rfl,cU⟩ := ro_slice aW
   refine gY (yV st_45 rfl) (gM rfl (gE (gBk (gNf hm (λaZ ar=>[(2,(pV aE)),(3,(pV aF)),(5,(pV aC)),(6,(pV aH)),(7,(nV aM)),(9,(nV ((ap.length : Int)))),(39,(sV aJ aL aA.blocks.length aG)),(40,(nV ((aA.blocks.length : Int)))),(41,(nV aM)),(91,(.slice bS aD.phis.length aq)),(92,(nV ((aD.phis.length : Int)))),(93,(nV aZ))]) (λaZ ar=>[blk aE [sV aO aP u.codes.length aQ] 28,blk aF [nV k_] 3,blk aC [nV aA.params,nV aA.regs,sV aJ aL aA.blocks.length aG] 44,blk aH [(.func (.func 104) #[] #[(pV aC)])] 124]) [1,2,3,4] rfl ?_ ?_))))
   ·repeat clear hm
    intro cV bT aZ ar w hm cW cX cY bU
    refine gS (gR (gB rfl (gE (gS (go _ 94 rfl (decide_eq_true (by omega)) (gct rfl (gSk (gS (gBk (gS (gR (gg λaj bV ak=>?_))))))))))))
    obtain ⟨bW,bX,cZ,he⟩ := idx_form' aW ak
    obtain ⟨rfl,_,rfl⟩ := sl3 he
    obtain ⟨c4,bY,al⟩ := rk_Phi_ aW ak
    refine gI st_45 bV (idx_lt ak) rfl (gY (yn (bY.mono hm.lez) isAgg105 sizeOf105 rfl) (gAl hm zeroValue105 rfl λc5 w hm=>gSN hm 0 sizeOf105 (one_cons rfl (one_cons (rep_one al) one_nil)) rfl λw hm=>gE (gS (gJ hm (λaa=>[(2,(pV aE)),(3,(pV aF)),(5,(pV aC)),(6,(pV aH)),(7,(nV aM)),(9,(nV ((ap.length : Int)))),(39,(sV aJ aL aA.blocks.length aG)),(40,(nV ((aA.blocks.length : Int)))),(41,(nV aM)),(91,(sV bW bX aD.phis.length aq)),(92,(nV ((aD.phis.length : Int)))),(93,(nV aZ)),(118,(.bool (aa)))]) (λaa=>[blk aE [sV aO aP u.codes.length aQ] 28,blk aF [nV k_] 3,blk aC [nV aA.params,nV aA.regs,sV aJ aL aA.blocks.length aG] 44,blk aH [(.func (.func 104) #[] #[(pV aC)])] 124]) (λaa=>?_) ?_))))
    ·refine gR (gM rfl (gB rfl (gM rfl (gsd 99 rfl (fun bZ => ?_) fun bZ => ?_))))
     ·exact gO rfl (gO rfl (gO rfl (gO rfl (gO rfl (gKt rfl (gM rfl (gO rfl (gO rfl (gO rfl (gO rfl (gO rfl (gKt rfl (gM rfl (gO rfl (gO rfl (gO rfl (gO rfl (gKt rfl (gE (gz hm [1,2,3,4] rfl))))))))))))))))))))
     refine gL hm 4 isAgg124 rfl (gF fo_105_0 rfl (gL hm 0 isAgg3 rfl (gb λc6 b6=>gf rfl (λa hf=>e_callv hf rfl rfl rfl ⟨104,[(pV aC)],rfl,call104,impl_codeOk_1_ok _ aj.to aA (sV aJ aL aA.blocks.length aG) (rep_later (hm.now aN) (Below.refl _ _)) aC (hm.blk_later 3 rfl (Below.refl _ _)) _ b6⟩) ?_)))
     rintro c7 w ⟨rfl,hB⟩
     replace hm := hm.below' hB; clear hB
     refine gN rfl (gKf rfl (gM rfl (gsn 106 rfl (λb7=>?_) λb7=>?_)))
     ·exact gO rfl (gO rfl (gO rfl (gO rfl (gO rfl (gKt rfl (gM rfl (gO rfl (gO rfl (gO rfl (gO rfl (gKt rfl (gE (gz hm [1,2,3,4] rfl)))))))))))))
     refine gF fo_105_1 rfl (gL hm 0 isAgg47 rfl ?_)
     obtain ⟨b8,b9,rfl,c8⟩ := ro_slice al
     refine gY (yV st_47 rfl) (gM rfl (gB rfl (gKf rfl (gM rfl (gsd 113 rfl (λba=>?_) λba=>?_)))))
     ·exact gO rfl (gO rfl (gO rfl (gO rfl (gKt rfl (gE (gz hm [1,2,3,4] rfl))))))
     exact gF fo_105_1 rfl (gL hm 0 isAgg47 rfl (gY (yU rfl) (gC hm rfl call106 (slices_ContainsFunc_S_int_int_ok _ aj.args (.slice b8 aj.args.length b9) (hm.now al) (λy0=>impl_codeOk_4 y0 aA) (.func (.func 111) #[] #[(pV aH)]) (λw y0 r hB hq=>⟨111,[(pV aH)],rfl,call111,impl_codeOk_4_ok w y0 aA (sV aJ aL aA.blocks.length aG) (rep_later (hm.now aN) hB) aC (hm.blk_later 3 rfl hB) aH (hm.blk_later 4 rfl hB) r hq⟩)) λc9 ca w hm=>gKf rfl (gE (gz hm [1,2,3,4] rfl)))))
    repeat clear hm
    intro aa w hm
    refine gs 118 rfl (λbc=>?_) λbc=>?_
    ·exact gct rfl (gS (gR (gA rfl (gE (gRt (gLr bU bT (gLr ae ac (gr1 results66 rfl ⟨rfl,hm.below⟩))))))))
    exact gcf rfl (gSk (gR (gP (by omega) (by omega) rfl (gM rfl (gE (gze hm [0,1,2,3] rfl))))))
   repeat clear hm
   intro cb cd w hm ce cf
   exact gS (gR (gB rfl (gE (gS (go _ 94 rfl (decide_eq_false (by omega)) (gcf rfl (gXt (gHh (gR (gP (by omega) (by omega) rfl (gM rfl (gE (gze hm [0,1,2,3] rfl)))))))))))))
  repeat clear hm
  intro cg ci w hm cj ck
  exact gS (gR (gB rfl (gE (gS (go _ 42 rfl (decide_eq_false (by omega)) (gcf rfl (gXt (gHh (gS (gR (gA rfl (gE (gRt (gr1 results66 rfl ⟨rfl,hm.below⟩))))))))))))))
theorem impl_codeCount_ok (w0 : World) (c_ : Code_) (v1 : Value) (h1 : GT.rep (hp w0) [v1] c_.blocks) :
    ConM Tryz.prog 38 [(.agg #[nV c_.params,nV c_.regs,v1])] w0 (impl_codeCount c_) λr v w'=>v = (nV r) ∧ Below w0.heap.size w0 w' := by
  unfold impl_codeCount
  refine gcon func38 rfl λr=>?_
  have hm := Mem.start w0
  refine gS (gR (gBx hm rfl λaN w hm=>gA rfl (gE (gS (gR (gA rfl (gE (gS (gS (gR (gF fo_44_2 rfl (gL hm 0 isAgg42 rfl ?_))))))))))))
  obtain ⟨aG,aH,rfl,aO⟩ := ro_slice h1
  refine gY (yV st_42 rfl) (gM rfl (gE (gBk (gNf hm (λaA aC=>[(3,(nV aC)),(7,(.slice aG c_.blocks.length aH)),(8,(nV ((c_.blocks.length : Int)))),(9,(nV aA))]) (λaA aC=>[]) [] rfl ?_ ?_))))
  ·repeat clear hm
   intro _ _ aA aC w hm aP aQ aR _
   refine gS (gR (gB rfl (gE (gS (go _ 10 rfl (decide_eq_true (by omega)) (gct rfl (gSk (gS (gBk (gS (gR (gg λaS aJ aD=>?_))))))))))))
   obtain ⟨aT,aV,aW,he⟩ := idx_form' h1 aD
   obtain ⟨rfl,_,rfl⟩ := sl3 he
   obtain ⟨aX,aY,aZ,aL,aE,aF,aM⟩ := rk_Block_ h1 aD
   refine gI st_42 aJ (idx_lt aD) rfl (gY (yn (aL.mono hm.lez) isAgg49 sizeOf49 rfl) (gAl hm zeroValue49 rfl λaa w hm=>gSN hm 0 sizeOf49 (one_cons (rep_one aE) (one_cons (rep_one aF) (one_cons rfl (one_cons rfl (one_cons (rep_one aM) one_nil))))) rfl λw hm=>gE (gR (gM rfl (gF fo_49_0 rfl (gL hm 0 isAgg45 rfl ?_))))))
   obtain ⟨ab,ac,rfl,ae⟩ := ro_slice aE
   refine gY (yV st_45 rfl) (gF fo_49_1 rfl (gL hm 0 isAgg46 rfl ?_))
   obtain ⟨af,ah,rfl,ai⟩ := ro_slice aF
   exact gY (yV st_46 rfl) (gP (by omega) (by omega) rfl (gB rfl (gA rfl (gE (gR (gP (by omega) (by omega) rfl (gM rfl (gE (gze hm [] rfl)))))))))
  repeat clear hm
  intro aj ak w hm al am
  exact gS (gR (gB rfl (gE (gS (go _ 10 rfl (decide_eq_false (by omega)) (gcf rfl (gXt (gHh (gS (gR (gM rfl (gA rfl (gE (gRt (gr1 results38 rfl ⟨rfl,hm.below⟩)))))))))))))))
theorem impl_UnitValid_ok (w0 : World) (u : Unit_) (v1 : Value) (h1 : GT.rep (hp w0) [v1] u.codes) :
    ConM Tryz.prog 34 [(.agg #[v1])] w0 (impl_UnitValid u) λr v w'=>v = (.bool (r)) ∧ Below w0.heap.size w0 w' := by
  unfold impl_UnitValid
  refine gcon func34 rfl λr=>?_
  have hm := Mem.start w0
  refine gS (gR (gBx hm rfl λaF w hm=>gA rfl (gE (gS (gS (gR (gF fo_28_0 rfl (gL hm 0 isAgg26 rfl ?_))))))))
  obtain ⟨aG,aC,rfl,aV⟩ := ro_slice h1
  refine gY (yV st_26 rfl) (gC hm rfl call25 (impl_within_ok _ (u.codes.length : Int) 1 4) λaW aX w hm=>gN rfl (gE (gsn 10 rfl (λaJ=>?_) λaJ=>?_)))
  ·exact gct rfl (gS (gR (gA rfl (gE (gRt (gr1 results34 rfl ⟨rfl,hm.below⟩))))))
  refine gcf rfl (gSk (gS (gR (gA rfl (gE (gS (gS (gR (gF fo_28_0 rfl (gL hm 0 isAgg26 rfl (gY (yV st_26 rfl) (gM rfl (gE (gBk (gNf hm (λaA aD=>[(1,(pV aF)),(3,(nV aD)),(12,(.slice aG u.codes.length aC)),(13,(nV ((u.codes.length : Int)))),(14,(nV aA))]) (λaA aD=>[blk aF [.slice aG u.codes.length aC] 28]) [0] rfl ?_ ?_)))))))))))))))
  ·repeat clear hm
   intro aY aL aA aD w hm aZ aa ab aM
   refine gS (gR (gB rfl (gE (gS (go _ 15 rfl (decide_eq_true (by omega)) (gct rfl (gSk (gS (gBk (gS (gR (gM rfl (gg λaN aO aE=>?_)))))))))))))
   obtain ⟨aP,aQ,ac,he⟩ := idx_form' h1 aE
   obtain ⟨rfl,_,rfl⟩ := sl3 he
   obtain ⟨aR,aS,aH⟩ := rk_Code_ h1 aE
   refine gI st_26 aO (idx_lt aE) rfl (gY (yn (aS.mono hm.lez) isAgg44 sizeOf44 rfl) (gAl hm zeroValue44 rfl λae w hm=>gA rfl (gSN hm 0 sizeOf44 (one_cons rfl (one_cons rfl (one_cons (rep_one aH) one_nil))) rfl λw hm=>gE (gS (gS (gR (gY (yn (hm.blk_at 1 rfl) isAgg28 sizeOf28 rfl) (gM rfl (gC hm rfl call66 (impl_codeOk_ok _ u (sV aP aQ u.codes.length aC) (hm.now h1) aA) λaf ah w hm=>gN rfl (gE (gsn 22 rfl (λaT=>?_) λaT=>?_)))))))))))
   ·exact gct rfl (gS (gR (gA rfl (gE (gRt (gLr aM aL (gr1 results34 rfl ⟨rfl,hm.below⟩)))))))
   exact gcf rfl (gSk (gR (gM rfl (gY (yn (hm.blk_at 0 rfl) isAgg44 sizeOf44 rfl) (gC hm rfl call38 (impl_codeCount_ok _ aN aR (hm.now aH)) λai aj w hm=>gB rfl (gA rfl (gE (gR (gP (by omega) (by omega) rfl (gM rfl (gE (gze hm [1] rfl))))))))))))
  repeat clear hm
  intro ak al w hm am an
  exact gS (gR (gB rfl (gE (gS (go _ 15 rfl (decide_eq_false (by omega)) (gcf rfl (gXt (gHh (gS (gR (gM rfl (gB rfl (gA rfl (gE (gRt (gr1 results34 rfl ⟨rfl,hm.below⟩))))))))))))))))
theorem impl_codeAt_ok (w0 : World) (u : Unit_) (v1 : Value) (h1 : GT.rep (hp w0) [v1] u.codes) (k_ : Int) :
    ConM Tryz.prog 24 [(.agg #[v1]),nV k_] w0 (impl_codeAt u k_) λr v w'=>v = (.bool (r)) ∧ Below w0.heap.size w0 w' := by
  unfold impl_codeAt
  refine gcon func24 rfl λr=>?_
  have hm := Mem.start w0
  refine gS (gR (gBx hm rfl λaD w hm=>gA rfl (gE (gS (gJ hm (λaA=>[(4,(.bool (aA)))]) (λaA=>[]) (λaA=>?_) ?_)))))
  ·refine gR (gY (yn (hm.blk_at 0 rfl) isAgg28 sizeOf28 rfl) (gC hm rfl call34 (impl_UnitValid_ok _ u v1 (hm.now h1)) fun aE aF w hm => gM rfl (gs 7 rfl (fun aC => ?_) fun aC => ?_)))
   ·refine gM rfl (gF fo_28_0 rfl (gL hm 0 isAgg26 rfl ?_))
    obtain ⟨aG,aH,rfl,aJ⟩ := ro_slice h1
    exact gY (yV st_26 rfl) (gY (yS (by omega) (by omega) rfl) (gC hm rfl call25 (impl_within_ok _ k_ 0 (((u.codes.length : Int)) - 1)) λaL aM w hm=>gKt rfl (gA rfl (gE (gz hm [] rfl)))))
   exact gO rfl (gO rfl (gO rfl (gO rfl (gO rfl (gO rfl (gKf rfl (gA rfl (gE (gz hm [] rfl)))))))))
  repeat clear hm
  intro aA w hm
  exact gRt (gr1 results24 rfl ⟨rfl,hm.below⟩)
theorem impl_mapped_impl_Code_impl_Code_ok (w0 : World) (list : List Code_) (v1 : Value) (h1 : GT.rep (hp w0) [v1] list) (f : Code_ → Option Code_) (fv1 : Value) (hfn1 : ∀ (w : World) (y0 : Code_) (z1 : Value) (_ : GT.rep (hp w) [z1] y0.blocks) (r : Code_), Below w0.heap.size w0 w → f y0 = some r → FnOk Tryz.prog fv1 [(.agg #[nV y0.params, nV y0.regs, z1])] w (fun v w' => ∃ (x1 : Value), v = (.agg #[nV r.params, nV r.regs, x1]) ∧ Mem w (hp w) w' [ow [x1] r.blocks])) :
    ConM Tryz.prog 41 [v1,fv1] w0 (impl_mapped_impl_Code_impl_Code list f) λr v w'=>∃ (x1 : Value),v = x1 ∧ Mem w0 (hp w0) w' [ow [x1] r] := by
  unfold impl_mapped_impl_Code_impl_Code
  refine gcon func41 rfl λr=>?_
  have hm := Mem.start w0
  refine gS (gR (gA rfl (gE (gS (gR (gA rfl (gE (gS (gS (gR (gM rfl ?_)))))))))))
  obtain ⟨aO,aP,rfl,aZ⟩ := ro_slice h1
  refine gY (yV st_26 rfl) (gM rfl (gE (gBk ?_)))
  replace hm := hm.nilow (α := Code_)
  refine gNg (λaM aD a w=>∃ (aE : Value),St 22 [(1,fv1),(5,aE),(8,(.slice aO list.length aP)),(9,(nV ((list.length : Int)))),(10,(nV aM))] w0 (hp w0) [ow [aE] aD] a w) (λa hf=>⟨.slice none 0 0,hf.sb rfl,hm.pk [0] rfl rfl⟩) ?_ ?_
  ·repeat clear hm
   rintro _ _ aM aD a w ⟨aE,hf,hm⟩ aa ab ac _
   refine gv hf (gS (gR (gB rfl (gE (gS (go _ 11 rfl (decide_eq_true (by omega)) (gct rfl (gSk (gS (gBk (gS (gR (gg λaC aQ aL=>?_)))))))))))))
   obtain ⟨ae,af,ah,he⟩ := idx_form' h1 aL
   obtain ⟨rfl,_,rfl⟩ := sl3 he
   obtain ⟨aG,aR,aN⟩ := rk_Code_ h1 aL
   refine gI st_26 aQ (idx_lt aL) rfl (gY (yn (aR.mono hm.lez) isAgg44 sizeOf44 rfl) (gAl hm zeroValue44 rfl λaH w hm=>gSN hm 0 sizeOf44 (one_cons rfl (one_cons rfl (one_cons (rep_one aN) one_nil))) rfl λw hm=>gE (gR (gM rfl (gM rfl (gY (yn (hm.blk_at 0 rfl) isAgg44 sizeOf44 rfl) (gb λaA aS=>gf rfl (λa hf=>e_callv hf rfl rfl rfl (hfn1 _ aC aG (hm.now aN) _ hm.below aS)) ?_)))))))
   rintro ai w ⟨aF,rfl,hB⟩
   replace hm := hm.give hB; clear hB
   refine gf rfl (λa hf=>e_build (vs := #[(0,(.agg #[nV aA.params,nV aA.regs,aF]))]) (cs := [nV aA.params,nV aA.regs,aF]) et_26 hf hm rfl rfl (by kernel_rfl) rfl rfl) ?_
   rintro _ w ⟨aJ,rfl,hm⟩
   replace hm := hm.els_nil (α := Code_)
   replace hm : Mem w0 (hp w0) _ [els [] ([] : List Code_),blk aJ [nV aA.params,nV aA.regs,aF] 44,ow [nV aA.params,nV aA.regs,aF] (aA : Code_),blk aH [nV aC.params,nV aC.regs,aG] 44,ow [aE] aD] := mk_Code_ aA.params aA.regs hm 2 rfl
   replace hm := (hm.els_cons 0 2 (by decide) rfl rfl).pk (L' := [els [nV aA.params,nV aA.regs,aF] ([aA] : List Code_),blk aJ [nV aA.params,nV aA.regs,aF] 44,blk aH [nV aC.params,nV aC.regs,aG] 44,ow [aE] aD]) [0,1,3,4] rfl rfl
   replace hm := (hm.lit_els 1 0 (by decide) rfl rfl rfl rfl).pk (L' := [ow [sV aJ 0 1 1] ([aA] : List Code_),blk aH [nV aC.params,nV aC.regs,aG] 44,ow [aE] aD]) [1,2,3] rfl rfl
   refine gb λaj aT=>?_
   obtain ⟨aV,aW⟩ := appM_some.1 aT
   replace hm := (hm.both 2 0 (by decide) rfl rfl).pk (L' := [blk aH [nV aC.params,nV aC.regs,aG] 44,both (ow [aE] aD) (ow [sV aJ 0 1 1] ([aA] : List Code_))]) [1,2] rfl rfl
   refine gf rfl (λa hf=>e_appendD (xs := aD) (ys := ([aA] : List Code_)) 1 et_26 hf hm rfl rfl rfl rfl aV) ?_
   rintro aX w hm
   rw [aW] at hm
   exact gA rfl (gE (gR (gP (by omega) (by omega) rfl (gM rfl (gE (gZe λa hf=>⟨aX,hf.sb rfl,hm.pk [1] rfl rfl⟩))))))
  repeat clear hm
  rintro ak al a w ⟨aY,hf,hm⟩ am an
  exact gv hf (gS (gR (gB rfl (gE (gS (go _ 11 rfl (decide_eq_false (by omega)) (gcf rfl (gXt (gHh (gS (gR (gM rfl (gA rfl (gE (gRt (gr1 results41 rfl ⟨aY,rfl,hm.pk [0] rfl rfl⟩))))))))))))))))
theorem impl_mapped_impl_Block_impl_Block_ok (w0 : World) (list : List Block_) (v1 : Value) (h1 : GT.rep (hp w0) [v1] list) (f : Block_ → Option Block_) (fv1 : Value) (hfn1 : ∀ (w : World) (y0 : Block_) (z1 : Value) (_ : GT.rep (hp w) [z1] y0.phis) (z2 : Value) (_ : GT.rep (hp w) [z2] y0.ins) (z3 : Value) (_ : GT.rep (hp w) [z3] y0.next_) (r : Block_), Below w0.heap.size w0 w → f y0 = some r → FnOk Tryz.prog fv1 [(.agg #[z1, z2, nV y0.jump, nV y0.on, z3])] w (fun v w' => ∃ (x1 : Value) (x2 : Value) (x3 : Value), v = (.agg #[x1, x2, nV r.jump, nV r.on, x3]) ∧ Mem w (hp w) w' [ow [x1] r.phis, ow [x2] r.ins, ow [x3] r.next_])) :
    ConM Tryz.prog 88 [v1,fv1] w0 (impl_mapped_impl_Block_impl_Block list f) λr v w'=>∃ (x1 : Value),v = x1 ∧ Mem w0 (hp w0) w' [ow [x1] r] := by
  unfold impl_mapped_impl_Block_impl_Block
  refine gcon func88 rfl λr=>?_
  have hm := Mem.start w0
  refine gS (gR (gA rfl (gE (gS (gR (gA rfl (gE (gS (gS (gR (gM rfl ?_)))))))))))
  obtain ⟨aV,aW,rfl,ah⟩ := ro_slice h1
  refine gY (yV st_42 rfl) (gM rfl (gE (gBk ?_)))
  replace hm := hm.nilow (α := Block_)
  refine gNg (λaQ aD a w=>∃ (aE : Value),St 22 [(1,fv1),(5,aE),(8,(.slice aV list.length aW)),(9,(nV ((list.length : Int)))),(10,(nV aQ))] w0 (hp w0) [ow [aE] aD] a w) (λa hf=>⟨.slice none 0 0,hf.sb rfl,hm.pk [0] rfl rfl⟩) ?_ ?_
  ·repeat clear hm
   rintro _ _ aQ aD a w ⟨aE,hf,hm⟩ ai aj ak _
   refine gv hf (gS (gR (gB rfl (gE (gS (go _ 11 rfl (decide_eq_true (by omega)) (gct rfl (gSk (gS (gBk (gS (gR (gg λaC aX aP=>?_)))))))))))))
   obtain ⟨al,am,an,he⟩ := idx_form' h1 aP
   obtain ⟨rfl,_,rfl⟩ := sl3 he
   obtain ⟨aJ,aL,aM,aY,aR,aS,aT⟩ := rk_Block_ h1 aP
   refine gI st_42 aX (idx_lt aP) rfl (gY (yn (aY.mono hm.lez) isAgg49 sizeOf49 rfl) (gAl hm zeroValue49 rfl λaN w hm=>gSN hm 0 sizeOf49 (one_cons (rep_one aR) (one_cons (rep_one aS) (one_cons rfl (one_cons rfl (one_cons (rep_one aT) one_nil))))) rfl λw hm=>gE (gR (gM rfl (gM rfl (gY (yn (hm.blk_at 0 rfl) isAgg49 sizeOf49 rfl) (gb λaA aZ=>gf rfl (λa hf=>e_callv hf rfl rfl rfl (hfn1 _ aC aJ (hm.now aR) aL (hm.now aS) aM (hm.now aT) _ hm.below aZ)) ?_)))))))
   rintro ao w ⟨aF,aG,aH,rfl,hB⟩
   replace hm := hm.give hB; clear hB
   refine gf rfl (λa hf=>e_build (vs := #[(0,(.agg #[aF,aG,nV aA.jump,nV aA.on,aH]))]) (cs := [aF,aG,nV aA.jump,nV aA.on,aH]) et_42 hf hm rfl rfl (by kernel_rfl) rfl rfl) ?_
   rintro _ w ⟨aO,rfl,hm⟩
   replace hm := hm.els_nil (α := Block_)
   replace hm := (mk_Block_ aA.jump aA.on hm 2 3 4 rfl).pk (L' := [els [] ([] : List Block_),blk aO [aF,aG,nV aA.jump,nV aA.on,aH] 49,ow [aF,aG,nV aA.jump,nV aA.on,aH] (aA : Block_),blk aN [aJ,aL,nV aC.jump,nV aC.on,aM] 49,ow [aE] aD]) [0,1,2,5,6] rfl rfl
   replace hm := (hm.els_cons 0 2 (by decide) rfl rfl).pk (L' := [els [aF,aG,nV aA.jump,nV aA.on,aH] ([aA] : List Block_),blk aO [aF,aG,nV aA.jump,nV aA.on,aH] 49,blk aN [aJ,aL,nV aC.jump,nV aC.on,aM] 49,ow [aE] aD]) [0,1,3,4] rfl rfl
   replace hm := (hm.lit_els 1 0 (by decide) rfl rfl rfl rfl).pk (L' := [ow [sV aO 0 1 1] ([aA] : List Block_),blk aN [aJ,aL,nV aC.jump,nV aC.on,aM] 49,ow [aE] aD]) [1,2,3] rfl rfl
   refine gb λap aa=>?_
   obtain ⟨ab,ac⟩ := appM_some.1 aa
   replace hm := (hm.both 2 0 (by decide) rfl rfl).pk (L' := [blk aN [aJ,aL,nV aC.jump,nV aC.on,aM] 49,both (ow [aE] aD) (ow [sV aO 0 1 1] ([aA] : List Block_))]) [1,2] rfl rfl
   refine gf rfl (λa hf=>e_appendD (xs := aD) (ys := ([aA] : List Block_)) 1 et_42 hf hm rfl rfl rfl rfl ab) ?_
   rintro ae w hm
   rw [ac] at hm
   exact gA rfl (gE (gR (gP (by omega) (by omega) rfl (gM rfl (gE (gZe λa hf=>⟨ae,hf.sb rfl,hm.pk [1] rfl rfl⟩))))))
  repeat clear hm
  rintro aq ar a w ⟨af,hf,hm⟩ au av
  exact gv hf (gS (gR (gB rfl (gE (gS (go _ 11 rfl (decide_eq_false (by omega)) (gcf rfl (gXt (gHh (gS (gR (gM rfl (gA rfl (gE (gRt (gr1 results88 rfl ⟨af,rfl,hm.pk [0] rfl rfl⟩))))))))))))))))
theorem impl_mapped_impl_Phi_impl_Phi_ok (w0 : World) (list : List Phi_) (v1 : Value) (h1 : GT.rep (hp w0) [v1] list) (f : Phi_ → Option Phi_) (fv1 : Value) (hfn1 : ∀ (w : World) (y0 : Phi_) (z1 : Value) (_ : GT.rep (hp w) [z1] y0.args) (r : Phi_), Below w0.heap.size w0 w → f y0 = some r → FnOk Tryz.prog fv1 [(.agg #[nV y0.to, z1])] w (fun v w' => ∃ (x1 : Value), v = (.agg #[nV r.to, x1]) ∧ Mem w (hp w) w' [ow [x1] r.args])) :
    ConM Tryz.prog 145 [v1,fv1] w0 (impl_mapped_impl_Phi_impl_Phi list f) λr v w'=>∃ (x1 : Value),v = x1 ∧ Mem w0 (hp w0) w' [ow [x1] r] := by
  unfold impl_mapped_impl_Phi_impl_Phi
  refine gcon func145 rfl λr=>?_
  have hm := Mem.start w0
  refine gS (gR (gA rfl (gE (gS (gR (gA rfl (gE (gS (gS (gR (gM rfl ?_)))))))))))
  obtain ⟨aO,aP,rfl,aZ⟩ := ro_slice h1
  refine gY (yV st_45 rfl) (gM rfl (gE (gBk ?_)))
  replace hm := hm.nilow (α := Phi_)
  refine gNg (λaM aC a w=>∃ (aD : Value),St 22 [(1,fv1),(5,aD),(8,(.slice aO list.length aP)),(9,(nV ((list.length : Int)))),(10,(nV aM))] w0 (hp w0) [ow [aD] aC] a w) (λa hf=>⟨.slice none 0 0,hf.sb rfl,hm.pk [0] rfl rfl⟩) ?_ ?_
  ·repeat clear hm
   rintro _ _ aM aC a w ⟨aD,hf,hm⟩ aa ab ac _
   refine gv hf (gS (gR (gB rfl (gE (gS (go _ 11 rfl (decide_eq_true (by omega)) (gct rfl (gSk (gS (gBk (gS (gR (gg λaF aQ aL=>?_)))))))))))))
   obtain ⟨ae,af,ah,he⟩ := idx_form' h1 aL
   obtain ⟨rfl,_,rfl⟩ := sl3 he
   obtain ⟨aG,aR,aN⟩ := rk_Phi_ h1 aL
   refine gI st_45 aQ (idx_lt aL) rfl (gY (yn (aR.mono hm.lez) isAgg105 sizeOf105 rfl) (gAl hm zeroValue105 rfl λaH w hm=>gSN hm 0 sizeOf105 (one_cons rfl (one_cons (rep_one aN) one_nil)) rfl λw hm=>gE (gR (gM rfl (gM rfl (gY (yn (hm.blk_at 0 rfl) isAgg105 sizeOf105 rfl) (gb λaA aS=>gf rfl (λa hf=>e_callv hf rfl rfl rfl (hfn1 _ aF aG (hm.now aN) _ hm.below aS)) ?_)))))))
   rintro ai w ⟨aE,rfl,hB⟩
   replace hm := hm.give hB; clear hB
   refine gf rfl (λa hf=>e_build (vs := #[(0,(.agg #[nV aA.to,aE]))]) (cs := [nV aA.to,aE]) et_45 hf hm rfl rfl (by kernel_rfl) rfl rfl) ?_
   rintro _ w ⟨aJ,rfl,hm⟩
   replace hm := hm.els_nil (α := Phi_)
   replace hm : Mem w0 (hp w0) _ [els [] ([] : List Phi_),blk aJ [nV aA.to,aE] 105,ow [nV aA.to,aE] (aA : Phi_),blk aH [nV aF.to,aG] 105,ow [aD] aC] := mk_Phi_ aA.to hm 2 rfl
   replace hm := (hm.els_cons 0 2 (by decide) rfl rfl).pk (L' := [els [nV aA.to,aE] ([aA] : List Phi_),blk aJ [nV aA.to,aE] 105,blk aH [nV aF.to,aG] 105,ow [aD] aC]) [0,1,3,4] rfl rfl
   replace hm := (hm.lit_els 1 0 (by decide) rfl rfl rfl rfl).pk (L' := [ow [sV aJ 0 1 1] ([aA] : List Phi_),blk aH [nV aF.to,aG] 105,ow [aD] aC]) [1,2,3] rfl rfl
   refine gb λaj aT=>?_
   obtain ⟨aV,aW⟩ := appM_some.1 aT
   replace hm := (hm.both 2 0 (by decide) rfl rfl).pk (L' := [blk aH [nV aF.to,aG] 105,both (ow [aD] aC) (ow [sV aJ 0 1 1] ([aA] : List Phi_))]) [1,2] rfl rfl
   refine gf rfl (λa hf=>e_appendD (xs := aC) (ys := ([aA] : List Phi_)) 1 et_45 hf hm rfl rfl rfl rfl aV) ?_
   rintro aX w hm
   rw [aW] at hm
   exact gA rfl (gE (gR (gP (by omega) (by omega) rfl (gM rfl (gE (gZe λa hf=>⟨aX,hf.sb rfl,hm.pk [1] rfl rfl⟩))))))
  repeat clear hm
  rintro ak al a w ⟨aY,hf,hm⟩ am an
  exact gv hf (gS (gR (gB rfl (gE (gS (go _ 11 rfl (decide_eq_false (by omega)) (gcf rfl (gXt (gHh (gS (gR (gM rfl (gA rfl (gE (gRt (gr1 results145 rfl ⟨aY,rfl,hm.pk [0] rfl rfl⟩))))))))))))))))
theorem slices_Clone_S_int_int_ok (w0 : World) (s_ : List Int) (v1 : Value) (h1 : GT.rep (hp w0) [v1] s_) :
    ConM Tryz.prog 94 [v1] w0 (slices_Clone_S_int_int s_) λr v w'=>∃ (x1 : Value),v = x1 ∧ Mem w0 (hp w0) w' [ow [x1] r] := by
  unfold slices_Clone_S_int_int
  refine gcon func94 rfl λr=>?_
  have hm := Mem.start w0
  refine gS (gR (gA rfl (gE (gS (gS (gR (gM rfl ?_)))))))
  rcases nil_or h1 with ⟨he,aA⟩ | ⟨aG,aH,he⟩
  ·subst he; subst aA
   refine gcg (m' := some ([] : List Int)) (by simp [appM]) (gY (yG rfl (y_eqnil_t st_47.und rfl rfl rfl)) (gE (gct rfl (gS (gR (gA rfl (gE (gRt ?_))))))))
   replace hm := hm.nilow (α := Int)
   exact gr1 results94 rfl ⟨.slice none 0 0,rfl,hm.pk [0] rfl rfl⟩
  subst he
  refine gY (yG rfl (y_eqnil_f st_47.und rfl rfl rfl)) (gE (gcf rfl (gSk (gS (gR (gf rfl (λa hf=>e_build0 (α := Int) et_47 hm rfl) ?_))))))
  rintro aJ w hm
  refine gM rfl (gb λaL aC=>?_)
  obtain ⟨aD,aE⟩ := appM_some.1 aC
  refine gf rfl (λa hf=>e_append 0 et_47 hf hm rfl (hm.now h1) rfl rfl rfl aD) ?_
  rintro aF w hm
  rw [aE] at hm
  exact gA rfl (gE (gRt (gr1 results94 rfl ⟨aF,rfl,hm.pk [0] rfl rfl⟩)))
theorem impl_clonePhi_ok (w0 : World) (f : Phi_) (v1 : Value) (h1 : GT.rep (hp w0) [v1] f.args) :
    ConM Tryz.prog 146 [(.agg #[nV f.to,v1])] w0 (impl_clonePhi f) λr v w'=>∃ (x1 : Value),v = (.agg #[nV r.to,x1]) ∧ Mem w0 (hp w0) w' [ow [x1] r.args] := by
  unfold impl_clonePhi
  refine gcon func146 rfl λr=>?_
  have hm := Mem.start w0
  refine gS (gR (gBx hm rfl λaE w hm=>gAl hm zeroValue105 rfl λaF w hm=>gE (gS (gW (.p 0 (.p 2 (.q 1 (.e 3 (.e 4 (.p 5 (.e 6 .fin .nil)) .nil) .nil)))) [3,4] [0,2,5] hm [0,1] [blk aF [nV 0,.slice none 0 0] 105,blk aE [nV f.to,v1] 105] rfl mxo (by kernel_rfl) (λ_ _ _ h=>h.2) λw hm hS=>tP rfl (λw=>yF fo_105_0 rfl) (tP rfl (λw=>yF fo_105_1 rfl) (tQ rfl hS (λw hm=>yL hm 1 isAgg3 rfl) (tO (tY rfl (yL hm 1 isAgg47 rfl) (tAs hS (tO (gb λaA aG=>tf rfl rfl (λa hf=>e_call hf rfl call94 rfl (slices_Clone_S_int_int_ok _ f.args v1 (hm.now h1) _ aG)) ?_)))))))))))
  rintro aH w ⟨_,rfl,hB⟩
  replace hm := hm.give hB; clear hB
  refine tAk hm [1,2] rfl λhS=>?_
  obtain ⟨aC,aD,rfl,aJ⟩ := ro_slice (hm.ow_rep 0 rfl)
  refine tP rfl (λw=>yG rfl (y_build (vs := [(0,(nV f.to)),(1,(.slice aC aA.length aD))]) (cs := #[nV f.to,.slice aC aA.length aD]) rfl rfl (by kernel_rfl))) (tO (tf0 rfl rfl (λa hf=>e_storeN 1 hf hm rfl sizeOf105 rfl rfl rfl (one_cons rfl (one_cons rfl one_nil)) rfl rfl) ?_))
  rintro _ w hm
  exact tAn rfl (tE (gRt (grc 1 results146 hm rfl isAgg105 sizeOf105 ⟨.slice aC aA.length aD,rfl,hm.pk [0] rfl rfl⟩)))
theorem impl_mapped_impl_Ins_impl_Ins_ok (w0 : World) (list : List Ins_) (v1 : Value) (h1 : GT.rep (hp w0) [v1] list) (f : Ins_ → Option Ins_) (fv1 : Value) (hfn1 : ∀ (w : World) (y0 : Ins_) (z1 : Value) (_ : GT.rep (hp w) [z1] y0.args) (r : Ins_), Below w0.heap.size w0 w → f y0 = some r → FnOk Tryz.prog fv1 [(.agg #[nV y0.op, nV y0.to, z1, nV y0.n_])] w (fun v w' => ∃ (x1 : Value), v = (.agg #[nV r.op, nV r.to, x1, nV r.n_]) ∧ Mem w (hp w) w' [ow [x1] r.args])) :
    ConM Tryz.prog 147 [v1,fv1] w0 (impl_mapped_impl_Ins_impl_Ins list f) λr v w'=>∃ (x1 : Value),v = x1 ∧ Mem w0 (hp w0) w' [ow [x1] r] := by
  unfold impl_mapped_impl_Ins_impl_Ins
  refine gcon func147 rfl λr=>?_
  have hm := Mem.start w0
  refine gS (gR (gA rfl (gE (gS (gR (gA rfl (gE (gS (gS (gR (gM rfl ?_)))))))))))
  obtain ⟨aO,aP,rfl,aZ⟩ := ro_slice h1
  refine gY (yV st_46 rfl) (gM rfl (gE (gBk ?_)))
  replace hm := hm.nilow (α := Ins_)
  refine gNg (λaM aD a w=>∃ (aE : Value),St 22 [(1,fv1),(5,aE),(8,(.slice aO list.length aP)),(9,(nV ((list.length : Int)))),(10,(nV aM))] w0 (hp w0) [ow [aE] aD] a w) (λa hf=>⟨.slice none 0 0,hf.sb rfl,hm.pk [0] rfl rfl⟩) ?_ ?_
  ·repeat clear hm
   rintro _ _ aM aD a w ⟨aE,hf,hm⟩ aa ab ac _
   refine gv hf (gS (gR (gB rfl (gE (gS (go _ 11 rfl (decide_eq_true (by omega)) (gct rfl (gSk (gS (gBk (gS (gR (gg λaC aQ aL=>?_)))))))))))))
   obtain ⟨ae,af,ah,he⟩ := idx_form' h1 aL
   obtain ⟨rfl,_,rfl⟩ := sl3 he
   obtain ⟨aG,aR,aN⟩ := rk_Ins_ h1 aL
   refine gI st_46 aQ (idx_lt aL) rfl (gY (yn (aR.mono hm.lez) isAgg51 sizeOf51 rfl) (gAl hm zeroValue51 rfl λaH w hm=>gSN hm 0 sizeOf51 (one_cons rfl (one_cons rfl (one_cons (rep_one aN) (one_cons rfl one_nil)))) rfl λw hm=>gE (gR (gM rfl (gM rfl (gY (yn (hm.blk_at 0 rfl) isAgg51 sizeOf51 rfl) (gb λaA aS=>gf rfl (λa hf=>e_callv hf rfl rfl rfl (hfn1 _ aC aG (hm.now aN) _ hm.below aS)) ?_)))))))
   rintro ai w ⟨aF,rfl,hB⟩
   replace hm := hm.give hB; clear hB
   refine gf rfl (λa hf=>e_build (vs := #[(0,(.agg #[nV aA.op,nV aA.to,aF,nV aA.n_]))]) (cs := [nV aA.op,nV aA.to,aF,nV aA.n_]) et_46 hf hm rfl rfl (by kernel_rfl) rfl rfl) ?_
   rintro _ w ⟨aJ,rfl,hm⟩
   replace hm := hm.els_nil (α := Ins_)
   replace hm : Mem w0 (hp w0) _ [els [] ([] : List Ins_),blk aJ [nV aA.op,nV aA.to,aF,nV aA.n_] 51,ow [nV aA.op,nV aA.to,aF,nV aA.n_] (aA : Ins_),blk aH [nV aC.op,nV aC.to,aG,nV aC.n_] 51,ow [aE] aD] := mk_Ins_ aA.op aA.to aA.n_ hm 2 rfl
   replace hm := (hm.els_cons 0 2 (by decide) rfl rfl).pk (L' := [els [nV aA.op,nV aA.to,aF,nV aA.n_] ([aA] : List Ins_),blk aJ [nV aA.op,nV aA.to,aF,nV aA.n_] 51,blk aH [nV aC.op,nV aC.to,aG,nV aC.n_] 51,ow [aE] aD]) [0,1,3,4] rfl rfl
   replace hm := (hm.lit_els 1 0 (by decide) rfl rfl rfl rfl).pk (L' := [ow [sV aJ 0 1 1] ([aA] : List Ins_),blk aH [nV aC.op,nV aC.to,aG,nV aC.n_] 51,ow [aE] aD]) [1,2,3] rfl rfl
   refine gb λaj aT=>?_
   obtain ⟨aV,aW⟩ := appM_some.1 aT
   replace hm := (hm.both 2 0 (by decide) rfl rfl).pk (L' := [blk aH [nV aC.op,nV aC.to,aG,nV aC.n_] 51,both (ow [aE] aD) (ow [sV aJ 0 1 1] ([aA] : List Ins_))]) [1,2] rfl rfl
   refine gf rfl (λa hf=>e_appendD (xs := aD) (ys := ([aA] : List Ins_)) 1 et_46 hf hm rfl rfl rfl rfl aV) ?_
   rintro aX w hm
   rw [aW] at hm
   exact gA rfl (gE (gR (gP (by omega) (by omega) rfl (gM rfl (gE (gZe λa hf=>⟨aX,hf.sb rfl,hm.pk [1] rfl rfl⟩))))))
  repeat clear hm
  rintro ak al a w ⟨aY,hf,hm⟩ am an
  exact gv hf (gS (gR (gB rfl (gE (gS (go _ 11 rfl (decide_eq_false (by omega)) (gcf rfl (gXt (gHh (gS (gR (gM rfl (gA rfl (gE (gRt (gr1 results147 rfl ⟨aY,rfl,hm.pk [0] rfl rfl⟩))))))))))))))))
theorem impl_cloneIns_ok (w0 : World) (x_ : Ins_) (v1 : Value) (h1 : GT.rep (hp w0) [v1] x_.args) :
    ConM Tryz.prog 148 [(.agg #[nV x_.op,nV x_.to,v1,nV x_.n_])] w0 (impl_cloneIns x_) λr v w'=>∃ (x1 : Value),v = (.agg #[nV r.op,nV r.to,x1,nV r.n_]) ∧ Mem w0 (hp w0) w' [ow [x1] r.args] := by
  unfold impl_cloneIns
  refine gcon func148 rfl λr=>?_
  have hm := Mem.start w0
  refine gS (gR (gBx hm rfl λaC w hm=>gAl hm zeroValue51 rfl λaD w hm=>gE (gS (gR (gF fo_51_2 rfl (gL hm 1 isAgg47 rfl (gCg rfl call94 (slices_Clone_S_int_int_ok _ x_.args v1 (hm.now h1)) ?_)))))))
  rintro aE aF aA w ⟨_,rfl,hB⟩
  replace hm := hm.give hB; clear hB
  exact gF fo_51_2 rfl (gS1 hm 2 sizeOf47 (rep_one (hm.ow_rep 0 rfl)) rfl λw hm=>gE (gS (gR (gY (yn (hm.blk_at 2 rfl) isAgg51 sizeOf51 rfl) (gSN hm 1 sizeOf51 (one_cons rfl (one_cons rfl (one_cons (rep_one (hm.ow_rep 0 rfl)) (one_cons rfl one_nil)))) rfl λw hm=>gE (gRt (grc 1 results148 hm rfl isAgg51 sizeOf51 ⟨aA,rfl,hm.pk [0] rfl rfl⟩)))))))
theorem impl_cloneBlock_ok (w0 : World) (b_ : Block_) (v1 : Value) (h1 : GT.rep (hp w0) [v1] b_.phis) (v2 : Value) (h2 : GT.rep (hp w0) [v2] b_.ins) (v3 : Value) (h3 : GT.rep (hp w0) [v3] b_.next_) :
    ConM Tryz.prog 89 [(.agg #[v1,v2,nV b_.jump,nV b_.on,v3])] w0 (impl_cloneBlock b_) λr v w'=>∃ (x1 : Value) (x2 : Value) (x3 : Value),v = (.agg #[x1,x2,nV r.jump,nV r.on,x3]) ∧ Mem w0 (hp w0) w' [ow [x1] r.phis,ow [x2] r.ins,ow [x3] r.next_] := by
  unfold impl_cloneBlock
  refine gcon func89 rfl λr=>?_
  have hm := Mem.start w0
  refine gS (gR (gBx hm rfl λaG w hm=>gAl hm zeroValue49 rfl λaH w hm=>gE (gS (gR (gF fo_49_0 rfl (gL hm 1 isAgg45 rfl (gCg rfl call145 (impl_mapped_impl_Phi_impl_Phi_ok _ b_.phis v1 (hm.now h1) (λy0=>impl_clonePhi y0) (.func (.func 146) #[] #[]) (λw y0 aA aC r hB hq=>⟨146,[],rfl,call146,impl_clonePhi_ok w y0 aA aC  r hq⟩)) ?_)))))))
  rintro aJ aL aD w ⟨_,rfl,hB⟩
  replace hm := hm.give hB; clear hB
  refine gF fo_49_0 rfl (gS1 hm 2 sizeOf45 (rep_one (hm.ow_rep 0 rfl)) rfl λw hm=>gE (gS (gR (gF fo_49_1 rfl (gL hm 2 isAgg46 rfl (gCg rfl call147 (impl_mapped_impl_Ins_impl_Ins_ok _ b_.ins v2 (hm.now h2) (λy0=>impl_cloneIns y0) (.func (.func 148) #[] #[]) (λw y0 aA aC r hB hq=>⟨148,[],rfl,call148,impl_cloneIns_ok w y0 aA aC  r hq⟩)) ?_))))))
  rintro aM aN aE w ⟨_,rfl,hB⟩
  replace hm := hm.give hB; clear hB
  refine gF fo_49_1 rfl (gS1 hm 3 sizeOf46 (rep_one (hm.ow_rep 0 rfl)) rfl λw hm=>gE (gS (gR (gF fo_49_4 rfl (gL hm 3 isAgg47 rfl (gCg rfl call94 (slices_Clone_S_int_int_ok _ b_.next_ v3 (hm.now h3)) ?_))))))
  rintro aO aP aF w ⟨_,rfl,hB⟩
  replace hm := hm.give hB; clear hB
  exact gF fo_49_4 rfl (gS1 hm 4 sizeOf47 (rep_one (hm.ow_rep 0 rfl)) rfl λw hm=>gE (gS (gR (gY (yn (hm.blk_at 4 rfl) isAgg49 sizeOf49 rfl) (gSN hm 3 sizeOf49 (one_cons (rep_one (hm.ow_rep 2 rfl)) (one_cons (rep_one (hm.ow_rep 1 rfl)) (one_cons rfl (one_cons rfl (one_cons (rep_one (hm.ow_rep 0 rfl)) one_nil))))) rfl λw hm=>gE (gRt (grc 3 results89 hm rfl isAgg49 sizeOf49 ⟨aD,aE,aF,rfl,hm.pk [2,1,0] rfl rfl⟩)))))))
theorem impl_cloneCode_ok (w0 : World) (c_ : Code_) (v1 : Value) (h1 : GT.rep (hp w0) [v1] c_.blocks) :
    ConM Tryz.prog 51 [(.agg #[nV c_.params,nV c_.regs,v1])] w0 (impl_cloneCode c_) λr v w'=>∃ (x1 : Value),v = (.agg #[nV r.params,nV r.regs,x1]) ∧ Mem w0 (hp w0) w' [ow [x1] r.blocks] := by
  unfold impl_cloneCode
  refine gcon func51 rfl λr=>?_
  have hm := Mem.start w0
  refine gS (gR (gBx hm rfl λaJ w hm=>gAl hm zeroValue44 rfl λaL w hm=>gE (gS (gR (gF fo_44_2 rfl (gL hm 1 isAgg42 rfl (gCg rfl call88 (impl_mapped_impl_Block_impl_Block_ok _ c_.blocks v1 (hm.now h1) (λy0=>impl_cloneBlock y0) (.func (.func 89) #[] #[]) (λw y0 aA aC aD aE aF aG r hB hq=>⟨89,[],rfl,call89,impl_cloneBlock_ok w y0 aA aC aD aE aF aG  r hq⟩)) ?_)))))))
  rintro aM aN aH w ⟨_,rfl,hB⟩
  replace hm := hm.give hB; clear hB
  exact gF fo_44_2 rfl (gS1 hm 2 sizeOf42 (rep_one (hm.ow_rep 0 rfl)) rfl λw hm=>gE (gS (gR (gY (yn (hm.blk_at 2 rfl) isAgg44 sizeOf44 rfl) (gSN hm 1 sizeOf44 (one_cons rfl (one_cons rfl (one_cons (rep_one (hm.ow_rep 0 rfl)) one_nil))) rfl λw hm=>gE (gRt (grc 1 results51 hm rfl isAgg44 sizeOf44 ⟨aH,rfl,hm.pk [0] rfl rfl⟩)))))))
theorem impl_cloneUnit_ok (w0 : World) (u : Unit_) (v1 : Value) (h1 : GT.rep (hp w0) [v1] u.codes) :
    ConM Tryz.prog 26 [(.agg #[v1])] w0 (impl_cloneUnit u) λr v w'=>∃ (x1 : Value),v = (.agg #[x1]) ∧ Mem w0 (hp w0) w' [ow [x1] r.codes] := by
  unfold impl_cloneUnit
  refine gcon func26 rfl λr=>?_
  have hm := Mem.start w0
  refine gS (gR (gBx hm rfl λaG w hm=>gAl hm zeroValue28 rfl λaH w hm=>gE (gS (gR (gF fo_28_0 rfl (gL hm 1 isAgg26 rfl (gCg rfl call41 (impl_mapped_impl_Code_impl_Code_ok _ u.codes v1 (hm.now h1) (λy0=>impl_cloneCode y0) (.func (.func 51) #[] #[]) (λw y0 aE aF r hB hq=>⟨51,[],rfl,call51,impl_cloneCode_ok w y0 aE aF  r hq⟩)) ?_)))))))
  rintro aA aJ aL w ⟨_,rfl,hB⟩
  replace hm := hm.give hB; clear hB
  obtain ⟨aC,aD,rfl,aM⟩ := ro_slice (hm.ow_rep 0 rfl)
  exact gY (yG rfl (y_build (vs := [(0,(.slice aC aA.length aD))]) (cs := #[.slice aC aA.length aD]) rfl rfl (by kernel_rfl))) (gSN hm 1 sizeOf28 (one_cons rfl one_nil) rfl λw hm=>gE (gRt (grc 1 results26 hm rfl isAgg28 sizeOf28 ⟨.slice aC aA.length aD,rfl,hm.pk [0] rfl rfl⟩)))
theorem impl_phisOf_ok (w0 : World) (c_ : Code_) (v1 : Value) (h1 : GT.rep (hp w0) [v1] c_.blocks) :
    ConM Tryz.prog 52 [(.agg #[nV c_.params,nV c_.regs,v1])] w0 (impl_phisOf c_) λr v w'=>∃ (x1 : Value),v = x1 ∧ Mem w0 (hp w0) w' [ow [x1] r] := by
  unfold impl_phisOf
  refine gcon func52 rfl λr=>?_
  have hm := Mem.start w0
  refine gS (gR (gBx hm rfl λaG w hm=>gA rfl (gE (gS (gR (gF fo_44_2 rfl (gL hm 0 isAgg42 rfl ?_)))))))
  obtain ⟨av,aE,rfl,bZ⟩ := ro_slice h1
  refine gY (yV st_42 rfl) (gb λaD bE=>?_)
  obtain ⟨⟨bF,bG⟩,aw⟩ := makeM_some.1 bE
  refine gf rfl (λa hf=>e_make (x0 := ([] : List (MapS Int))) et_82 (λ_=>(own_list.2 (.inl ⟨rfl,rfl⟩))) hf hm rfl rfl rfl bF (Int.le_refl _) bG) ?_
  rintro b6 w hm
  rw [aw] at hm
  have h0_1l : (aD.length : Int) = (c_.blocks.length : Int) := by rw [← aw]; simp only [List.length_replicate]; omega
  refine gA rfl (gE (gS (gS (gR (gF fo_44_2 rfl (gL hm 1 isAgg42 rfl (gY (yV st_42 rfl) (gM rfl (gE ?_)))))))))
  obtain ⟨aX,aF,rfl,b7⟩ := ro_slice (hm.ow_rep 0 rfl)
  refine gBk (gNf hm (λaC aj=>[(1,(pV aG)),(3,(.slice aX aD.length aF)),(17,(.slice av c_.blocks.length aE)),(18,(nV ((c_.blocks.length : Int)))),(19,(nV aC))]) (λaC aj=>[blk aG [nV c_.params,nV c_.regs,.slice av c_.blocks.length aE] 44,ow [.slice aX aD.length aF] aj]) [1,0] rfl ?_ ?_)
  ·repeat clear hm
   intro _ _ aC aj w hm b8 b9 ba _
   refine gS (gR (gB rfl (gE (gS (go _ 20 rfl (decide_eq_true (by omega)) (gct rfl (gSk (gS (gBk (gS (gR (gM rfl (gg λac bH ak=>?_)))))))))))))
   obtain ⟨aH,aJ,bc,he⟩ := idx_form' h1 ak
   obtain ⟨rfl,_,rfl⟩ := sl3 he
   obtain ⟨bd,be,bf,bJ,ae,bK,bL⟩ := rk_Block_ h1 ak
   refine gI st_42 bH (idx_lt ak) rfl (gY (yn (bJ.mono hm.lez) isAgg49 sizeOf49 rfl) (gAl hm zeroValue49 rfl λbg w hm=>gA rfl (gSN hm 0 sizeOf49 (one_cons (rep_one ae) (one_cons (rep_one bK) (one_cons rfl (one_cons rfl (one_cons (rep_one bL) one_nil))))) rfl λw hm=>gE (gS (gR (gY (yn (hm.blk_at 1 rfl) isAgg44 sizeOf44 rfl) (gM rfl (gCg rfl call60 (impl_PredsOf_ok _ c_ (sV aH aJ c_.blocks.length aE) (hm.now h1) aC) ?_))))))))
   rintro aA bh bi w ⟨_,rfl,hB⟩
   replace hm := hm.give hB; clear hB
   refine gA rfl (gE (gS (gR (gF fo_49_0 rfl (gL hm 1 isAgg45 rfl ?_)))))
   obtain ⟨bM,ax,rfl,bj⟩ := ro_slice ae
   refine gY (yV st_45 rfl) (gM rfl (gE ?_))
   obtain ⟨aL,aM,rfl,bk⟩ := ro_slice (hm.ow_rep 0 rfl)
   refine gBk (gNf hm (λaf aN=>[(1,(pV aG)),(3,(.slice aX aD.length aF)),(4,(nV aC)),(6,(.slice aL aA.length aM)),(17,(sV aH aJ c_.blocks.length aE)),(18,(nV ((c_.blocks.length : Int)))),(19,(nV aC)),(28,(.slice bM ac.phis.length ax)),(29,(nV ((ac.phis.length : Int)))),(30,(nV af))]) (λaf aN=>[blk aG [nV c_.params,nV c_.regs,sV aH aJ c_.blocks.length aE] 44,ow [.slice aX aD.length aF] aN,ow [.slice aL aA.length aM] aA]) [2,3,0] rfl ?_ ?_)
   ·repeat clear hm
    intro _ _ af aN w hm bm bp bq _
    refine gS (gR (gB rfl (gE (gS (go _ 31 rfl (decide_eq_true (by omega)) (gct rfl (gSk (gS (gBk (gS (gR (gg λaQ bN al=>?_))))))))))))
    obtain ⟨bO,bP,br,he⟩ := idx_form' ae al
    obtain ⟨rfl,_,rfl⟩ := sl3 he
    obtain ⟨aR,bQ,am⟩ := rk_Phi_ ae al
    refine gI st_45 bN (idx_lt al) rfl (gY (yn (bQ.mono hm.lez) isAgg105 sizeOf105 rfl) (gAl hm zeroValue105 rfl λaP w hm=>gSN hm 0 sizeOf105 (one_cons rfl (one_cons (rep_one am) one_nil)) rfl λw hm=>gE (gS (gR (gf rfl (λa hf=>e_mkM (β := Int) hm rfl) ?_)))))
    rintro ah w hm
    refine gA rfl (gE (gS (gS (gR (gM rfl (gY (yV st_47 rfl) (gM rfl (gE (gBk (gNf hm (λan ao=>[(1,(pV aG)),(3,(.slice aX aD.length aF)),(4,(nV aC)),(6,(.slice aL aA.length aM)),(8,(pV aP)),(9,ah),(17,(sV aH aJ c_.blocks.length aE)),(18,(nV ((c_.blocks.length : Int)))),(19,(nV aC)),(28,(sV bO bP ac.phis.length ax)),(29,(nV ((ac.phis.length : Int)))),(30,(nV af)),(35,(.slice aL aA.length aM)),(36,(nV ((aA.length : Int)))),(37,(nV an))]) (λan ao=>[blk aG [nV c_.params,nV c_.regs,sV aH aJ c_.blocks.length aE] 44,ow [.slice aX aD.length aF] aN,ow [.slice aL aA.length aM] aA,blk aP [nV aQ.to,aR] 105,owm ah ao]) [2,3,4,1,0] rfl ?_ ?_))))))))))
    ·repeat clear hm
     intro _ _ an ao w hm bs bt bu _
     refine gS (gR (gB rfl (gE (gS (go _ 38 rfl (decide_eq_true (by omega)) (gct rfl (gSk (gS (gBk (gS (gR (gM rfl (gg λay bR ap=>?_)))))))))))))
     obtain ⟨bv,bx,bz,he⟩ := idx_form (hm.ow_rep 2 rfl) ap
     obtain ⟨rfl,_,rfl⟩ := sl3 he
     refine gI st_47 bR (idx_lt ap) rfl (gY (yl isAgg3 ((flat_cells (cs := [nV ay]) (hm.ow_rep 2 rfl) ap rfl).cell (j := 0) rfl) rfl) (gA rfl (gA rfl (gE (gR (gM rfl (gM rfl (gF fo_105_1 rfl (gL hm 3 isAgg47 rfl (gM rfl (gg λaz bS aq=>?_)))))))))))
     obtain ⟨cA,cB,cC,he⟩ := idx_form am aq
     subst he
     refine gI st_47 bS (idx_lt aq) rfl (gY (yl isAgg3 ((flat_cells (cs := [nV az]) (hm.now am) aq rfl).cell (j := 0) rfl) rfl) (gf0 rfl (λa hf=>e_insM (β := Int) (key := ay) (u := az) (b := false) 4 underlying3 underlying100 hf hm rfl rfl rfl rfl rfl) ?_))
     rintro _ w hm
     exact gE (gR (gP (by omega) (by omega) rfl (gM rfl (gE (gze hm [0,1,2,3,4] rfl)))))
    repeat clear hm
    intro cD aS w hm cE cF
    refine gS (gR (gB rfl (gE (gS (go _ 38 rfl (decide_eq_false (by omega)) (gcf rfl (gXt (gHh (gR (gM rfl (gM rfl (gM rfl (gM rfl (gg λaT bA aY=>?_))))))))))))))
    obtain ⟨aV,aW,cG,he⟩ := idx_form' (hm.ow_rep 1 rfl) aY
    obtain ⟨rfl,_,rfl⟩ := sl3 he
    obtain ⟨_,_,bB,bT⟩ := ro_get' (hm.ow_rep 1 rfl) aY
    have ar := bT
    obtain ⟨bC,rfl,-⟩ := id ar
    replace ar : GT.rep (hp _) [bC] aT := ar
    replace bB : CellsAt (hp _) aV (aW + (aC).toNat * 1) [bC] := bB
    have hL2_1 := rep_slice_len (hm.ow_rep 1 rfl)
    refine gI st_82 bA (idx_lt2 aY hL2_1) rfl ?_
    obtain ⟨_,bU,hm⟩ := hm.openE 1 rfl aY
    have bV := hm.ow_rep 0 rfl
    have ai := bV
    obtain ⟨aO,rfl,-⟩ := id ai
    replace ai : GT.rep (hp _) [aO] aT := ai
    clear bU ai
    replace hm : Mem w0 (hp w0) _ [ow [aO] (aT : List (MapS Int)),blk aG [nV c_.params,nV c_.regs,sV aH aJ c_.blocks.length aE] 44,holeE aV aW aD.length aF (aN : List (List (MapS Int))) (aC).toNat [aO],ow [.slice aL aA.length aM] aA,blk aP [nV aQ.to,aR] 105,owm ah aS] := hm
    replace hm := hm.pk (L' := [ow [aO] aT,blk aG [nV c_.params,nV c_.regs,sV aH aJ c_.blocks.length aE] 44,holeE aV aW aD.length aF (aN : List (List (MapS Int))) (aC).toNat [aO],ow [.slice aL aA.length aM] aA,blk aP [nV aQ.to,aR] 105,owm ah aS]) [0,1,2,3,4,5] rfl rfl
    refine gY (yl isAgg99 ((hm.holeE_at 2 rfl).cell (j := 0) rfl) rfl) (gM rfl ?_)
    obtain ⟨aZ,he⟩ := owm_form hm 5 rfl
    subst he
    refine gf rfl (λa hf=>e_build (vs := #[(0,(.map (some aZ)))]) (cs := [(.map (some aZ))]) et_99 hf hm rfl rfl (by kernel_rfl) rfl rfl) ?_
    rintro _ w ⟨au,rfl,hm⟩
    replace hm := hm.els_nil (α := MapS Int)
    have cH := owm_cells hm 7 rfl
    replace hm := hm.imp (c' := ow [(.map (some aZ))] (aS : MapS Int)) 7 rfl (λF h0=>own_owm h0)
    replace hm := hm.imp (c' := ow [(.map (some aZ))] (aS : MapS Int)) 7 rfl (λF h0=>h0)
    replace hm := (hm.els_cons 0 7 (by decide) rfl rfl).pk (L' := [els [(.map (some aZ))] ([aS] : List (MapS Int)),blk au [(.map (some aZ))] 100,ow [aO] aT,blk aG [nV c_.params,nV c_.regs,sV aH aJ c_.blocks.length aE] 44,holeE aV aW aD.length aF (aN : List (List (MapS Int))) (aC).toNat [aO],ow [.slice aL aA.length aM] aA,blk aP [nV aQ.to,aR] 105]) [0,1,2,3,4,5,6] rfl rfl
    replace hm := (hm.lit_els 1 0 (by decide) rfl rfl rfl rfl).pk (L' := [ow [sV au 0 1 1] ([aS] : List (MapS Int)),ow [aO] aT,blk aG [nV c_.params,nV c_.regs,sV aH aJ c_.blocks.length aE] 44,holeE aV aW aD.length aF (aN : List (List (MapS Int))) (aC).toNat [aO],ow [.slice aL aA.length aM] aA,blk aP [nV aQ.to,aR] 105]) [1,2,3,4,5,6] rfl rfl
    refine gb λaa bW=>?_
    obtain ⟨bX,bY⟩ := appM_some.1 bW
    replace hm := (hm.both 1 0 (by decide) rfl rfl).pk (L' := [both (ow [aO] aT) (ow [sV au 0 1 1] ([aS] : List (MapS Int))),blk aG [nV c_.params,nV c_.regs,sV aH aJ c_.blocks.length aE] 44,holeE aV aW aD.length aF (aN : List (List (MapS Int))) (aC).toNat [aO],ow [.slice aL aA.length aM] aA,blk aP [nV aQ.to,aR] 105]) [1,2,3,4,5] rfl rfl
    refine gf rfl (λa hf=>e_appendD (xs := aT) (ys := ([aS] : List (MapS Int))) 0 et_99 hf hm rfl rfl rfl rfl bX) ?_
    rintro ab w hm
    rw [bY] at hm
    have hL2_2 := hm.holeE_len 2 rfl
    refine gI st_82 bA (idx_lt2 aY hL2_2) rfl ?_
    have bD : ∀ u ∈ ([ab] : List Value),u.oneCell' = true := (one_cons (rep_one (hm.ow_rep 0 rfl)) one_nil)
    refine gf0 rfl (λa hf=>e_storeH (j := 0) (vs := [ab]) 2 hf hm rfl rfl rfl sizeOf99 rfl rfl (cells_one (bD _ (List.mem_singleton.2 rfl))) bD rfl) ?_
    rintro _ w hm
    replace hm : Mem w0 (hp w0) _ [ow [ab] aa,blk aG [nV c_.params,nV c_.regs,sV aH aJ c_.blocks.length aE] 44,holeE aV aW aD.length aF (aN : List (List (MapS Int))) (aC).toNat [ab],ow [.slice aL aA.length aM] aA,blk aP [nV aQ.to,aR] 105] := hm
    refine gE ?_
    replace hm := hm.imp (c' := ow [ab] (aa : List (MapS Int))) 0 rfl (λF h0=>h0)
    replace hm := (hm.shutE (y := (aa : List (MapS Int))) 2 0 (by decide) rfl rfl).pk (L' := [blk aG [nV c_.params,nV c_.regs,sV aH aJ c_.blocks.length aE] 44,ow [sV aV aW aD.length aF] (aN.set (aC).toNat aa),ow [.slice aL aA.length aM] aA,blk aP [nV aQ.to,aR] 105]) [1,2,3,4] rfl rfl
    have cI := List.getElem?_set_self (a := (aa : List (MapS Int))) (idx_lt aY)
    exact gR (gP (by omega) (by omega) rfl (gM rfl (gE (gze hm [0,1,2] rfl))))
   repeat clear hm
   intro cJ cK w hm cL cM
   exact gS (gR (gB rfl (gE (gS (go _ 31 rfl (decide_eq_false (by omega)) (gcf rfl (gXt (gHh (gR (gP (by omega) (by omega) rfl (gM rfl (gE (gze hm [0,1] rfl)))))))))))))
  repeat clear hm
  intro cN cO w hm cP cQ
  exact gS (gR (gB rfl (gE (gS (go _ 20 rfl (decide_eq_false (by omega)) (gcf rfl (gXt (gHh (gS (gR (gM rfl (gA rfl (gE (gRt (gr1 results52 rfl ⟨.slice aX aD.length aF,rfl,hm.pk [1] rfl rfl⟩)))))))))))))))
theorem slices_Clone_S_impl_Ins_impl_Ins_ok (w0 : World) (hz : Heap) {b off len cap : Nat} {ys zs : List Ins_} {v : Value} (hm : Mem w0 hz w0 [gap b off len cap ys zs]) (hv : v = subV 4 (sV b off len cap) (len - zs.length) len) :
    ConM Tryz.prog 53 [v] w0 (slices_Clone_S_impl_Ins_impl_Ins zs) λr v' w'=>Mem w0 hz w' [ow [v'] r,gap b off len cap ys []] := by
  unfold slices_Clone_S_impl_Ins_impl_Ins
  refine gcon func53 rfl λr=>?_
  obtain ⟨⟨hl,hcap⟩,hmax⟩ := hm.gap_max 0 rfl
  obtain ⟨p,n,c,hv2⟩ : ∃ p n c,v = .slice (some p) n c := ⟨_,_,_,hv.trans subV_some⟩
  subst hv2
  refine gS (gR (gA rfl (gE (gS (gS (gR (gM rfl (gY (yG rfl (y_eqnil_f st_46.und rfl rfl rfl)) (gE (gcf rfl (gSk (gS (gR (gf rfl (λa hf=>e_build0 (α := Ins_) et_46 hm rfl) ?_))))))))))))))
  rintro v0 w hm
  refine gM rfl (gb λq hq=>?_)
  obtain ⟨h0,h0e⟩ := appM_some.1 hq
  obtain ⟨ns,hS,hm⟩ := hm.gap_zsG 1 rfl
  replace hS := src_sub hS rfl (by omega) hcap
  replace hv : _ = subV (GT.sz Ins_) _ _ _ := hv
  rw [← hv] at hS
  replace hm := (hm.both 1 0 (by decide) rfl rfl).pk (L' := [both (ow [v0] ([] : List Ins_)) (els ns zs),gap b off len cap ys []]) [1,2] rfl rfl
  refine gf rfl (λa hf=>e_appendE (xs := []) (ys := zs) 0 et_46 hf hm rfl hS rfl rfl rfl h0) ?_
  rintro v1 w hm
  rw [h0e] at hm
  exact gA rfl (gE (gRt (gr1 results53 rfl (hm.pk [0,1] rfl rfl))))
theorem slices_Clip_S_impl_Ins_impl_Ins_ok (w0 : World) (hz : Heap) {b off len cap n : Nat} {ys zs : List Ins_} (hm : Mem w0 hz w0 [gap b off len cap ys zs]) (hn : n = ys.length) (hc : n ≤ cap) :
    ConM Tryz.prog 54 [.slice (some ⟨b,off,none⟩) n cap] w0 (slices_Clip_S_impl_Ins_impl_Ins ys) λr v' w'=>Mem w0 hz w' [ow [v'] r] := by
  unfold slices_Clip_S_impl_Ins_impl_Ins
  refine gcon func54 rfl λr=>?_
  subst hn
  refine gS (gR (gA rfl (gE (gS (gR (gM rfl (gM rfl (gY (yV st_46 rfl) (gM rfl (gY (yV st_46 rfl) (gY (yG rfl (y_clip (α := Ins_) st_46 rfl rfl rfl rfl hc)) (gA rfl (gE (gRt ?_))))))))))))))
  exact gr1 results54 rfl (hm.gap_clip 0 rfl)
theorem impl_once_ok (w0 : World) (list : List Int) (v1 : Value) (h1 : GT.rep (hp w0) [v1] list) :
    ConM Tryz.prog 59 [v1] w0 (impl_once list) λr v w'=>∃ (x1 : Value),v = x1 ∧ Mem w0 (hp w0) w' [ow [x1] r] := by
  unfold impl_once
  refine gcon func59 rfl λr=>?_
  have hm := Mem.start w0
  refine gS (gR (gA rfl (gE (gS (gR (gM rfl (gCg rfl call94 (slices_Clone_S_int_int_ok _ list v1 (hm.now h1)) ?_)))))))
  rintro aC aD aE w ⟨_,rfl,hB⟩
  replace hm := hm.give hB; clear hB
  refine gA rfl (gE (gS (gR (gM rfl (gf rfl (λa hf=>e_call hf rfl call90 rfl (sort_con lays189 hm 0 rfl)) ?_)))))
  rintro _ w ⟨rfl,hm⟩
  refine gE (gS (gR (gM rfl (gf rfl (λa hf=>e_call hf rfl call95 rfl (compact_con lays2_20 hm 0 rfl)) ?_))))
  rintro aA w hm
  exact gA rfl (gE (gRt (gr1 results59 rfl ⟨aA,rfl,hm.pk [0] rfl rfl⟩)))
theorem pimpl_live__outs_ok (w0 : World) (l_ : live) (bp0 : Nat) (v1p : Value) (h1p : GT.rep (hp w0) [v1p] l_.c.blocks) (v2p : Value) (h2p : GT.rep (hp w0) [v2p] l_.ins) (v3p : Value) (h3p : GT.rep (hp w0) [v3p] l_.preds) (hbbp0 : (hp w0) bp0 = some (.cells ([nV l_.c.params, nV l_.c.regs, v1p, v2p, v3p] : List Value).toArray 91 (0, 0))) (b_ : Int) :
    ConM Tryz.prog 151 [(pV bp0),nV b_] w0 (pimpl_live__outs l_ b_) λr v w'=>∃ (x1 : Value),v = x1 ∧ Mem w0 (hp w0) w' [owm x1 r] := by
  unfold pimpl_live__outs
  refine gcon func151 rfl λr=>?_
  have hm := Mem.start w0
  refine gS (gR (gA rfl (gE (gS (gR (gf rfl (λa hf=>e_mkM (β := Bool) hm rfl) ?_))))))
  rintro aC w hm
  refine gA rfl (gE (gS (gS (gR (gM rfl (gY (yG rfl (y_nilptr rfl rfl)) (gF fo_91_0 rfl (gF fo_44_2 rfl (gY (yl isAgg42 (hm.hz_cell hbbp0 rfl) rfl) (gM rfl (gg λaq ar aN=>?_)))))))))))
  obtain ⟨bQ,bR,bS,he⟩ := idx_form' h1p aN
  subst he
  obtain ⟨bT,bU,au,av,bV,bW,aw⟩ := rk_Block_ h1p aN
  refine gI st_42 ar (idx_lt aN) rfl (gF fo_49_4 rfl (gY (yl isAgg47 ((av.mono hm.lez).cell (j := 4) rfl) rfl) (gCg rfl call59 (impl_once_ok _ aq.next_ au (hm.now aw)) ?_)))
  rintro aA bX bY w ⟨_,rfl,hB⟩
  replace hm := hm.give hB; clear hB
  obtain ⟨af,aD,rfl,bZ⟩ := ro_slice (hm.ow_rep 0 rfl)
  refine gY (yV st_47 rfl) (gM rfl (gE (gBk (gNf hm (λaE aO=>[(0,(pV bp0)),(1,(nV b_)),(5,aC),(22,(.slice af aA.length aD)),(23,(nV ((aA.length : Int)))),(24,(nV aE))]) (λaE aO=>[owm aC aO,ow [.slice af aA.length aD] aA]) [1,0] rfl ?_ ?_))))
  ·repeat clear hm
   intro _ _ aE aO w hm b6 b7 b8 _
   refine gS (gR (gB rfl (gE (gS (go _ 25 rfl (decide_eq_true (by omega)) (gct rfl (gSk (gS (gBk (gS (gR (gg λaH ax aP=>?_))))))))))))
   obtain ⟨aF,aG,b9,he⟩ := idx_form (hm.ow_rep 1 rfl) aP
   obtain ⟨rfl,_,rfl⟩ := sl3 he
   refine gI st_47 ax (idx_lt aP) rfl (gY (yl isAgg3 ((flat_cells (cs := [nV aH]) (hm.ow_rep 1 rfl) aP rfl).cell (j := 0) rfl) rfl) (gA rfl (gE (gS (gS (gR (gM rfl (gY (yG rfl (y_nilptr rfl rfl)) (gF fo_91_1 rfl (gY (yl isAgg89 (hm.hz_cell hbbp0 rfl) rfl) (gM rfl (gg λaQ ay aR=>?_))))))))))))
   obtain ⟨az,bA,ba,he⟩ := idx_form' h2p aR
   subst he
   obtain ⟨_,_,aS,bB⟩ := ro_get' h2p aR
   have aJ := bB
   obtain ⟨aT,rfl,-⟩ := id aJ
   replace aJ : GT.rep (hp w0) [aT] aQ := aJ
   replace aS : CellsAt (hp w0) az (bA + (aH).toNat * 1) [aT] := aS
   refine gI st_89 ay (idx_lt aR) rfl (gY (yl isAgg88 ((aS.mono hm.lez).cell (j := 0) rfl) rfl) (gf rfl (λa hf=>e_rangeS (m := (aQ : MapS Bool)) hf hm underlying88 aJ rfl rfl) ?_))
   rintro _ w ⟨ah,rfl,hm⟩
   refine gE (gJ hm (λaL=>[(0,(pV bp0)),(1,(nV b_)),(5,aC),(7,(nV aH)),(22,(sV aF aG aA.length aD)),(23,(nV ((aA.length : Int)))),(24,(nV aE))]) (λaL=>[owm aC aL,ow [sV aF aG aA.length aD] aA]) (λaL=>?_) ?_)
   ·refine gBk (gRng (m := (aQ : MapS Bool)) (by exact comm_ins) aJ (fun ai aj a w => St 74 [(0, (pV bp0)), (1, (nV b_)), (5, aC), (7, (nV aH)), (22, (sV aF aG aA.length aD)), (23, (nV ((aA.length : Int)))), (24, (nV aE)), (35, (pV ah))] w0 (hp w0) [owm aC aj, ow [sV aF aG aA.length aD] aA, itc (hp w0) aT ah ai] a w) (fun a hf => ⟨hf.sb rfl, hm.pk [1, 2, 0] rfl rfl⟩) ?_ ?_)
    ·repeat clear hm
     rintro ai aj a w ⟨hf,hm⟩ hmo
     refine gv (m := some ()) (r := ()) hf ?_ rfl
     refine gS (gR (gf rfl (λa hf=>e_nextS 2 hf hm rfl hmo rfl rfl) ?_))
     rintro _ w ⟨bc,bC,bd,rfl,ak,al,hm⟩
     refine gSw ak (gX rfl (gE (gS (gct rfl (gSk (gBk (gS (gR (gY (yG rfl (y_entryS 2 hm rfl al rfl rfl)) (gX rfl (gA rfl (gE (gR (gM rfl (gM rfl (gf0 rfl (λa hf=>e_insM (β := Bool) (key := bC.1) (u := true) (b := false) 0 underlying3 underlying88 hf hm rfl rfl rfl rfl rfl) ?_))))))))))))))))
     rintro _ w hm
     exact gE (gZr al ak λa hf=>⟨hf.sb rfl,hm.pk [0,1,2] rfl rfl⟩)
    repeat clear hm
    rintro be bf a w ⟨hf,hm⟩ hno hk
    refine gv hf ?_ hk
    exact gS (gR (gY (yG rfl (y_nextE 2 hm rfl hno rfl rfl)) (gX rfl (gE (gS (gcf rfl (gXt (gHh (gz hm [0,1] rfl)))))))))
   repeat clear hm
   intro aL w hm
   refine gS (gR (gM rfl (gY (yG rfl (y_nilptr rfl rfl)) (gF fo_91_2 rfl (gY (yl isAgg59 (hm.hz_cell hbbp0 rfl) rfl) (gM rfl (gg λam bD aV=>?_)))))))
   obtain ⟨bE,bF,bg,he⟩ := idx_form' h3p aV
   subst he
   obtain ⟨_,_,aW,bG⟩ := ro_get' h3p aV
   have aM := bG
   obtain ⟨aX,rfl,-⟩ := id aM
   replace aM : GT.rep (hp w0) [aX] am := aM
   replace aW : CellsAt (hp w0) bE (bF + (aH).toNat * 1) [aX] := aW
   refine gI st_59 bD (idx_lt aV) rfl (gY (yl isAgg47 ((aW.mono hm.lez).cell (j := 0) rfl) rfl) (gM rfl (gC hm rfl call154 (slices_Index_S_int_int_ok _ am aX (hm.now aM) b_) λbH bh w hm=>gA rfl (gE (gS (gR (gM rfl (gY (yG rfl (y_nilptr rfl rfl)) (gF fo_91_0 rfl (gF fo_44_2 rfl (gY (yl isAgg42 (hm.hz_cell hbbp0 rfl) rfl) (gM rfl (gg λan bJ ao=>?_)))))))))))))
   obtain ⟨bi,bj,bk,bK,aY,bm,bp⟩ := rk_Block_ h1p ao
   refine gI st_42 bJ (idx_lt ao) rfl (gF fo_49_0 rfl (gY (yl isAgg45 ((bK.mono hm.lez).cell (j := 0) rfl) rfl) ?_))
   obtain ⟨bL,bM,rfl,bq⟩ := ro_slice aY
   refine gY (yV st_45 rfl) (gM rfl (gE (gBk (gNf hm (λaZ aa=>[(0,(pV bp0)),(1,(nV b_)),(5,aC),(9,(nV bH)),(22,(sV aF aG aA.length aD)),(23,(nV ((aA.length : Int)))),(24,(nV aE)),(59,(.slice bL an.phis.length bM)),(60,(nV ((an.phis.length : Int)))),(61,(nV aZ))]) (λaZ aa=>[owm aC aa,ow [sV aF aG aA.length aD] aA]) [0,1] rfl ?_ ?_))))
   ·repeat clear hm
    intro _ _ aZ aa w hm br bs bt _
    refine gS (gR (gB rfl (gE (gS (go _ 62 rfl (decide_eq_true (by omega)) (gct rfl (gSk (gS (gBk (gS (gR (gg λbu bN ab=>?_))))))))))))
    obtain ⟨bv,bx,bz,he⟩ := idx_form' aY ab
    obtain ⟨rfl,_,rfl⟩ := sl3 he
    obtain ⟨cA,bO,ac⟩ := rk_Phi_ aY ab
    refine gI st_45 bN (idx_lt ab) rfl (gY (yn (bO.mono hm.lez) isAgg105 sizeOf105 rfl) (gAl hm zeroValue105 rfl λcB w hm=>gSN hm 0 sizeOf105 (one_cons rfl (one_cons (rep_one ac) one_nil)) rfl λw hm=>gE (gR (gM rfl (gF fo_105_1 rfl (gL hm 0 isAgg47 rfl (gM rfl (gg λap bP ae=>?_))))))))
    obtain ⟨cC,cD,cE,he⟩ := idx_form ac ae
    subst he
    refine gI st_47 bP (idx_lt ae) rfl (gY (yl isAgg3 ((flat_cells (cs := [nV ap]) (hm.now ac) ae rfl).cell (j := 0) rfl) rfl) (gf0 rfl (λa hf=>e_insM (β := Bool) (key := ap) (u := true) (b := false) 1 underlying3 underlying88 hf hm rfl rfl rfl rfl rfl) ?_))
    rintro _ w hm
    exact gE (gR (gP (by omega) (by omega) rfl (gM rfl (gE (gze hm [1,2] rfl)))))
   repeat clear hm
   intro cF cG w hm cH cI
   exact gS (gR (gB rfl (gE (gS (go _ 62 rfl (decide_eq_false (by omega)) (gcf rfl (gXt (gHh (gR (gP (by omega) (by omega) rfl (gM rfl (gE (gze hm [0,1] rfl)))))))))))))
  repeat clear hm
  intro cJ cK w hm cL cM
  exact gS (gR (gB rfl (gE (gS (go _ 25 rfl (decide_eq_false (by omega)) (gcf rfl (gXt (gHh (gS (gR (gM rfl (gA rfl (gE (gRt (gr1 results151 rfl ⟨aC,rfl,hm.pk [0] rfl rfl⟩)))))))))))))))
theorem impl_MadeBy_ok (w0 : World) (x_ : Ins_) (v1 : Value) (h1 : GT.rep (hp w0) [v1] x_.args) :
    ConM Tryz.prog 129 [(.agg #[nV x_.op,nV x_.to,v1,nV x_.n_])] w0 (impl_MadeBy x_) λr v w'=>v = (nV r) ∧ Below w0.heap.size w0 w' := by
  unfold impl_MadeBy
  refine gcon func129 rfl λr=>?_
  have hm := Mem.start w0
  refine gS (gR (gBx hm rfl λaC w hm=>gA rfl (gE (gS (gS (gR (gF fo_51_0 rfl (gL hm 0 isAgg3 rfl (gC hm rfl call92 (impl_sets_ok _ x_.op) λaD aE w hm=>gN rfl (gE (gsn 6 rfl (λaA=>?_) λaA=>?_)))))))))))
  ·exact gct rfl (gS (gR (gA rfl (gE (gRt (gr1 results129 rfl ⟨rfl,hm.below⟩))))))
  exact gcf rfl (gSk (gS (gR (gF fo_51_1 rfl (gL hm 0 isAgg3 rfl (gA rfl (gE (gRt (gr1 results129 rfl ⟨rfl,hm.below⟩)))))))))
theorem impl_regSet__with_ok (w0 : World) (hz : Heap) (s_ : MapS Bool) (v1 : Value) (list : List Int) (v2 : Value) (h2 : GT.rep hz [v2] list) (hm0 : Mem w0 hz w0 [owm v1 s_]) :
    ConM Tryz.prog 152 [v1,v2] w0 (impl_regSet__with s_ list) λr v w'=>v = v1 ∧ Mem w0 hz w' [owm v1 r] := by
  unfold impl_regSet__with
  refine gcon func152 rfl λr=>?_
  have hm := hm0
  refine gS (gR (gA rfl (gE (gS (gS (gR (gM rfl ?_)))))))
  obtain ⟨aF,aG,rfl,aJ⟩ := ro_slice h2
  refine gY (yV st_47 rfl) (gM rfl (gE (gBk (gNf hm (λaA aC=>[(0,v1),(7,(.slice aF list.length aG)),(8,(nV ((list.length : Int)))),(9,(nV aA))]) (λaA aC=>[owm v1 aC]) [0] rfl ?_ ?_))))
  ·repeat clear hm
   intro _ _ aA aC w hm aL aM aN _
   refine gS (gR (gB rfl (gE (gS (go _ 10 rfl (decide_eq_true (by omega)) (gct rfl (gSk (gS (gBk (gS (gR (gg λaE aH aD=>?_))))))))))))
   obtain ⟨aO,aP,aQ,he⟩ := idx_form h2 aD
   obtain ⟨rfl,_,rfl⟩ := sl3 he
   refine gI st_47 aH (idx_lt aD) rfl (gY (yl isAgg3 ((flat_cells (cs := [nV aE]) (hm.now h2) aD rfl).cell (j := 0) rfl) rfl) (gA rfl (gE (gR (gM rfl (gM rfl (gf0 rfl (λa hf=>e_insM (β := Bool) (key := aE) (u := true) (b := false) 0 underlying3 underlying88 hf hm rfl rfl rfl rfl rfl) ?_)))))))
   rintro _ w hm
   exact gE (gR (gP (by omega) (by omega) rfl (gM rfl (gE (gze hm [0] rfl)))))
  repeat clear hm
  intro aR aS w hm aT aV
  exact gS (gR (gB rfl (gE (gS (go _ 10 rfl (decide_eq_false (by omega)) (gcf rfl (gXt (gHh (gS (gR (gM rfl (gA rfl (gE (gRt (gr1 results152 rfl ⟨rfl,hm.pk [0] rfl rfl⟩)))))))))))))))
theorem pimpl_live__behind_ok (w0 : World) (l_ : live) (bp0 : Nat) (v1p : Value) (h1p : GT.rep (hp w0) [v1p] l_.c.blocks) (v2p : Value) (h2p : GT.rep (hp w0) [v2p] l_.ins) (v3p : Value) (h3p : GT.rep (hp w0) [v3p] l_.preds) (hbbp0 : (hp w0) bp0 = some (.cells ([nV l_.c.params, nV l_.c.regs, v1p, v2p, v3p] : List Value).toArray 91 (0, 0))) (b_ : Int) (i_ : Int) :
    ConM Tryz.prog 91 [(pV bp0),nV b_,nV i_] w0 (pimpl_live__behind l_ b_ i_) λr v w'=>∃ (x1 : Value),v = x1 ∧ Mem w0 (hp w0) w' [owm x1 r] := by
  unfold pimpl_live__behind
  refine gcon func91 rfl λr=>?_
  have hm := Mem.start w0
  refine gS (gR (gA rfl (gE (gS (gR (gM rfl (gM rfl (gCg rfl call151 (pimpl_live__outs_ok _ l_ bp0 v1p (hm.now h1p) v2p (hm.now h2p) v3p (hm.now h3p) (hm.lez _ _ ((Heap.le_refl _) _ _ hbbp0)) b_) ?_))))))))
  rintro ao ap aC w ⟨_,rfl,hB⟩
  replace hm := hm.give hB; clear hB
  refine gA rfl (gE (gS (gR (gM rfl (gY (yG rfl (y_nilptr rfl rfl)) (gF fo_91_0 rfl (gF fo_44_2 rfl (gY (yl isAgg42 (hm.hz_cell hbbp0 rfl) rfl) (gM rfl (gg λaA aY aO=>?_))))))))))
  obtain ⟨aq,ar,au,he⟩ := idx_form' h1p aO
  subst he
  obtain ⟨aG,aZ,aH,aa,ab,aJ,ac⟩ := rk_Block_ h1p aO
  refine gI st_42 aY (idx_lt aO) rfl (gY (yn (aa.mono hm.lez) isAgg49 sizeOf49 rfl) (gAl hm zeroValue49 rfl λaD w hm=>gSN hm 0 sizeOf49 (one_cons (rep_one ab) (one_cons (rep_one aJ) (one_cons rfl (one_cons rfl (one_cons (rep_one ac) one_nil))))) rfl λw hm=>gE (gS (gS (gR (gF fo_49_2 rfl (gL hm 0 isAgg3 rfl (gC hm rfl call93 (impl_usesOn_ok _ aA.jump) λav aw w hm=>gE (gJ hm (λaL=>[(2,(nV i_)),(7,aC),(8,(pV aD))]) (λaL=>[owm aC aL,blk aD [aG,aZ,nV aA.jump,nV aA.on,aH] 49]) (λaL=>?_) ?_)))))))))
  ·refine gs 24 rfl (fun ae => ?_) fun ae => ?_
   ·refine gct rfl (gR (gM rfl (gF fo_49_3 rfl (gL hm 0 isAgg3 rfl (gf0 rfl (fun a hf => e_insM (β := Bool) (key := aA.on) (u := true) (b := false) 1 underlying3 underlying88 hf hm rfl rfl rfl rfl rfl) ?_)))))
    rintro _ w hm
    exact gE (gz hm [1,0] rfl)
   exact gcf rfl (gSk (gz hm [1,0] rfl))
  repeat clear hm
  intro aL w hm
  refine gS (gS (gR (gF fo_49_1 rfl (gL hm 1 isAgg46 rfl ?_))))
  obtain ⟨af,aP,rfl,ax⟩ := ro_slice aJ
  refine gY (yV st_46 rfl) (gY (yS (by omega) (by omega) rfl) (gA rfl (gE (gJ hm (λaM=>[(7,aC)]) (λaM=>[owm aC aM]) (λaM=>?_) ?_))))
  ·refine gBk (gMf hm (fun aF => [(2, (nV i_)), (7, aC), (8, (pV aD)), (9, (nV aF.2))]) (fun aF => [owm aC aF.1, blk aD [aG, .slice af aA.ins.length aP, nV aA.jump, nV aA.on, aH] 49]) [0, 1] rfl ?_)
   repeat clear hm
   intro ay ah aF w hm az ai
   refine gS (gS (gR (gM rfl (gM rfl (gB rfl (gE (gsd 34 rfl (λaj=>?_) λaj=>?_)))))))
   ·refine gct rfl (gSk (gS (gBk (gS (gS (gR (gF fo_49_1 rfl (gL hm 1 isAgg46 rfl (gM rfl (gg fun aQ aR aN => ?_))))))))))
    obtain ⟨aS,aT,bA,he⟩ := idx_form' aJ aN
    obtain ⟨rfl,_,rfl⟩ := sl3 he
    obtain ⟨aV,aW,aX⟩ := rk_Ins_ aJ aN
    refine gI st_46 aR (idx_lt aN) rfl (gY (yn (aW.mono hm.lez) isAgg51 sizeOf51 rfl) (gC hm rfl call129 (impl_MadeBy_ok _ aQ aV (hm.now aX)) λak bB w hm=>gA rfl (gE (gS (gR (gM rfl (gB rfl (gE (gJ hm (λaE=>[(2,(nV i_)),(7,aC),(8,(pV aD)),(9,(nV aF.2))]) (λaE=>[owm aC aE,blk aD [aG,sV aS aT aA.ins.length aP,nV aA.jump,nV aA.on,aH] 49]) (λaE=>?_) ?_)))))))))
    ·refine gsd 44 rfl (fun al => ?_) fun al => ?_
     ·refine gct rfl (gR (gM rfl (gM rfl (gf0 rfl (fun a hf => e_delM (β := Bool) (key := ak) 0 underlying3 underlying88 hf hm rfl rfl rfl rfl rfl) ?_))))
      rintro _ w hm
      exact gE (gz hm [0,1] rfl)
     exact gcf rfl (gSk (gz hm [0,1] rfl))
    repeat clear hm
    intro aE w hm
    refine gR (gM rfl (gF fo_49_1 rfl (gL hm 1 isAgg46 rfl (gM rfl (gI st_46 aR (idx_lt aN) rfl (gF fo_51_2 rfl (gY (yl isAgg47 ((aW.mono hm.lez).cell (j := 2) rfl) rfl) ?_)))))))
    obtain ⟨am,hle,hm1,hsub,an⟩ := hm.take2 (L1 := [owm aC aE]) (L2 := [blk aD [aG,sV aS aT aA.ins.length aP,nV aA.jump,nV aA.on,aH] 49]) [0] [1] (by decide) rfl rfl
    refine gCg rfl call152 (impl_regSet__with_ok _ am aE aC aQ.args aV (GT.mono hle aX) hm1 ) ?_
    rintro bC bD bE w ⟨rfl,hB⟩
    replace hm := an _ _ hB; clear hB
    exact gE (gR (gM rfl (gB rfl (gA rfl (gE (gze hm [0,1] rfl))))))
   exact gcf rfl (gXt (gHh (gLp ai ah (gz hm [0] rfl))))
  repeat clear hm
  intro aM w hm
  exact gS (gR (gM rfl (gA rfl (gE (gRt (gr1 results91 rfl ⟨aC,rfl,hm.pk [0] rfl rfl⟩))))))
theorem impl_liveOf_ok (w0 : World) (hz : Heap) (hle0 : Heap.le hz (hp w0)) (c_ : Code_) (v1 : Value) (h1 : GT.rep hz [v1] c_.blocks) :
    ConM Tryz.prog 56 [(.agg #[nV c_.params,nV c_.regs,v1])] w0 (impl_liveOf c_) λr v w'=>∃ (b1 : Nat) (x2 : Value) (x3 : Value) (x4 : Value) (hz2 : Heap),v = (pV b1) ∧ Heap.le hz hz2 ∧ GT.rep hz2 [x2] r.c.blocks ∧ Mem w0 hz2 w' [junk w0 hz,blk b1 [nV r.c.params,nV r.c.regs,x2,x3,x4] 91,ow [x3] r.ins,ow [x4] r.preds] := by
  unfold impl_liveOf
  refine gcon func56 rfl λr=>?_
  have hm := Mem.startA hle0
  refine gS (gR (gBx hm rfl λaJ w hm=>gA rfl (gE (gS (gW (.p 1 (.q 0 (.e 2 (.p 3 (.e 4 (.p 5 (.e 6 (.p 7 .fin) .nil)) .nil)) .nil))) [2,4] [1,3,5,7] hm [0,1] [blk aJ [nV c_.params,nV c_.regs,v1] 44,junk w0 hz] rfl mxo (by kernel_rfl) (λ_ _ _ h=>h.2) λw hm hS=>tP rfl (λw=>yF fo_44_2 rfl) (tQ rfl hS (λw hm=>yn (hm.blk_at 0 rfl) isAgg44 sizeOf44 rfl) (tO (tY rfl (yL hm 0 isAgg42 rfl) (tAs hS ?_)))))))))
  obtain ⟨aG,aC,rfl,b8⟩ := ro_slice h1
  refine tP rfl (λw=>yV st_42 rfl) (tO (gb λaA bB=>?_))
  obtain ⟨⟨bC,bD⟩,av⟩ := makeM_some.1 bB
  refine tf rfl rfl (λa hf=>e_make (x0 := ((MapS.mk0 : MapS Bool) : MapS Bool)) et_89 (λ_=>(own_map.2 (.inl ⟨rfl,rfl⟩))) hf hm rfl rfl rfl bC (Int.le_refl _) bD) ?_
  rintro b9 w hm
  rw [av] at hm
  have h0_1l : (aA.length : Int) = (c_.blocks.length : Int) := by rw [← av]; simp only [List.length_replicate]; omega
  refine tAk hm [1,2] rfl λhS=>?_
  obtain ⟨aF,aD,rfl,ba⟩ := ro_slice (hm.ow_rep 0 rfl)
  refine tP rfl (λw=>yG rfl (y_build (vs := [(0,(.agg #[nV c_.params,nV c_.regs,.slice aG c_.blocks.length aC])),(1,(.slice aF aA.length aD))]) (cs := #[nV c_.params,nV c_.regs,.slice aG c_.blocks.length aC,.slice aF aA.length aD,.slice none 0 0]) rfl rfl (by kernel_rfl))) (tO (tf rfl rfl (λa hf=>e_box hf hm rfl rfl rfl) ?_))
  rintro _ w ⟨aH,rfl,hm⟩
  refine tAn rfl (tP rfl (λw=>yA rfl) (tE (gS (gS (gR (gF fo_44_2 rfl (gL hm 2 isAgg42 rfl (gY (yV st_42 rfl) (gM rfl (gE (gBk ?_)))))))))))
  replace hm := hm.nilow (α := List Int)
  refine gNg (λaj aS a w=>∃ (aO : Value),St 82 [(1,(pV aJ)),(3,(pV aH)),(19,(nV ((c_.blocks.length : Int)))),(20,(nV aj))] w0 hz [blk aJ [nV c_.params,nV c_.regs,.slice aG c_.blocks.length aC] 44,blk aH [nV c_.params,nV c_.regs,.slice aG c_.blocks.length aC,.slice aF aA.length aD,aO] 91,ow [.slice aF aA.length aD] aA,ow [aO] aS,junk w0 hz] a w) (λa hf=>⟨.slice none 0 0,hf.sb rfl,hm.pk [3,1,2,0,4] rfl rfl⟩) ?_ ?_
  ·repeat clear hm
   rintro _ _ aj aS a w ⟨aO,hf,hm⟩ bc bd be _
   refine gv hf (gS (gR (gB rfl (gE (gS (go _ 21 rfl (decide_eq_true (by omega)) (gct rfl (gSk (gS (gBk (gS (gR (gM rfl (gA rfl (gE (gW (.p 0 (.p 1 (.p 2 (.p 3 (.p 6 (.q 4 (.e 5 (.e 7 (.e 8 (.e 9 (.p 10 (.p 11 (.e 12 .fin .nil))) .nil) .nil) .nil) .nil))))))) [5,7,8] [0,1,2,3,6,10,11] hm [0,1,2,3,4] [blk aJ [nV c_.params,nV c_.regs,.slice aG c_.blocks.length aC] 44,blk aH [nV c_.params,nV c_.regs,.slice aG c_.blocks.length aC,.slice aF aA.length aD,aO] 91,ow [.slice aF aA.length aD] aA,ow [aO] aS,junk w0 hz] rfl mxo (by kernel_rfl) (λ_ _ _ h=>h.2) λw hm hS=>tP rfl (λw=>yM rfl) (tP rfl (λw=>yM rfl) (tP rfl (λw=>yG rfl (y_nilptr rfl rfl)) (tP rfl (λw=>yF fo_91_2 rfl) (tP rfl (λw=>yM rfl) (tQ rfl hS (λw hm=>yL hm 1 isAgg59 rfl) (tO (tY rfl (yn (hm.blk_at 0 rfl) isAgg44 sizeOf44 rfl) (tAs hS (tO (gb λaP bE=>tf rfl rfl (λa hf=>e_call hf rfl call60 rfl (impl_PredsOf_ok _ c_ (.slice aG c_.blocks.length aC) (hm.now h1) aj _ bE)) ?_))))))))))))))))))))))))))
   rintro bf w ⟨_,rfl,hB⟩
   replace hm := hm.give hB; clear hB
   refine tAk hm [1,2,3,4,5] rfl λhS=>tO ?_
   obtain ⟨aZ,aa,rfl,bg⟩ := ro_slice (hm.ow_rep 0 rfl)
   refine tf rfl rfl (λa hf=>e_build (vs := #[(0,(.slice aZ aP.length aa))]) (cs := [.slice aZ aP.length aa]) et_59 hf hm rfl rfl (by kernel_rfl) rfl rfl) ?_
   rintro _ w ⟨ak,rfl,hm⟩
   replace hm := hm.els_nil (α := List Int)
   replace hm := hm.imp (c' := ow [.slice aZ aP.length aa] (aP : List Int)) 2 rfl (λF h0=>h0)
   replace hm := (hm.els_cons 0 2 (by decide) rfl rfl).pk (L' := [els [.slice aZ aP.length aa] ([aP] : List (List Int)),blk ak [.slice aZ aP.length aa] 47,blk aJ [nV c_.params,nV c_.regs,.slice aG c_.blocks.length aC] 44,blk aH [nV c_.params,nV c_.regs,.slice aG c_.blocks.length aC,.slice aF aA.length aD,aO] 91,ow [.slice aF aA.length aD] aA,ow [aO] aS,junk w0 hz]) [0,1,3,4,5,6,7] rfl rfl
   replace hm := (hm.lit_els 1 0 (by decide) rfl rfl rfl rfl).pk (L' := [ow [sV ak 0 1 1] ([aP] : List (List Int)),blk aJ [nV c_.params,nV c_.regs,.slice aG c_.blocks.length aC] 44,blk aH [nV c_.params,nV c_.regs,.slice aG c_.blocks.length aC,.slice aF aA.length aD,aO] 91,ow [.slice aF aA.length aD] aA,ow [aO] aS,junk w0 hz]) [1,2,3,4,5,6] rfl rfl
   refine tAk hm [1,2,3,4,5] rfl λhS=>tO (gb λbh bF=>?_)
   obtain ⟨bG,bH⟩ := appM_some.1 bF
   replace hm := (hm.both 4 0 (by decide) rfl rfl).pk (L' := [blk aJ [nV c_.params,nV c_.regs,.slice aG c_.blocks.length aC] 44,blk aH [nV c_.params,nV c_.regs,.slice aG c_.blocks.length aC,.slice aF aA.length aD,aO] 91,ow [.slice aF aA.length aD] aA,both (ow [aO] aS) (ow [sV ak 0 1 1] ([aP] : List (List Int))),junk w0 hz]) [1,2,3,4,5] rfl rfl
   refine tf rfl rfl (λa hf=>e_appendD (xs := aS) (ys := ([aP] : List (List Int))) 3 et_59 hf hm rfl rfl rfl rfl bG) ?_
   rintro bJ w hm
   rw [bH] at hm
   refine tAn rfl (tP rfl (λw=>yG rfl (y_nilptr rfl rfl)) (tP rfl (λw=>yF fo_91_2 rfl) (tO (tf0 rfl rfl (λa hf=>e_store1 1 hf hm rfl sizeOf59 rfl rfl rfl (rep_one (hm.ow_rep 3 rfl)) rfl) ?_))))
   rintro _ w hm
   exact tAn rfl (tE (gR (gP (by omega) (by omega) rfl (gM rfl (gE (gZe λa hf=>⟨bJ,hf.sb rfl,hm.pk [0,1,2,3,4] rfl rfl⟩))))))
  repeat clear hm
  rintro bi aE a w ⟨bj,hf,hm⟩ bk bm
  refine gv hf (gS (gR (gB rfl (gE (gS (go _ 21 rfl (decide_eq_false (by omega)) (gcf rfl (gXt (gHh (gS (gS (gR (gA rfl (gE ?_))))))))))))))
  obtain ⟨aL,aM,rfl,bp⟩ := ro_slice (hm.ow_rep 3 rfl)
  refine gJ hm (λaf=>[(3,(pV aH))]) (λaf=>[blk aH [nV c_.params,nV c_.regs,.slice aG c_.blocks.length aC,.slice aF aA.length aD,.slice aL aE.length aM] 91,ow [.slice aF aA.length aD] af,ow [.slice aL aE.length aM] aE,junk w0 hz]) (λaf=>?_) ?_
  ·refine gBk (gMf hm (fun ah => [(1, (pV aJ)), (3, (pV aH)), (5, (.bool (ah.2)))]) (fun ah => [blk aJ [nV c_.params, nV c_.regs, .slice aG c_.blocks.length aC] 44, blk aH [nV c_.params, nV c_.regs, .slice aG c_.blocks.length aC, .slice aF aA.length aD, .slice aL aE.length aM] 91, ow [.slice aF aA.length aD] ah.1, ow [.slice aL aE.length aM] aE, junk w0 hz]) [0, 1, 2, 3, 4] rfl ?_)
   repeat clear hm
   intro bq bK ah w hm br bL
   refine gS (gS (gR (gM rfl (gE (gs 36 rfl (λbM=>?_) λbM=>?_)))))
   ·refine gct rfl (gSk (gBk (gS (gR (gA rfl (gE (gS (gR (gF fo_44_2 rfl (gL hm 0 isAgg42 rfl (gY (yV st_42 rfl) (gY (yS (by omega) (by omega) rfl) (gA rfl (gE (gJ hm (fun ab => [(1, (pV aJ)), (3, (pV aH)), (5, (.bool (ab.2)))]) (fun ab => [blk aJ [nV c_.params, nV c_.regs, .slice aG c_.blocks.length aC] 44, blk aH [nV c_.params, nV c_.regs, .slice aG c_.blocks.length aC, .slice aF aA.length aD, .slice aL aE.length aM] 91, ow [.slice aF aA.length aD] ab.1, ow [.slice aL aE.length aM] aE, junk w0 hz]) (fun ab => ?_) ?_)))))))))))))))
    ·refine gBk (gMf hm (fun aN => [(1, (pV aJ)), (3, (pV aH)), (5, (.bool (aN.2.1))), (6, (nV aN.2.2))]) (fun aN => [blk aJ [nV c_.params, nV c_.regs, .slice aG c_.blocks.length aC] 44, blk aH [nV c_.params, nV c_.regs, .slice aG c_.blocks.length aC, .slice aF aA.length aD, .slice aL aE.length aM] 91, ow [.slice aF aA.length aD] aN.1, ow [.slice aL aE.length aM] aE, junk w0 hz]) [0, 1, 2, 3, 4] rfl ?_)
     repeat clear hm
     intro bs bN aN w hm bt bO
     refine gS (gS (gR (gM rfl (gB rfl (gE (gsd 42 rfl (λbP=>?_) λbP=>?_))))))
     ·refine gct rfl (gSk (gS (gJ hm (fun ac => [(1, (pV aJ)), (3, (pV aH)), (5, (.bool (ac.2))), (6, (nV aN.2.2))]) (fun ac => [blk aJ [nV c_.params, nV c_.regs, .slice aG c_.blocks.length aC] 44, blk aH [nV c_.params, nV c_.regs, .slice aG c_.blocks.length aC, .slice aF aA.length aD, .slice aL aE.length aM] 91, ow [.slice aF aA.length aD] ac.1, ow [.slice aL aE.length aM] aE, junk w0 hz]) (fun ac => ?_) ?_)))
      ·refine gBk (gS (gR (gM rfl (gM rfl (gCg rfl call91 (pimpl_live__behind_ok _ (⟨c_, aN.1, aE⟩ : live) aH (.slice aG c_.blocks.length aC) (hm.now h1) (.slice aF aA.length aD) (hm.ow_rep 2 rfl) (.slice aL aE.length aM) (hm.ow_rep 3 rfl) (hm.blk_cells 1 rfl).1 aN.2.2 (-1)) ?_)))))
       rintro bu bv aT w ⟨_,rfl,hB⟩
       replace hm := hm.give hB; clear hB
       refine gA rfl (gE (gS (gS (gR (gF fo_44_2 rfl (gL hm 1 isAgg42 rfl (gM rfl (gg λaw bQ al=>?_))))))))
       obtain ⟨aQ,aR,bx,he⟩ := idx_form' h1 al
       obtain ⟨rfl,_,rfl⟩ := sl3 he
       obtain ⟨bz,cA,cB,bR,am,cC,cD⟩ := rk_Block_ h1 al
       refine gI st_42 bQ (idx_lt al) rfl (gF fo_49_0 rfl (gY (yl isAgg45 ((bR.mono hm.lez).cell (j := 0) rfl) rfl) ?_))
       obtain ⟨bS,bT,rfl,cE⟩ := ro_slice am
       refine gY (yV st_45 rfl) (gM rfl (gE (gBk (gNf hm (λan ao=>[(1,(pV aJ)),(3,(pV aH)),(5,(.bool (aN.2.1))),(6,(nV aN.2.2)),(7,aT),(53,(.slice bS aw.phis.length bT)),(54,(nV ((aw.phis.length : Int)))),(55,(nV an))]) (λan ao=>[blk aJ [nV c_.params,nV c_.regs,sV aQ aR c_.blocks.length aC] 44,blk aH [nV c_.params,nV c_.regs,sV aQ aR c_.blocks.length aC,.slice aF aA.length aD,.slice aL aE.length aM] 91,ow [.slice aF aA.length aD] aN.1,ow [.slice aL aE.length aM] aE,owm aT ao,junk w0 hz]) [1,2,3,4,0,5] rfl ?_ ?_))))
       ·repeat clear hm
        intro _ _ an ao w hm cF cG cH _
        refine gS (gR (gB rfl (gE (gS (go _ 56 rfl (decide_eq_true (by omega)) (gct rfl (gSk (gS (gBk (gS (gR (gg λbU bV ap=>?_))))))))))))
        obtain ⟨cI,cJ,cK,he⟩ := idx_form' am ap
        obtain ⟨rfl,_,rfl⟩ := sl3 he
        obtain ⟨cL,bW,bX⟩ := rk_Phi_ am ap
        refine gI st_45 bV (idx_lt ap) rfl (gY (yn (bW.mono hm.lez) isAgg105 sizeOf105 rfl) (gAl hm zeroValue105 rfl λcM w hm=>gSN hm 0 sizeOf105 (one_cons rfl (one_cons (rep_one bX) one_nil)) rfl λw hm=>gE (gR (gM rfl (gF fo_105_0 rfl (gL hm 0 isAgg3 rfl (gf0 rfl (λa hf=>e_delM (β := Bool) (key := bU.to) 5 underlying3 underlying88 hf hm rfl rfl rfl rfl rfl) ?_)))))))
        rintro _ w hm
        exact gE (gR (gP (by omega) (by omega) rfl (gM rfl (gE (gze hm [1,2,3,4,5,6] rfl)))))
       repeat clear hm
       intro cN aV w hm cO cP
       refine gS (gR (gB rfl (gE (gS (go _ 56 rfl (decide_eq_false (by omega)) (gcf rfl (gXt (gHh (gS (gW (.p 0 (.p 2 (.p 3 (.p 4 (.p 6 (.q 1 (.e 5 (.p 7 (.e 8 (.e 9 (.p 10 .fin) .nil) .nil)) .nil))))))) [5,8] [0,2,3,4,6,7,10] hm [0,1,2,3,4,5] [blk aJ [nV c_.params,nV c_.regs,sV aQ aR c_.blocks.length aC] 44,blk aH [nV c_.params,nV c_.regs,sV aQ aR c_.blocks.length aC,.slice aF aA.length aD,.slice aL aE.length aM] 91,ow [.slice aF aA.length aD] aN.1,ow [.slice aL aE.length aM] aE,owm aT aV,junk w0 hz] rfl mxo (by kernel_rfl) (λ_ _ _ h=>h.2) λw hm hS=>tP rfl (λw=>yM rfl) (tP rfl (λw=>yM rfl) (tP rfl (λw=>yG rfl (y_nilptr rfl rfl)) (tP rfl (λw=>yF fo_91_1 rfl) (tP rfl (λw=>yM rfl) (tQ rfl hS (λw hm=>yG rfl (y_lenS (m := (aV : MapS Bool)) underlying88 (hm.owm_rep 4 rfl) rfl rfl)) (tO (tY rfl (yL hm 1 isAgg89 rfl) (tAs hS (gg λaq ax aW=>?_)))))))))))))))))))
       obtain ⟨aX,aY,cQ,he⟩ := idx_form' (hm.ow_rep 2 rfl) aW
       obtain ⟨rfl,_,rfl⟩ := sl3 he
       obtain ⟨_,_,ar,bY⟩ := ro_get' (hm.ow_rep 2 rfl) aW
       have ai := bY
       obtain ⟨ay,rfl,-⟩ := id ai
       replace ai : GT.rep (hp _) [ay] aq := ai
       replace ar : CellsAt (hp _) aX (aY + (aN.2.2).toNat * 1) [ay] := ar
       have hL5_1 := rep_slice_len (hm.ow_rep 2 rfl)
       refine tP rfl (λw=>yI st_89 ax (idx_lt2 aW hL5_1) rfl) (tO (tY rfl (yl isAgg88 (ar.cell (j := 0) rfl) rfl) (tAs hS (tO (tY rfl (yG rfl (y_lenS (m := (aq : MapS Bool)) underlying88 ai rfl rfl)) (tAn rfl (tP rfl (λw=>yB rfl) (tE (gJ hm (λae=>[(1,(pV aJ)),(3,(pV aH)),(5,(.bool (ae.2))),(6,(nV aN.2.2))]) (λae=>[blk aJ [nV c_.params,nV c_.regs,sV aQ aR c_.blocks.length aC] 44,blk aH [nV c_.params,nV c_.regs,sV aQ aR c_.blocks.length aC,sV aX aY aA.length aD,.slice aL aE.length aM] 91,ow [sV aX aY aA.length aD] ae.1,ow [.slice aL aE.length aM] aE,junk w0 hz]) (λae=>?_) ?_)))))))))
       ·refine gsd 73 rfl (fun bZ => ?_) fun bZ => ?_
        ·refine gct rfl (gR (gM rfl (gY (yG rfl (y_nilptr rfl rfl)) (gF fo_91_1 rfl (gL hm 1 isAgg89 rfl (gM rfl (gM rfl ?_)))))))
         obtain ⟨_,_,az,b6⟩ := ro_get' (hm.ow_rep 2 rfl) aW
         have au := b6
         obtain ⟨bA,rfl,-⟩ := id au
         replace au : GT.rep (hp _) [bA] aq := au
         replace az : CellsAt (hp _) aX (aY + (aN.2.2).toNat * 1) [bA] := az
         have hL6_1 := rep_slice_len (hm.ow_rep 2 rfl)
         refine gI st_89 ax (idx_lt2 aW hL6_1) rfl ?_
         have b7 := owm_cells hm 4 rfl
         replace hm := hm.imp (c' := ow [aT] (aV : MapS Bool)) 4 rfl (λF h0=>own_owm h0)
         replace hm := hm.imp (c' := ow [aT] (aV : MapS Bool)) 4 rfl (λF h0=>h0)
         replace hm := (hm.both 2 4 (by decide) rfl rfl).pk (L' := [blk aJ [nV c_.params,nV c_.regs,sV aQ aR c_.blocks.length aC] 44,blk aH [nV c_.params,nV c_.regs,sV aQ aR c_.blocks.length aC,sV aX aY aA.length aD,.slice aL aE.length aM] 91,both (ow [sV aX aY aA.length aD] aN.1) (ow [aT] (aV : MapS Bool)),ow [.slice aL aE.length aM] aE,junk w0 hz]) [0,1,2,3,5] rfl rfl
         refine gf0 rfl (λa hf=>e_putElem (x1 := (aV : MapS Bool)) (vs := [aT]) 2 hf hm rfl aW rfl sizeOf88 rfl rfl b7 rfl) ?_
         rintro _ w hm
         have cR := List.getElem?_set_self (a := (aV : MapS Bool)) (idx_lt aW)
         exact gA rfl (gE (gz hm [0,1,2,3,4] rfl))
        exact gcf rfl (gSk (gz hm [0,1,2,3,5] rfl))
       repeat clear hm
       intro ae w hm
       exact gz hm [0,1,2,3,4] rfl
      repeat clear hm
      intro ac w hm
      exact gR (gM rfl (gB rfl (gA rfl (gE (gze hm [0,1,2,3,4] rfl)))))
     exact gcf rfl (gXt (gHh (gLp bO bN (gz hm [0,1,2,3,4] rfl))))
    repeat clear hm
    intro ab w hm
    exact gze hm [0,1,2,3,4] rfl
   exact gcf rfl (gXt (gHh (gLp bL bK (gz hm [1,2,3,4] rfl))))
  repeat clear hm
  intro af w hm
  exact gS (gR (gM rfl (gA rfl (gE (gRt (gr1 results56 rfl ⟨aH,.slice aG c_.blocks.length aC,.slice aF aA.length aD,.slice aL aE.length aM,hz,rfl,(Heap.le_refl _),h1,hm.pk [3,0,1,2] rfl rfl⟩))))))
theorem impl_sortedKeys_bool_ok (w0 : World) (m : MapS Bool) (v1 : Value) (h1 : GT.rep (hp w0) [v1] m) :
    ConM Tryz.prog 55 [v1] w0 (impl_sortedKeys_bool m) λr v w'=>∃ (x1 : Value),v = x1 ∧ Mem w0 (hp w0) w' [ow [x1] r] := by
  unfold impl_sortedKeys_bool
  rw [← keys_model]
  refine gcon func55 rfl λr=>?_
  have hm := Mem.start w0
  refine gS (gR (gA rfl (gE (gS (gR (gA rfl (gE (gS (gS (gR (gM rfl (gf rfl (λa hf=>e_rangeS (m := (m : MapS Bool)) hf hm underlying87 h1 rfl rfl) ?_))))))))))))
  rintro _ w ⟨aD,rfl,hm⟩
  refine gE (gBk ?_)
  replace hm := hm.nilow (α := Int)
  refine gRngK (m := (m : MapS Bool)) (λxs ys h=>by simp only [sortI_perm h]) h1 (λaE aF a w=>∃ (aA : Value),St 18 [(3,aA),(6,(pV aD))] w0 (hp w0) [ow [aA] aF,itc (hp w0) v1 aD aE] a w) (λa hf=>⟨.slice none 0 0,hf.sb rfl,hm.pk [0,1] rfl rfl⟩) ?_ ?_
  ·repeat clear hm
   rintro aE aF a w ⟨aA,hf,hm⟩ hmo
   refine gv (m := some ()) (r := ()) hf ?_ rfl
   refine gS (gR (gf rfl (λa hf=>e_nextS 1 hf hm rfl hmo rfl rfl) ?_))
   rintro _ w ⟨aP,aC,aQ,rfl,aG,aH,hm⟩
   refine gSw aG (gX rfl (gE (gS (gct rfl (gSk (gBk (gS (gR (gY (yG rfl (y_entryS 1 hm rfl aH rfl rfl)) (gX rfl (gA rfl (gE (gR (gM rfl (gM rfl (gf rfl (λa hf=>e_build (vs := #[(0,(nV aC.1))]) (cs := [nV aC.1]) et_47 hf hm rfl rfl (by kernel_rfl) rfl rfl) ?_))))))))))))))))
   rintro _ w ⟨aR,rfl,hm⟩
   replace hm := hm.lit (xs := ([aC.1] : List Int)) 0 rfl rfl rfl rfl
   refine gb λaS aJ=>?_
   obtain ⟨aL,aM⟩ := appM_some.1 aJ
   refine gf rfl (λa hf=>e_append 1 et_47 hf hm rfl (hm.ow_rep 0 rfl) rfl rfl rfl aL) ?_
   rintro aN w hm
   rw [aM] at hm
   exact gA rfl (gE (gZr aH aG λa hf=>⟨aN,hf.sb rfl,hm.pk [1,2] rfl rfl⟩))
  repeat clear hm
  rintro aT aV a w ⟨aO,hf,hm⟩ hno hk
  refine gv hf ?_ hk
  refine gS (gR (gY (yG rfl (y_nextE 1 hm rfl hno rfl rfl)) (gX rfl (gE (gS (gcf rfl (gXt (gHh (gS (gR (gM rfl (gf rfl (λa hf=>e_call hf rfl call90 rfl (sort_con lays189 hm 0 rfl)) ?_))))))))))))
  rintro _ w ⟨rfl,hm⟩
  exact gE (gS (gR (gM rfl (gA rfl (gE (gRt (gr1 results55 rfl ⟨aO,rfl,hm.pk [0] rfl rfl⟩)))))))
theorem impl_inlined_1_ok (w0 : World) (hz : Heap) (r_ : Int) (hx0 : Heap) (bp0 ip0 : Nat) (c0_ : Int) (bpc0 : Nat) (hbbpc0 : hz bpc0 = some (.cells ([nV c0_] : List Value).toArray 3 (0, 0))) (hm0 : Mem w0 hz w0 [celc hx0 bp0 ip0 (nV r_)]) :
    ConM Tryz.prog 58 [(.pointer (some ⟨bp0,ip0,none⟩)),(pV bpc0)] w0 (impl_inlined_1 r_ c0_) λr v w'=>v = (.tuple #[]) ∧ Mem w0 hz w' [celc hx0 bp0 ip0 (nV r)] := by
  unfold impl_inlined_1
  refine gcon func58 rfl λr=>?_
  have hm := hm0
  refine gW (.p 0 (.p 1 (.q 2 (.e 3 (.p 4 (.p 5 (.e 6 .fin .nil))) .nil)))) [3] [0,1,4,5] hm [0] [celc hx0 bp0 ip0 (nV r_)] rfl mxo (by kernel_rfl) (λ_ _ _ h=>h.2) λw hm hS=>tP rfl (λw=>yM rfl) (tP rfl (λw=>yG rfl (y_nilptr rfl rfl)) (tQ rfl hS (λw hm=>yl isAgg3 (hm.cel_cell 0 rfl) rfl) (tO (tY rfl (yl isAgg3 (hm.hz_cell hbbpc0 rfl) rfl) (tAs hS (tP rfl (λw=>yB rfl) (tP rfl (λw=>yG rfl (y_nilptr rfl rfl)) (tO (tf0 rfl rfl (λa hf=>e_storeC 0 hf hm rfl sizeOf3 rfl rfl rfl rfl) ?_)))))))))
  rintro _ w hm
  exact tAn rfl (tE (gre results58 ⟨rfl,hm.pk [0] rfl rfl⟩))
end Go.Proofs.YthikiocjbepfnaaGreat
