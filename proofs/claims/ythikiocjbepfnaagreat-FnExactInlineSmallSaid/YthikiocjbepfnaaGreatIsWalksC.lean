/- A part of the proof of FnExactInlineSmallSaid. -/
import Derived.Test.YthikiocjbepfnaaGreatIsWalksB
namespace Go.Proofs.YthikiocjbepfnaaGreat
open Go Go.Wk Go.RowKit
set_option maxRecDepth 4000
set_option maxHeartbeats 4000000
open Tryz
theorem impl_mapped_impl_Code_impl_Code_ok (w0 : World) (list : List Code_) (v1 : Value) (h1 : GT.rep (hp w0) [v1] list) (f : Code_ → Option Code_) (fv1 : Value) (hfn1 : ∀ (w : World) (y0 : Code_) (z1 : Value) (_ : GT.rep (hp w) [z1] y0.blocks) (r : Code_), Below w0.heap.size w0 w → f y0 = some r → FnOk Tryz.prog fv1 [(.agg #[nV y0.params, nV y0.regs, z1])] w (fun v w' => ∃ (x1 : Value), v = (.agg #[nV r.params, nV r.regs, x1]) ∧ Mem w (hp w) w' [ow [x1] r.blocks])) :
    ConM Tryz.prog 41 [v1,fv1] w0 (impl_mapped_impl_Code_impl_Code list f) λr v w'=>∃ (x1:Value),v=x1∧Mem w0 (hp w0) w' [ow [x1] r]:=by
  unfold impl_mapped_impl_Code_impl_Code
  refine gcon func41 rfl λr=>?_
  have hm:=Mem.start w0
  refine gS (gR (gA rfl (gE (gS (gR (gA rfl (gE (gS (gS (gR (gM rfl ?_)))))))))))
  obtain ⟨aJ,aK,rfl,aW⟩:=ro_slice h1
  refine gY (yV st_26 rfl) (gM rfl (gE (gBk ?_)))
  replace hm:=hm.nilow (α:=Code_)
  refine gNg (λaG aB a w=>∃ (aC:Value),St 22 [(1,fv1),(5,aC),(8,(.slice aJ list.length aK)),(9,(nV ((list.length:Int)))),(10,(nV aG))] w0 (hp w0) [ow [aC] aB] a w) (λa hf=>⟨.slice none 0 0,hf.sb rfl,hm.pk [0] rfl rfl⟩) ?_ ?_
  ·repeat clear hm
   rintro _ _ aG aB a w ⟨aC,hf,hm⟩ aX aY aZ _
   refine gv hf (gS (gR (gB rfl (gE (gS (go _ 11 rfl (decide_eq_true (by omega)) (gct rfl (gSk (gS (gBk (gS (gR (gg λaE aL aF=>?_)))))))))))))
   obtain ⟨aa,ab,ac,he⟩:=idx_form' h1 aF
   obtain ⟨rfl,_,rfl⟩:=sl3 he
   obtain ⟨aH,aM,aI⟩:=rk_Code_ h1 aF
   refine gI st_26 aL (idx_lt aF) rfl (gY (yn (aM.mono hm.lez) isAgg44 sizeOf44 rfl) (gAl hm zeroValue44 rfl λaN w hm=>gSN hm 0 sizeOf44 (one_cons rfl (one_cons rfl (one_cons (rep_one aI) one_nil))) rfl λw hm=>gE (gR (gM rfl (gM rfl (gY (yn (hm.blk_at 0 rfl) isAgg44 sizeOf44 rfl) (gb λaA aO=>gf rfl (λa hf=>e_callv hf rfl rfl rfl (hfn1 _ aE aH (hm.now aI) _ hm.below aO)) ?_)))))))
   rintro ae w ⟨aD,rfl,hB⟩
   replace hm:=hm.give hB;clear hB
   refine gf rfl (λa hf=>e_build (vs:=#[(0,(.agg #[nV aA.params,nV aA.regs,aD]))]) (cs:=[nV aA.params,nV aA.regs,aD]) et_26 hf hm rfl rfl (by kernel_rfl) rfl rfl) ?_
   rintro _ w ⟨aP,rfl,hm⟩
   replace hm:=hm.els_nil (α:=Code_)
   replace hm:Mem w0 (hp w0) _ [els [] ([]:List Code_),blk aP [nV aA.params,nV aA.regs,aD] 44,ow [nV aA.params,nV aA.regs,aD] (aA:Code_),blk aN [nV aE.params,nV aE.regs,aH] 44,ow [aC] aB]:=mk_Code_ aA.params aA.regs hm 2 rfl
   replace hm:=(hm.els_cons 0 2 (by decide) rfl rfl).pk (L':=[_,_,_,_]) [0,1,3,4] rfl rfl
   replace hm:=(hm.lit_els 1 0 (by decide) rfl rfl rfl rfl).pk (L':=[_,_,_]) [1,2,3] rfl rfl
   refine gb λaf aQ=>?_
   obtain ⟨aR,aS⟩:=appM_some.1 aQ
   replace hm:=(hm.both 2 0 (by decide) rfl rfl).pk (L':=[_,_]) [1,2] rfl rfl
   refine gf rfl (λa hf=>e_appendD (xs:=aB) (ys:=([aA]:List Code_)) 1 et_26 hf hm rfl rfl rfl rfl aR) ?_
   rintro aT w hm
   rw [aS] at hm
   exact gA rfl (gE (gR (gP (by omega) (by omega) rfl (gM rfl (gE (gZe λa hf=>⟨aT,hf.sb rfl,hm.pk [1] rfl rfl⟩))))))
  repeat clear hm
  rintro ah ai a w ⟨aV,hf,hm⟩ aj ak
  exact gv hf (gS (gR (gB rfl (gE (gS (go _ 11 rfl (decide_eq_false (by omega)) (gcf rfl (gXt (gHh (gS (gR (gM rfl (gA rfl (gE (gRt (gr1 results41 rfl ⟨aV,rfl,hm.pk [0] rfl rfl⟩))))))))))))))))
theorem impl_mapped_impl_Block_impl_Block_ok (w0 : World) (list : List Block_) (v1 : Value) (h1 : GT.rep (hp w0) [v1] list) (f : Block_ → Option Block_) (fv1 : Value) (hfn1 : ∀ (w : World) (y0 : Block_) (z1 : Value) (_ : GT.rep (hp w) [z1] y0.phis) (z2 : Value) (_ : GT.rep (hp w) [z2] y0.ins) (z3 : Value) (_ : GT.rep (hp w) [z3] y0.next_) (r : Block_), Below w0.heap.size w0 w → f y0 = some r → FnOk Tryz.prog fv1 [(.agg #[z1, z2, nV y0.jump, nV y0.on, z3])] w (fun v w' => ∃ (x1 : Value) (x2 : Value) (x3 : Value), v = (.agg #[x1, x2, nV r.jump, nV r.on, x3]) ∧ Mem w (hp w) w' [ow [x1] r.phis, ow [x2] r.ins, ow [x3] r.next_])) :
    ConM Tryz.prog 88 [v1,fv1] w0 (impl_mapped_impl_Block_impl_Block list f) λr v w'=>∃ (x1:Value),v=x1∧Mem w0 (hp w0) w' [ow [x1] r]:=by
  unfold impl_mapped_impl_Block_impl_Block
  refine gcon func88 rfl λr=>?_
  have hm:=Mem.start w0
  refine gS (gR (gA rfl (gE (gS (gR (gA rfl (gE (gS (gS (gR (gM rfl ?_)))))))))))
  obtain ⟨aL,aM,rfl,aa⟩:=ro_slice h1
  refine gY (yV st_42 rfl) (gM rfl (gE (gBk ?_)))
  replace hm:=hm.nilow (α:=Block_)
  refine gNg (λaE aB a w=>∃ (aC:Value),St 22 [(1,fv1),(5,aC),(8,(.slice aL list.length aM)),(9,(nV ((list.length:Int)))),(10,(nV aE))] w0 (hp w0) [ow [aC] aB] a w) (λa hf=>⟨.slice none 0 0,hf.sb rfl,hm.pk [0] rfl rfl⟩) ?_ ?_
  ·repeat clear hm
   rintro _ _ aE aB a w ⟨aC,hf,hm⟩ ab ac ae _
   refine gv hf (gS (gR (gB rfl (gE (gS (go _ 11 rfl (decide_eq_true (by omega)) (gct rfl (gSk (gS (gBk (gS (gR (gg λaN aO aD=>?_)))))))))))))
   obtain ⟨af,ah,ai,he⟩:=idx_form' h1 aD
   obtain ⟨rfl,_,rfl⟩:=sl3 he
   obtain ⟨aP,aQ,aR,aS,aF,aG,aH⟩:=rk_Block_ h1 aD
   refine gI st_42 aO (idx_lt aD) rfl (gY (yn (aS.mono hm.lez) isAgg49 sizeOf49 rfl) (gAl hm zeroValue49 rfl λaj w hm=>gSN hm 0 sizeOf49 (one_cons (rep_one aF) (one_cons (rep_one aG) (one_cons rfl (one_cons rfl (one_cons (rep_one aH) one_nil))))) rfl λw hm=>gE (gR (gM rfl (gM rfl (gY (yn (hm.blk_at 0 rfl) isAgg49 sizeOf49 rfl) (gb λaA aT=>gf rfl (λa hf=>e_callv hf rfl rfl rfl (hfn1 _ aN aP (hm.now aF) aQ (hm.now aG) aR (hm.now aH) _ hm.below aT)) ?_)))))))
   rintro ak w ⟨aI,aJ,aK,rfl,hB⟩
   replace hm:=hm.give hB;clear hB
   refine gf rfl (λa hf=>e_build (vs:=#[(0,(.agg #[aI,aJ,nV aA.jump,nV aA.on,aK]))]) (cs:=[aI,aJ,nV aA.jump,nV aA.on,aK]) et_42 hf hm rfl rfl (by kernel_rfl) rfl rfl) ?_
   rintro _ w ⟨al,rfl,hm⟩
   replace hm:=hm.els_nil (α:=Block_)
   replace hm:=(mk_Block_ aA.jump aA.on hm 2 3 4 rfl).pk (L':=[_,_,_,_,_]) [0,1,2,5,6] rfl rfl
   replace hm:=(hm.els_cons 0 2 (by decide) rfl rfl).pk (L':=[_,_,_,_]) [0,1,3,4] rfl rfl
   replace hm:=(hm.lit_els 1 0 (by decide) rfl rfl rfl rfl).pk (L':=[_,_,_]) [1,2,3] rfl rfl
   refine gb λam aV=>?_
   obtain ⟨aW,aX⟩:=appM_some.1 aV
   replace hm:=(hm.both 2 0 (by decide) rfl rfl).pk (L':=[_,_]) [1,2] rfl rfl
   refine gf rfl (λa hf=>e_appendD (xs:=aB) (ys:=([aA]:List Block_)) 1 et_42 hf hm rfl rfl rfl rfl aW) ?_
   rintro aY w hm
   rw [aX] at hm
   exact gA rfl (gE (gR (gP (by omega) (by omega) rfl (gM rfl (gE (gZe λa hf=>⟨aY,hf.sb rfl,hm.pk [1] rfl rfl⟩))))))
  repeat clear hm
  rintro an ao a w ⟨aZ,hf,hm⟩ ap aq
  exact gv hf (gS (gR (gB rfl (gE (gS (go _ 11 rfl (decide_eq_false (by omega)) (gcf rfl (gXt (gHh (gS (gR (gM rfl (gA rfl (gE (gRt (gr1 results88 rfl ⟨aZ,rfl,hm.pk [0] rfl rfl⟩))))))))))))))))
theorem impl_mapped_impl_Phi_impl_Phi_ok (w0 : World) (list : List Phi_) (v1 : Value) (h1 : GT.rep (hp w0) [v1] list) (f : Phi_ → Option Phi_) (fv1 : Value) (hfn1 : ∀ (w : World) (y0 : Phi_) (z1 : Value) (_ : GT.rep (hp w) [z1] y0.args) (r : Phi_), Below w0.heap.size w0 w → f y0 = some r → FnOk Tryz.prog fv1 [(.agg #[nV y0.to, z1])] w (fun v w' => ∃ (x1 : Value), v = (.agg #[nV r.to, x1]) ∧ Mem w (hp w) w' [ow [x1] r.args])) :
    ConM Tryz.prog 145 [v1,fv1] w0 (impl_mapped_impl_Phi_impl_Phi list f) λr v w'=>∃ (x1:Value),v=x1∧Mem w0 (hp w0) w' [ow [x1] r]:=by
  unfold impl_mapped_impl_Phi_impl_Phi
  refine gcon func145 rfl λr=>?_
  have hm:=Mem.start w0
  refine gS (gR (gA rfl (gE (gS (gR (gA rfl (gE (gS (gS (gR (gM rfl ?_)))))))))))
  obtain ⟨aJ,aK,rfl,aW⟩:=ro_slice h1
  refine gY (yV st_45 rfl) (gM rfl (gE (gBk ?_)))
  replace hm:=hm.nilow (α:=Phi_)
  refine gNg (λaF aB a w=>∃ (aC:Value),St 22 [(1,fv1),(5,aC),(8,(.slice aJ list.length aK)),(9,(nV ((list.length:Int)))),(10,(nV aF))] w0 (hp w0) [ow [aC] aB] a w) (λa hf=>⟨.slice none 0 0,hf.sb rfl,hm.pk [0] rfl rfl⟩) ?_ ?_
  ·repeat clear hm
   rintro _ _ aF aB a w ⟨aC,hf,hm⟩ aX aY aZ _
   refine gv hf (gS (gR (gB rfl (gE (gS (go _ 11 rfl (decide_eq_true (by omega)) (gct rfl (gSk (gS (gBk (gS (gR (gg λaG aL aE=>?_)))))))))))))
   obtain ⟨aa,ab,ac,he⟩:=idx_form' h1 aE
   obtain ⟨rfl,_,rfl⟩:=sl3 he
   obtain ⟨aH,aM,aI⟩:=rk_Phi_ h1 aE
   refine gI st_45 aL (idx_lt aE) rfl (gY (yn (aM.mono hm.lez) isAgg105 sizeOf105 rfl) (gAl hm zeroValue105 rfl λaN w hm=>gSN hm 0 sizeOf105 (one_cons rfl (one_cons (rep_one aI) one_nil)) rfl λw hm=>gE (gR (gM rfl (gM rfl (gY (yn (hm.blk_at 0 rfl) isAgg105 sizeOf105 rfl) (gb λaA aO=>gf rfl (λa hf=>e_callv hf rfl rfl rfl (hfn1 _ aG aH (hm.now aI) _ hm.below aO)) ?_)))))))
   rintro ae w ⟨aD,rfl,hB⟩
   replace hm:=hm.give hB;clear hB
   refine gf rfl (λa hf=>e_build (vs:=#[(0,(.agg #[nV aA.to,aD]))]) (cs:=[nV aA.to,aD]) et_45 hf hm rfl rfl (by kernel_rfl) rfl rfl) ?_
   rintro _ w ⟨aP,rfl,hm⟩
   replace hm:=hm.els_nil (α:=Phi_)
   replace hm:Mem w0 (hp w0) _ [els [] ([]:List Phi_),blk aP [nV aA.to,aD] 105,ow [nV aA.to,aD] (aA:Phi_),blk aN [nV aG.to,aH] 105,ow [aC] aB]:=mk_Phi_ aA.to hm 2 rfl
   replace hm:=(hm.els_cons 0 2 (by decide) rfl rfl).pk (L':=[_,_,_,_]) [0,1,3,4] rfl rfl
   replace hm:=(hm.lit_els 1 0 (by decide) rfl rfl rfl rfl).pk (L':=[_,_,_]) [1,2,3] rfl rfl
   refine gb λaf aQ=>?_
   obtain ⟨aR,aS⟩:=appM_some.1 aQ
   replace hm:=(hm.both 2 0 (by decide) rfl rfl).pk (L':=[_,_]) [1,2] rfl rfl
   refine gf rfl (λa hf=>e_appendD (xs:=aB) (ys:=([aA]:List Phi_)) 1 et_45 hf hm rfl rfl rfl rfl aR) ?_
   rintro aT w hm
   rw [aS] at hm
   exact gA rfl (gE (gR (gP (by omega) (by omega) rfl (gM rfl (gE (gZe λa hf=>⟨aT,hf.sb rfl,hm.pk [1] rfl rfl⟩))))))
  repeat clear hm
  rintro ah ai a w ⟨aV,hf,hm⟩ aj ak
  exact gv hf (gS (gR (gB rfl (gE (gS (go _ 11 rfl (decide_eq_false (by omega)) (gcf rfl (gXt (gHh (gS (gR (gM rfl (gA rfl (gE (gRt (gr1 results145 rfl ⟨aV,rfl,hm.pk [0] rfl rfl⟩))))))))))))))))
theorem slices_Clone_S_int_int_ok (w0 : World) (s_ : List Int) (v1 : Value) (h1 : GT.rep (hp w0) [v1] s_) :
    ConM Tryz.prog 94 [v1] w0 (slices_Clone_S_int_int s_) λr v w'=>∃ (x1:Value),v=x1∧Mem w0 (hp w0) w' [ow [x1] r]:=by
  unfold slices_Clone_S_int_int
  refine gcon func94 rfl λr=>?_
  have hm:=Mem.start w0
  refine gS (gR (gA rfl (gE (gS (gS (gR (gM rfl ?_)))))))
  rcases nil_or h1 with ⟨he,aA⟩ | ⟨aF,aG,he⟩
  ·subst he; subst aA
   refine gcg (m':=some ([]:List Int)) (by simp [appM]) (gY (yG rfl (y_eqnil_t st_47.und rfl rfl rfl)) (gE (gct rfl (gS (gR (gA rfl (gE (gRt ?_))))))))
   replace hm:=hm.nilow (α:=Int)
   exact gr1 results94 rfl ⟨.slice none 0 0,rfl,hm.pk [0] rfl rfl⟩
  subst he
  refine gY (yG rfl (y_eqnil_f st_47.und rfl rfl rfl)) (gE (gcf rfl (gSk (gS (gR (gf rfl (λa hf=>e_build0 (α:=Int) et_47 hm rfl) ?_))))))
  rintro aH w hm
  refine gM rfl (gb λaI aB=>?_)
  obtain ⟨aC,aD⟩:=appM_some.1 aB
  refine gf rfl (λa hf=>e_append 0 et_47 hf hm rfl (hm.now h1) rfl rfl rfl aC) ?_
  rintro aE w hm
  rw [aD] at hm
  exact gA rfl (gE (gRt (gr1 results94 rfl ⟨aE,rfl,hm.pk [0] rfl rfl⟩)))
theorem impl_clonePhi_ok (w0 : World) (f : Phi_) (v1 : Value) (h1 : GT.rep (hp w0) [v1] f.args) :
    ConM Tryz.prog 146 [(.agg #[nV f.to,v1])] w0 (impl_clonePhi f) λr v w'=>∃ (x1:Value),v=(.agg #[nV r.to,x1])∧Mem w0 (hp w0) w' [ow [x1] r.args]:=by
  unfold impl_clonePhi
  refine gcon func146 rfl λr=>?_
  have hm:=Mem.start w0
  refine gS (gR (gBx hm rfl λaD w hm=>gAl hm zeroValue105 rfl λaE w hm=>gE (gS (gW (.p 0 (.p 2 (.q 1 (.e 3 (.e 4 (.p 5 (.e 6 .fin .nil)) .nil) .nil)))) [3,4] [0,2,5] hm [0,1] [blk aE [nV 0,.slice none 0 0] 105,blk aD [nV f.to,v1] 105] rfl mxo (by kernel_rfl) (λ_ _ _ h=>h.2) λw hm hS=>tP rfl (λw=>yF fo_105_0 rfl) (tP rfl (λw=>yF fo_105_1 rfl) (tQ rfl hS (λw hm=>yL hm 1 isAgg3 rfl) (tO (tY rfl (yL hm 1 isAgg47 rfl) (tAs hS (tO (gb λaA aF=>tf rfl rfl (λa hf=>e_call hf rfl call94 rfl (slices_Clone_S_int_int_ok _ f.args v1 (hm.now h1) _ aF)) ?_)))))))))))
  rintro aG w ⟨_,rfl,hB⟩
  replace hm:=hm.give hB;clear hB
  refine tAk hm [1,2] rfl λhS=>?_
  obtain ⟨aB,aC,rfl,aH⟩:=ro_slice (hm.ow_rep 0 rfl)
  refine tP rfl (λw=>yG rfl (y_build (vs:=[(0,(nV f.to)),(1,(.slice aB aA.length aC))]) (cs:=#[nV f.to,.slice aB aA.length aC]) rfl rfl (by kernel_rfl))) (tO (tf0 rfl rfl (λa hf=>e_storeN 1 hf hm rfl sizeOf105 rfl rfl rfl (one_cons rfl (one_cons rfl one_nil)) rfl rfl) ?_))
  rintro _ w hm
  exact tAn rfl (tE (gRt (grc 1 results146 hm rfl isAgg105 sizeOf105 ⟨.slice aB aA.length aC,rfl,hm.pk [0] rfl rfl⟩)))
theorem impl_mapped_impl_Ins_impl_Ins_ok (w0 : World) (list : List Ins_) (v1 : Value) (h1 : GT.rep (hp w0) [v1] list) (f : Ins_ → Option Ins_) (fv1 : Value) (hfn1 : ∀ (w : World) (y0 : Ins_) (z1 : Value) (_ : GT.rep (hp w) [z1] y0.args) (r : Ins_), Below w0.heap.size w0 w → f y0 = some r → FnOk Tryz.prog fv1 [(.agg #[nV y0.op, nV y0.to, z1, nV y0.n_])] w (fun v w' => ∃ (x1 : Value), v = (.agg #[nV r.op, nV r.to, x1, nV r.n_]) ∧ Mem w (hp w) w' [ow [x1] r.args])) :
    ConM Tryz.prog 147 [v1,fv1] w0 (impl_mapped_impl_Ins_impl_Ins list f) λr v w'=>∃ (x1:Value),v=x1∧Mem w0 (hp w0) w' [ow [x1] r]:=by
  unfold impl_mapped_impl_Ins_impl_Ins
  refine gcon func147 rfl λr=>?_
  have hm:=Mem.start w0
  refine gS (gR (gA rfl (gE (gS (gR (gA rfl (gE (gS (gS (gR (gM rfl ?_)))))))))))
  obtain ⟨aJ,aK,rfl,aW⟩:=ro_slice h1
  refine gY (yV st_46 rfl) (gM rfl (gE (gBk ?_)))
  replace hm:=hm.nilow (α:=Ins_)
  refine gNg (λaG aB a w=>∃ (aC:Value),St 22 [(1,fv1),(5,aC),(8,(.slice aJ list.length aK)),(9,(nV ((list.length:Int)))),(10,(nV aG))] w0 (hp w0) [ow [aC] aB] a w) (λa hf=>⟨.slice none 0 0,hf.sb rfl,hm.pk [0] rfl rfl⟩) ?_ ?_
  ·repeat clear hm
   rintro _ _ aG aB a w ⟨aC,hf,hm⟩ aX aY aZ _
   refine gv hf (gS (gR (gB rfl (gE (gS (go _ 11 rfl (decide_eq_true (by omega)) (gct rfl (gSk (gS (gBk (gS (gR (gg λaD aL aF=>?_)))))))))))))
   obtain ⟨aa,ab,ac,he⟩:=idx_form' h1 aF
   obtain ⟨rfl,_,rfl⟩:=sl3 he
   obtain ⟨aH,aM,aI⟩:=rk_Ins_ h1 aF
   refine gI st_46 aL (idx_lt aF) rfl (gY (yn (aM.mono hm.lez) isAgg51 sizeOf51 rfl) (gAl hm zeroValue51 rfl λaN w hm=>gSN hm 0 sizeOf51 (one_cons rfl (one_cons rfl (one_cons (rep_one aI) (one_cons rfl one_nil)))) rfl λw hm=>gE (gR (gM rfl (gM rfl (gY (yn (hm.blk_at 0 rfl) isAgg51 sizeOf51 rfl) (gb λaA aO=>gf rfl (λa hf=>e_callv hf rfl rfl rfl (hfn1 _ aD aH (hm.now aI) _ hm.below aO)) ?_)))))))
   rintro ae w ⟨aE,rfl,hB⟩
   replace hm:=hm.give hB;clear hB
   refine gf rfl (λa hf=>e_build (vs:=#[(0,(.agg #[nV aA.op,nV aA.to,aE,nV aA.n_]))]) (cs:=[nV aA.op,nV aA.to,aE,nV aA.n_]) et_46 hf hm rfl rfl (by kernel_rfl) rfl rfl) ?_
   rintro _ w ⟨aP,rfl,hm⟩
   replace hm:=hm.els_nil (α:=Ins_)
   replace hm:Mem w0 (hp w0) _ [els [] ([]:List Ins_),blk aP [nV aA.op,nV aA.to,aE,nV aA.n_] 51,ow [nV aA.op,nV aA.to,aE,nV aA.n_] (aA:Ins_),blk aN [nV aD.op,nV aD.to,aH,nV aD.n_] 51,ow [aC] aB]:=mk_Ins_ aA.op aA.to aA.n_ hm 2 rfl
   replace hm:=(hm.els_cons 0 2 (by decide) rfl rfl).pk (L':=[_,_,_,_]) [0,1,3,4] rfl rfl
   replace hm:=(hm.lit_els 1 0 (by decide) rfl rfl rfl rfl).pk (L':=[_,_,_]) [1,2,3] rfl rfl
   refine gb λaf aQ=>?_
   obtain ⟨aR,aS⟩:=appM_some.1 aQ
   replace hm:=(hm.both 2 0 (by decide) rfl rfl).pk (L':=[_,_]) [1,2] rfl rfl
   refine gf rfl (λa hf=>e_appendD (xs:=aB) (ys:=([aA]:List Ins_)) 1 et_46 hf hm rfl rfl rfl rfl aR) ?_
   rintro aT w hm
   rw [aS] at hm
   exact gA rfl (gE (gR (gP (by omega) (by omega) rfl (gM rfl (gE (gZe λa hf=>⟨aT,hf.sb rfl,hm.pk [1] rfl rfl⟩))))))
  repeat clear hm
  rintro ah ai a w ⟨aV,hf,hm⟩ aj ak
  exact gv hf (gS (gR (gB rfl (gE (gS (go _ 11 rfl (decide_eq_false (by omega)) (gcf rfl (gXt (gHh (gS (gR (gM rfl (gA rfl (gE (gRt (gr1 results147 rfl ⟨aV,rfl,hm.pk [0] rfl rfl⟩))))))))))))))))
theorem impl_cloneIns_ok (w0 : World) (x_ : Ins_) (v1 : Value) (h1 : GT.rep (hp w0) [v1] x_.args) :
    ConM Tryz.prog 148 [(.agg #[nV x_.op,nV x_.to,v1,nV x_.n_])] w0 (impl_cloneIns x_) λr v w'=>∃ (x1:Value),v=(.agg #[nV r.op,nV r.to,x1,nV r.n_])∧Mem w0 (hp w0) w' [ow [x1] r.args]:=by
  unfold impl_cloneIns
  refine gcon func148 rfl λr=>?_
  have hm:=Mem.start w0
  refine gS (gR (gBx hm rfl λaB w hm=>gAl hm zeroValue51 rfl λaC w hm=>gE (gS (gR (gF fo_51_2 rfl (gL hm 1 isAgg47 rfl (gCg rfl call94 (slices_Clone_S_int_int_ok _ x_.args v1 (hm.now h1)) ?_)))))))
  rintro aD aE aA w ⟨_,rfl,hB⟩
  replace hm:=hm.give hB;clear hB
  exact gF fo_51_2 rfl (gS1 hm 2 sizeOf47 (rep_one (hm.ow_rep 0 rfl)) rfl λw hm=>gE (gS (gR (gY (yn (hm.blk_at 2 rfl) isAgg51 sizeOf51 rfl) (gSN hm 1 sizeOf51 (one_cons rfl (one_cons rfl (one_cons (rep_one (hm.ow_rep 0 rfl)) (one_cons rfl one_nil)))) rfl λw hm=>gE (gRt (grc 1 results148 hm rfl isAgg51 sizeOf51 ⟨aA,rfl,hm.pk [0] rfl rfl⟩)))))))
theorem impl_cloneBlock_ok (w0 : World) (b_ : Block_) (v1 : Value) (h1 : GT.rep (hp w0) [v1] b_.phis) (v2 : Value) (h2 : GT.rep (hp w0) [v2] b_.ins) (v3 : Value) (h3 : GT.rep (hp w0) [v3] b_.next_) :
    ConM Tryz.prog 89 [(.agg #[v1,v2,nV b_.jump,nV b_.on,v3])] w0 (impl_cloneBlock b_) λr v w'=>∃ (x1:Value) (x2:Value) (x3:Value),v=(.agg #[x1,x2,nV r.jump,nV r.on,x3])∧Mem w0 (hp w0) w' [ow [x1] r.phis,ow [x2] r.ins,ow [x3] r.next_]:=by
  unfold impl_cloneBlock
  refine gcon func89 rfl λr=>?_
  have hm:=Mem.start w0
  refine gS (gR (gBx hm rfl λaF w hm=>gAl hm zeroValue49 rfl λaG w hm=>gE (gS (gR (gF fo_49_0 rfl (gL hm 1 isAgg45 rfl (gCg rfl call145 (impl_mapped_impl_Phi_impl_Phi_ok _ b_.phis v1 (hm.now h1) (λy0=>impl_clonePhi y0) (.func (.func 146) #[] #[]) (λw y0 aA aB r hB hq=>⟨146,[],rfl,call146,impl_clonePhi_ok w y0 aA aB  r hq⟩)) ?_)))))))
  rintro aH aI aC w ⟨_,rfl,hB⟩
  replace hm:=hm.give hB;clear hB
  refine gF fo_49_0 rfl (gS1 hm 2 sizeOf45 (rep_one (hm.ow_rep 0 rfl)) rfl λw hm=>gE (gS (gR (gF fo_49_1 rfl (gL hm 2 isAgg46 rfl (gCg rfl call147 (impl_mapped_impl_Ins_impl_Ins_ok _ b_.ins v2 (hm.now h2) (λy0=>impl_cloneIns y0) (.func (.func 148) #[] #[]) (λw y0 aA aB r hB hq=>⟨148,[],rfl,call148,impl_cloneIns_ok w y0 aA aB  r hq⟩)) ?_))))))
  rintro aJ aK aD w ⟨_,rfl,hB⟩
  replace hm:=hm.give hB;clear hB
  refine gF fo_49_1 rfl (gS1 hm 3 sizeOf46 (rep_one (hm.ow_rep 0 rfl)) rfl λw hm=>gE (gS (gR (gF fo_49_4 rfl (gL hm 3 isAgg47 rfl (gCg rfl call94 (slices_Clone_S_int_int_ok _ b_.next_ v3 (hm.now h3)) ?_))))))
  rintro aL aM aE w ⟨_,rfl,hB⟩
  replace hm:=hm.give hB;clear hB
  exact gF fo_49_4 rfl (gS1 hm 4 sizeOf47 (rep_one (hm.ow_rep 0 rfl)) rfl λw hm=>gE (gS (gR (gY (yn (hm.blk_at 4 rfl) isAgg49 sizeOf49 rfl) (gSN hm 3 sizeOf49 (one_cons (rep_one (hm.ow_rep 2 rfl)) (one_cons (rep_one (hm.ow_rep 1 rfl)) (one_cons rfl (one_cons rfl (one_cons (rep_one (hm.ow_rep 0 rfl)) one_nil))))) rfl λw hm=>gE (gRt (grc 3 results89 hm rfl isAgg49 sizeOf49 ⟨aC,aD,aE,rfl,hm.pk [2,1,0] rfl rfl⟩)))))))
theorem impl_cloneCode_ok (w0 : World) (c_ : Code_) (v1 : Value) (h1 : GT.rep (hp w0) [v1] c_.blocks) :
    ConM Tryz.prog 51 [(.agg #[nV c_.params,nV c_.regs,v1])] w0 (impl_cloneCode c_) λr v w'=>∃ (x1:Value),v=(.agg #[nV r.params,nV r.regs,x1])∧Mem w0 (hp w0) w' [ow [x1] r.blocks]:=by
  unfold impl_cloneCode
  refine gcon func51 rfl λr=>?_
  have hm:=Mem.start w0
  refine gS (gR (gBx hm rfl λaH w hm=>gAl hm zeroValue44 rfl λaI w hm=>gE (gS (gR (gF fo_44_2 rfl (gL hm 1 isAgg42 rfl (gCg rfl call88 (impl_mapped_impl_Block_impl_Block_ok _ c_.blocks v1 (hm.now h1) (λy0=>impl_cloneBlock y0) (.func (.func 89) #[] #[]) (λw y0 aA aB aC aD aE aF r hB hq=>⟨89,[],rfl,call89,impl_cloneBlock_ok w y0 aA aB aC aD aE aF  r hq⟩)) ?_)))))))
  rintro aJ aK aG w ⟨_,rfl,hB⟩
  replace hm:=hm.give hB;clear hB
  exact gF fo_44_2 rfl (gS1 hm 2 sizeOf42 (rep_one (hm.ow_rep 0 rfl)) rfl λw hm=>gE (gS (gR (gY (yn (hm.blk_at 2 rfl) isAgg44 sizeOf44 rfl) (gSN hm 1 sizeOf44 (one_cons rfl (one_cons rfl (one_cons (rep_one (hm.ow_rep 0 rfl)) one_nil))) rfl λw hm=>gE (gRt (grc 1 results51 hm rfl isAgg44 sizeOf44 ⟨aG,rfl,hm.pk [0] rfl rfl⟩)))))))
theorem impl_cloneUnit_ok (w0 : World) (u : Unit_) (v1 : Value) (h1 : GT.rep (hp w0) [v1] u.codes) :
    ConM Tryz.prog 26 [(.agg #[v1])] w0 (impl_cloneUnit u) λr v w'=>∃ (x1:Value),v=(.agg #[x1])∧Mem w0 (hp w0) w' [ow [x1] r.codes]:=by
  unfold impl_cloneUnit
  refine gcon func26 rfl λr=>?_
  have hm:=Mem.start w0
  refine gS (gR (gBx hm rfl λaF w hm=>gAl hm zeroValue28 rfl λaG w hm=>gE (gS (gR (gF fo_28_0 rfl (gL hm 1 isAgg26 rfl (gCg rfl call41 (impl_mapped_impl_Code_impl_Code_ok _ u.codes v1 (hm.now h1) (λy0=>impl_cloneCode y0) (.func (.func 51) #[] #[]) (λw y0 aD aE r hB hq=>⟨51,[],rfl,call51,impl_cloneCode_ok w y0 aD aE  r hq⟩)) ?_)))))))
  rintro aA aH aI w ⟨_,rfl,hB⟩
  replace hm:=hm.give hB;clear hB
  obtain ⟨aB,aC,rfl,aJ⟩:=ro_slice (hm.ow_rep 0 rfl)
  exact gY (yG rfl (y_build (vs:=[(0,(.slice aB aA.length aC))]) (cs:=#[.slice aB aA.length aC]) rfl rfl (by kernel_rfl))) (gSN hm 1 sizeOf28 (one_cons rfl one_nil) rfl λw hm=>gE (gRt (grc 1 results26 hm rfl isAgg28 sizeOf28 ⟨.slice aB aA.length aC,rfl,hm.pk [0] rfl rfl⟩)))
theorem impl_callPlaces_ok (w0 : World) (c_ : Code_) (v1 : Value) (h1 : GT.rep (hp w0) [v1] c_.blocks) :
    ConM Tryz.prog 35 [(.agg #[nV c_.params,nV c_.regs,v1])] w0 (impl_callPlaces c_) λr v w'=>∃ (x1:Value),v=x1∧Mem w0 (hp w0) w' [ow [x1] r]:=by
  unfold impl_callPlaces
  refine gcon func35 rfl λr=>?_
  have hm:=Mem.start w0
  refine gS (gR (gBx hm rfl λaq w hm=>gA rfl (gE (gS (gR (gA rfl (gE (gS (gS (gR (gF fo_44_2 rfl (gL hm 0 isAgg42 rfl ?_))))))))))))
  obtain ⟨aV,aD,rfl,ar⟩:=ro_slice h1
  refine gY (yV st_42 rfl) (gM rfl (gE (gBk ?_)))
  replace hm:=hm.nilow (α:=List Int)
  refine gNg (λaA aI a w=>∃ (aJ:Value),St 36 [(3,aJ),(9,(.slice aV c_.blocks.length aD)),(10,(nV ((c_.blocks.length:Int)))),(11,(nV aA))] w0 (hp w0) [ow [aJ] aI] a w) (λa hf=>⟨.slice none 0 0,hf.sb rfl,hm.pk [0] rfl rfl⟩) ?_ ?_
  ·repeat clear hm
   rintro _ _ aA aI a w ⟨aJ,hf,hm⟩ au av aw _
   refine gv hf (gS (gR (gB rfl (gE (gS (go _ 12 rfl (decide_eq_true (by omega)) (gct rfl (gSk (gS (gBk (gS (gR (gM rfl (gg λaC aW aK=>?_))))))))))))))
   obtain ⟨aL,aM,ax,he⟩:=idx_form' h1 aK
   obtain ⟨rfl,_,rfl⟩:=sl3 he
   obtain ⟨ay,az,bA,aX,aY,aE,aZ⟩:=rk_Block_ h1 aK
   refine gI st_42 aW (idx_lt aK) rfl (gY (yn (aX.mono hm.lez) isAgg49 sizeOf49 rfl) (gAl hm zeroValue49 rfl λbB w hm=>gA rfl (gSN hm 0 sizeOf49 (one_cons (rep_one aY) (one_cons (rep_one aE) (one_cons rfl (one_cons rfl (one_cons (rep_one aZ) one_nil))))) rfl λw hm=>gE (gS (gR (gF fo_49_1 rfl (gL hm 0 isAgg46 rfl ?_)))))))
   obtain ⟨aT,aN,rfl,bC⟩:=ro_slice aE
   refine gY (yV st_46 rfl) (gM rfl (gE ?_))
   obtain ⟨aa,ab,rfl,bD⟩:=ro_slice (hm.ow_rep 1 rfl)
   refine gBk (gNg (λaB aO a w=>∃ (aF:Value),St 36 [(3,aF),(4,(nV aA)),(9,(sV aL aM c_.blocks.length aD)),(10,(nV ((c_.blocks.length:Int)))),(11,(nV aA)),(17,(.slice aT aC.ins.length aN)),(18,(nV ((aC.ins.length:Int)))),(19,(nV aB))] w0 (hp w0) [ow [aF] aO] a w) (λa hf=>⟨.slice aa aI.length ab,hf.sb rfl,hm.pk [1] rfl rfl⟩) ?_ ?_)
   ·repeat clear hm
    rintro _ _ aB aO a w ⟨aF,hf,hm⟩ bE bF bG _
    refine gv hf (gS (gR (gB rfl (gE (gS (go _ 20 rfl (decide_eq_true (by omega)) (gct rfl (gSk (gS (gJg (λaP a w=>∃ (aG:Value),St 36 [(3,aG),(4,(nV aA)),(9,(sV aL aM c_.blocks.length aD)),(10,(nV ((c_.blocks.length:Int)))),(11,(nV aA)),(17,(.slice aT aC.ins.length aN)),(18,(nV ((aC.ins.length:Int)))),(19,(nV aB))] w0 (hp w0) [ow [aG] aP] a w) (λaP=>?_) ?_))))))))))
    ·refine gBk (gS (gR (gM rfl (gg fun bH ac aQ => ?_))))
     obtain ⟨ae,af,bJ,he⟩:=idx_form' aE aQ
     obtain ⟨rfl,_,rfl⟩:=sl3 he
     obtain ⟨bK,ah,ai⟩:=rk_Ins_ aE aQ
     refine gI st_46 ac (idx_lt aQ) rfl (gY (yn (ah.mono hm.lez) isAgg51 sizeOf51 rfl) (gAl hm zeroValue51 rfl λbL w hm=>gA rfl (gSN hm 0 sizeOf51 (one_cons rfl (one_cons rfl (one_cons (rep_one ai) (one_cons rfl one_nil)))) rfl λw hm=>gE (gS (gR (gF fo_51_0 rfl (gL hm 0 isAgg3 rfl (gB rfl (gE (gJg (λaR a w=>∃ (aH:Value),St 36 [(3,aH),(4,(nV aA)),(9,(sV aL aM c_.blocks.length aD)),(10,(nV ((c_.blocks.length:Int)))),(11,(nV aA)),(17,(sV ae af aC.ins.length aN)),(18,(nV ((aC.ins.length:Int)))),(19,(nV aB))] w0 (hp w0) [ow [aH] aR] a w) (λaR=>?_) ?_))))))))))
     ·refine gsd 26 rfl (fun aj => ?_) fun aj => ?_
      ·refine gct rfl (gR (gM rfl (gM rfl (gM rfl (gf rfl (fun a hf => e_build (vs := #[(0, (nV aA)), (1, (nV aB))]) (cs := [nV aA, nV aB]) et_47 hf hm rfl rfl (by kernel_rfl) rfl rfl) ?_)))))
       rintro _ w ⟨aS,rfl,hm⟩
       replace hm:=hm.lit (xs:=([aA,aB]:List Int)) 0 rfl rfl rfl rfl
       refine gf rfl (λa hf=>e_build (vs:=#[(0,(sV aS 0 2 2))]) (cs:=[sV aS 0 2 2]) et_59 hf hm rfl rfl (by kernel_rfl) rfl rfl) ?_
       rintro _ w ⟨bM,rfl,hm⟩
       replace hm:=hm.els_nil (α:=List Int)
       replace hm:=hm.imp (c':=ow [sV aS 0 2 2] (([aA,aB]:List Int):List Int)) 2 rfl (λF h0=>h0)
       replace hm:=(hm.els_cons 0 2 (by decide) rfl rfl).pk (L':=[_,_,_,_]) [0,1,3,4] rfl rfl
       replace hm:=(hm.lit_els 1 0 (by decide) rfl rfl rfl rfl).pk (L':=[_,_,_]) [1,2,3] rfl rfl
       refine gb λbN ak=>?_
       obtain ⟨al,am⟩:=appM_some.1 ak
       replace hm:=(hm.both 2 0 (by decide) rfl rfl).pk (L':=[_,_]) [1,2] rfl rfl
       refine gf rfl (λa hf=>e_appendD (xs:=aO) (ys:=([([aA,aB]:List Int)]:List (List Int))) 1 et_59 hf hm rfl rfl rfl rfl al) ?_
       rintro an w hm
       rw [am] at hm
       exact gA rfl (gE (gZ λa hf=>⟨an,hf.sb rfl,hm.pk [1] rfl rfl⟩))
      exact gcf rfl (gSk (gZ λa hf=>⟨aF,hf.sb rfl,hm.pk [1] rfl rfl⟩))
     repeat clear hm
     rintro aR a w ⟨aH,hf,hm⟩
     exact gv hf (gZ λa hf=>⟨aH,hf.sb rfl,hm.pk [0] rfl rfl⟩)
    repeat clear hm
    rintro aP a w ⟨aG,hf,hm⟩
    exact gv hf (gR (gP (by omega) (by omega) rfl (gM rfl (gE (gZe λa hf=>⟨aG,hf.sb rfl,hm.pk [0] rfl rfl⟩)))))
   repeat clear hm
   rintro bO bP a w ⟨ao,hf,hm⟩ bQ bR
   exact gv hf (gS (gR (gB rfl (gE (gS (go _ 20 rfl (decide_eq_false (by omega)) (gcf rfl (gXt (gHh (gR (gP (by omega) (by omega) rfl (gM rfl (gE (gZe λa hf=>⟨ao,hf.sb rfl,hm.pk [0] rfl rfl⟩))))))))))))))
  repeat clear hm
  rintro bS bT a w ⟨ap,hf,hm⟩ bU bV
  exact gv hf (gS (gR (gB rfl (gE (gS (go _ 12 rfl (decide_eq_false (by omega)) (gcf rfl (gXt (gHh (gS (gR (gM rfl (gA rfl (gE (gRt (gr1 results35 rfl ⟨ap,rfl,hm.pk [0] rfl rfl⟩))))))))))))))))
theorem impl_InlineSmall_1_ok (w0 : World) (p_ : List Int) (v1 : Value) (h1 : GT.rep (hp w0) [v1] p_) (c0_ : Unit_) (v2 : Value) (h2 : GT.rep (hp w0) [v2] c0_.codes) (bf0 : Nat) (hbf0 : w0.heap[bf0]? = some (.cells ([v2] : List Value).toArray 28 (0, 0))) (c1_ : Code_) (v3 : Value) (h3 : GT.rep (hp w0) [v3] c1_.blocks) (bf1 : Nat) (hbf1 : w0.heap[bf1]? = some (.cells ([nV c1_.params, nV c1_.regs, v3] : List Value).toArray 44 (0, 0))) (c2_ : Int) (bf2 : Nat) (hbf2 : w0.heap[bf2]? = some (.cells ([nV c2_] : List Value).toArray 3 (0, 0))) :
    ConM Tryz.prog 37 [v1,(pV bf0),(pV bf1),(pV bf2)] w0 (impl_InlineSmall_1 p_ c0_ c1_ c2_) λr v w'=>v=(.bool (r))∧Below w0.heap.size w0 w':=by
  unfold impl_InlineSmall_1
  refine gcon func37 rfl λr=>?_
  have hm:=Mem.start w0
  refine gS (gR (gA rfl (gE (gS (gW (.p 0 (.p 2 (.p 4 (.p 5 (.p 10 (.p 11 (.q 1 (.q 3 (.q 6 (.p 7 (.p 8 (.q 9 (.q 12 (.p 13 (.p 14 (.q 15 (.p 16 (.q 17 (.q 19 (.e 18 (.p 20 (.p 21 .fin)) .nil)))))))))))))))))))) [1,3,6,9,12,15,17,18,19] [0,2,4,5,7,8,10,11,13,14,16,20,21] hm [] [] rfl mxo (by kernel_rfl) (λ_ _ _ h=>h.2) λw hm hS=>tP rfl (λw=>yF fo_28_0 rfl) (tP rfl (λw=>yF fo_44_2 rfl) (tP rfl (λw=>yM rfl) (gg λaG aH aA=>?_))))))))
  obtain ⟨aV,aW,aX,he⟩:=idx_form h1 aA
  subst he
  refine tP rfl (λw=>yI st_47 aH (idx_lt aA) rfl) (tP rfl (λw=>yM rfl) (gg λaI aJ aE=>tP rfl (λw=>yI st_47 aJ (idx_lt aE) rfl) (tQ rfl hS (λw hm=>yl isAgg26 (hm.old_cell hbf0 rfl) rfl) (tQ rfl hS (λw hm=>yl isAgg42 (hm.old_cell hbf1 rfl) rfl) (tQ rfl hS (λw hm=>yl isAgg3 ((flat_cells (cs:=[nV aG]) (hm.now h1) aA rfl).cell (j:=0) rfl) rfl) (gg λaY aK aB=>?_))))))
  obtain ⟨aZ,aa,ab,he⟩:=idx_form' h3 aB
  subst he
  obtain ⟨ac,ae,af,aL,ah,aF,ai⟩:=rk_Block_ h3 aB
  refine tP rfl (λw=>yI st_42 aK (idx_lt aB) rfl) (tP rfl (λw=>yF fo_49_1 rfl) (tQ rfl hS (λw hm=>yl isAgg46 ((aL.mono hm.lez).cell (j:=1) rfl) rfl) (tQ rfl hS (λw hm=>yl isAgg3 ((flat_cells (cs:=[nV aI]) (hm.now h1) aE rfl).cell (j:=0) rfl) rfl) (gg λaj aM aC=>?_))))
  obtain ⟨ak,al,am,he⟩:=idx_form' aF aC
  subst he
  obtain ⟨an,aN,ao⟩:=rk_Ins_ aF aC
  refine tP rfl (λw=>yI st_46 aM (idx_lt aC) rfl) (tP rfl (λw=>yF fo_51_3 rfl) (tQ rfl hS (λw hm=>yl isAgg3 ((aN.mono hm.lez).cell (j:=3) rfl) rfl) (gg λaO aP aD=>?_)))
  obtain ⟨ap,aq,ar,he⟩:=idx_form' h2 aD
  subst he
  obtain ⟨aQ,aR,aS⟩:=rk_Code_ h2 aD
  refine tP rfl (λw=>yI st_26 aP (idx_lt aD) rfl) (tQ rfl hS (λw hm=>yn (aR.mono hm.lez) isAgg44 sizeOf44 rfl) (tQ rfl hS (λw hm=>yl isAgg3 (hm.old_cell hbf2 rfl) rfl) (tO (gb λau aT=>tf rfl rfl (λa hf=>e_call hf rfl call38 rfl (impl_codeCount_ok _ aO aQ (hm.now aS) _ aT)) ?_))))
  rintro av w ⟨rfl,hB⟩
  replace hm:=hm.below' hB;clear hB
  exact tAk hm [] rfl λhS=>tP rfl (λw=>yB rfl) (tP rfl (λw=>yA rfl) (tE (gRt (gr1 results37 rfl ⟨rfl,hm.below⟩))))
theorem slices_IndexFunc_S_S_int_S_int_ok (w0 : World) (s_ : List (List Int)) (v1 : Value) (h1 : GT.rep (hp w0) [v1] s_) (f : (List Int) → Option Bool) (fv1 : Value) (hfn1 : ∀ (w : World) (y0 : List Int) (z1 : Value) (_ : GT.rep (hp w) [z1] y0) (r : Bool), Below w0.heap.size w0 w → f y0 = some r → FnOk Tryz.prog fv1 [z1] w (fun v w' => v = (.bool (r)) ∧ Below w.heap.size w w')) :
    ConM Tryz.prog 36 [v1,fv1] w0 (slices_IndexFunc_S_S_int_S_int s_ f) λr v w'=>v=(nV r)∧Below w0.heap.size w0 w':=by
  unfold slices_IndexFunc_S_S_int_S_int
  refine gcon func36 rfl λr=>?_
  have hm:=Mem.start w0
  refine gS (gR (gA rfl (gE (gS (gS (gR (gM rfl ?_)))))))
  obtain ⟨aH,aI,rfl,aR⟩:=ro_slice h1
  refine gY (yV st_59 rfl) (gM rfl (gE (gBk (gNf hm (λaA aF=>[(0,(.slice aH s_.length aI)),(1,fv1),(7,(nV ((s_.length:Int)))),(8,(nV aA))]) (λaA aF=>[]) [] rfl ?_ ?_))))
  ·repeat clear hm
   intro aS aJ aA aF w hm aT aV aW aK
   refine gS (gR (gB rfl (gE (gS (go _ 9 rfl (decide_eq_true (by omega)) (gct rfl (gSk (gS (gBk (gS (gR (gM rfl (gA rfl (gE (gS (gR (gM rfl (gM rfl (gM rfl (gg λaG aL aC=>?_))))))))))))))))))))
   obtain ⟨aM,aN,aX,he⟩:=idx_form' h1 aC
   obtain ⟨rfl,_,rfl⟩:=sl3 he
   obtain ⟨_,_,aD,aO⟩:=ro_get' h1 aC
   have aB:=aO
   obtain ⟨aE,rfl,-⟩:=id aB
   replace aB:GT.rep (hp w0) [aE] aG:=aB
   replace aD:CellsAt (hp w0) aM (aN+(aA).toNat*1) [aE]:=aD
   refine gI st_59 aL (idx_lt aC) rfl (gY (yl isAgg47 ((aD.mono hm.lez).cell (j:=0) rfl) rfl) (gb λaY aP=>gf rfl (λa hf=>e_callv hf rfl rfl rfl (hfn1 _ aG aE (hm.now aB) _ hm.below aP)) ?_))
   rintro aZ w ⟨rfl,hB⟩
   replace hm:=hm.below' hB;clear hB
   refine gE (gs 16 rfl (λaQ=>?_) λaQ=>?_)
   ·exact gct rfl (gS (gR (gM rfl (gA rfl (gE (gRt (gLr aK aJ (gr1 results36 rfl ⟨rfl,hm.below⟩))))))))
   exact gcf rfl (gSk (gR (gP (by omega) (by omega) rfl (gM rfl (gE (gze hm [] rfl))))))
  repeat clear hm
  intro aa ab w hm ac ae
  exact gS (gR (gB rfl (gE (gS (go _ 9 rfl (decide_eq_false (by omega)) (gcf rfl (gXt (gHh (gS (gR (gA rfl (gE (gRt (gr1 results36 rfl ⟨rfl,hm.below⟩))))))))))))))
theorem impl_codeAt_ok (w0 : World) (u : Unit_) (v1 : Value) (h1 : GT.rep (hp w0) [v1] u.codes) (k_ : Int) :
    ConM Tryz.prog 24 [(.agg #[v1]),nV k_] w0 (impl_codeAt u k_) λr v w'=>v=(.bool (r))∧Below w0.heap.size w0 w':=by
  unfold impl_codeAt
  refine gcon func24 rfl λr=>?_
  have hm:=Mem.start w0
  refine gS (gR (gBx hm rfl λaC w hm=>gA rfl (gE (gS (gJ hm (λaA=>[(4,(.bool (aA)))]) (λaA=>[]) (λaA=>?_) ?_)))))
  ·refine gR (gY (yn (hm.blk_at 0 rfl) isAgg28 sizeOf28 rfl) (gC hm rfl call34 (impl_UnitValid_ok _ u v1 (hm.now h1)) fun aD aE w hm => gM rfl (gs 7 rfl (fun aB => ?_) fun aB => ?_)))
   ·refine gM rfl (gF fo_28_0 rfl (gL hm 0 isAgg26 rfl ?_))
    obtain ⟨aF,aG,rfl,aH⟩:=ro_slice h1
    exact gY (yV st_26 rfl) (gY (yS (by omega) (by omega) rfl) (gC hm rfl call25 (impl_within_ok _ k_ 0 (((u.codes.length:Int)) - 1)) λaI aJ w hm=>gKt rfl (gA rfl (gE (gz hm [] rfl)))))
   exact gO rfl (gO rfl (gO rfl (gO rfl (gO rfl (gO rfl (gKf rfl (gA rfl (gE (gz hm [] rfl)))))))))
  repeat clear hm
  intro aA w hm
  exact gRt (gr1 results24 rfl ⟨rfl,hm.below⟩)
theorem impl_phisOf_ok (w0 : World) (c_ : Code_) (v1 : Value) (h1 : GT.rep (hp w0) [v1] c_.blocks) :
    ConM Tryz.prog 52 [(.agg #[nV c_.params,nV c_.regs,v1])] w0 (impl_phisOf c_) λr v w'=>∃ (x1:Value),v=x1∧Mem w0 (hp w0) w' [ow [x1] r]:=by
  unfold impl_phisOf
  refine gcon func52 rfl λr=>?_
  have hm:=Mem.start w0
  refine gS (gR (gBx hm rfl λaF w hm=>gA rfl (gE (gS (gR (gF fo_44_2 rfl (gL hm 0 isAgg42 rfl ?_)))))))
  obtain ⟨ap,aD,rfl,bV⟩:=ro_slice h1
  refine gY (yV st_42 rfl) (gb λaC bA=>?_)
  obtain ⟨⟨bB,bC⟩,aq⟩:=makeM_some.1 bA
  refine gf rfl (λa hf=>e_make (x0:=([]:List (MapS Int))) et_82 (λ_=>(own_list.2 (.inl ⟨rfl,rfl⟩))) hf hm rfl rfl rfl bB (Int.le_refl _) bC) ?_
  rintro bW w hm
  rw [aq] at hm
  have h0_1l:(aC.length:Int)=(c_.blocks.length:Int):=by rw [← aq];simp only [List.length_replicate];omega
  refine gA rfl (gE (gS (gS (gR (gF fo_44_2 rfl (gL hm 1 isAgg42 rfl (gY (yV st_42 rfl) (gM rfl (gE ?_)))))))))
  obtain ⟨aG,aE,rfl,bX⟩:=ro_slice (hm.ow_rep 0 rfl)
  refine gBk (gNf hm (λaB aY=>[(1,(pV aF)),(3,(.slice aG aC.length aE)),(17,(.slice ap c_.blocks.length aD)),(18,(nV ((c_.blocks.length:Int)))),(19,(nV aB))]) (λaB aY=>[blk aF [nV c_.params,nV c_.regs,.slice ap c_.blocks.length aD] 44,ow [.slice aG aC.length aE] aY]) [1,0] rfl ?_ ?_)
  ·repeat clear hm
   intro _ _ aB aY w hm bY bZ b6 _
   refine gS (gR (gB rfl (gE (gS (go _ 20 rfl (decide_eq_true (by omega)) (gct rfl (gSk (gS (gBk (gS (gR (gM rfl (gg λaO bD aZ=>?_)))))))))))))
   obtain ⟨aH,aI,b7,he⟩:=idx_form' h1 aZ
   obtain ⟨rfl,_,rfl⟩:=sl3 he
   obtain ⟨b8,b9,ba,bE,aP,bF,bG⟩:=rk_Block_ h1 aZ
   refine gI st_42 bD (idx_lt aZ) rfl (gY (yn (bE.mono hm.lez) isAgg49 sizeOf49 rfl) (gAl hm zeroValue49 rfl λbc w hm=>gA rfl (gSN hm 0 sizeOf49 (one_cons (rep_one aP) (one_cons (rep_one bF) (one_cons rfl (one_cons rfl (one_cons (rep_one bG) one_nil))))) rfl λw hm=>gE (gS (gR (gY (yn (hm.blk_at 1 rfl) isAgg44 sizeOf44 rfl) (gM rfl (gCg rfl call60 (impl_PredsOf_ok _ c_ (sV aH aI c_.blocks.length aD) (hm.now h1) aB) ?_))))))))
   rintro aA bd be w ⟨_,rfl,hB⟩
   replace hm:=hm.give hB;clear hB
   refine gA rfl (gE (gS (gR (gF fo_49_0 rfl (gL hm 1 isAgg45 rfl ?_)))))
   obtain ⟨bH,ar,rfl,bf⟩:=ro_slice aP
   refine gY (yV st_45 rfl) (gM rfl (gE ?_))
   obtain ⟨aJ,aK,rfl,bg⟩:=ro_slice (hm.ow_rep 0 rfl)
   refine gBk (gNf hm (λaQ aL=>[(1,(pV aF)),(3,(.slice aG aC.length aE)),(4,(nV aB)),(6,(.slice aJ aA.length aK)),(17,(sV aH aI c_.blocks.length aD)),(18,(nV ((c_.blocks.length:Int)))),(19,(nV aB)),(28,(.slice bH aO.phis.length ar)),(29,(nV ((aO.phis.length:Int)))),(30,(nV aQ))]) (λaQ aL=>[blk aF [nV c_.params,nV c_.regs,sV aH aI c_.blocks.length aD] 44,ow [.slice aG aC.length aE] aL,ow [.slice aJ aA.length aK] aA]) [2,3,0] rfl ?_ ?_)
   ·repeat clear hm
    intro _ _ aQ aL w hm bh bi bj _
    refine gS (gR (gB rfl (gE (gS (go _ 31 rfl (decide_eq_true (by omega)) (gct rfl (gSk (gS (gBk (gS (gR (gg λaa bJ ab=>?_))))))))))))
    obtain ⟨bK,bL,bk,he⟩:=idx_form' aP ab
    obtain ⟨rfl,_,rfl⟩:=sl3 he
    obtain ⟨ac,bM,ae⟩:=rk_Phi_ aP ab
    refine gI st_45 bJ (idx_lt ab) rfl (gY (yn (bM.mono hm.lez) isAgg105 sizeOf105 rfl) (gAl hm zeroValue105 rfl λaR w hm=>gSN hm 0 sizeOf105 (one_cons rfl (one_cons (rep_one ae) one_nil)) rfl λw hm=>gE (gS (gR (gf rfl (λa hf=>e_mkM (β:=Int) hm rfl) ?_)))))
    rintro af w hm
    refine gA rfl (gE (gS (gS (gR (gM rfl (gY (yV st_47 rfl) (gM rfl (gE (gBk (gNf hm (λah ai=>[(1,(pV aF)),(3,(.slice aG aC.length aE)),(4,(nV aB)),(6,(.slice aJ aA.length aK)),(8,(pV aR)),(9,af),(17,(sV aH aI c_.blocks.length aD)),(18,(nV ((c_.blocks.length:Int)))),(19,(nV aB)),(28,(sV bK bL aO.phis.length ar)),(29,(nV ((aO.phis.length:Int)))),(30,(nV aQ)),(35,(.slice aJ aA.length aK)),(36,(nV ((aA.length:Int)))),(37,(nV ah))]) (λah ai=>[blk aF [nV c_.params,nV c_.regs,sV aH aI c_.blocks.length aD] 44,ow [.slice aG aC.length aE] aL,ow [.slice aJ aA.length aK] aA,blk aR [nV aa.to,ac] 105,owm af ai]) [2,3,4,1,0] rfl ?_ ?_))))))))))
    ·repeat clear hm
     intro _ _ ah ai w hm bm bp bq _
     refine gS (gR (gB rfl (gE (gS (go _ 38 rfl (decide_eq_true (by omega)) (gct rfl (gSk (gS (gBk (gS (gR (gM rfl (gg λau bN aj=>?_)))))))))))))
     obtain ⟨br,bs,bt,he⟩:=idx_form (hm.ow_rep 2 rfl) aj
     obtain ⟨rfl,_,rfl⟩:=sl3 he
     refine gI st_47 bN (idx_lt aj) rfl (gY (yl isAgg3 ((flat_cells (cs:=[nV au]) (hm.ow_rep 2 rfl) aj rfl).cell (j:=0) rfl) rfl) (gA rfl (gA rfl (gE (gR (gM rfl (gM rfl (gF fo_105_1 rfl (gL hm 3 isAgg47 rfl (gM rfl (gg λav bO ak=>?_)))))))))))
     obtain ⟨bu,bv,bx,he⟩:=idx_form ae ak
     subst he
     refine gI st_47 bO (idx_lt ak) rfl (gY (yl isAgg3 ((flat_cells (cs:=[nV av]) (hm.now ae) ak rfl).cell (j:=0) rfl) rfl) (gf0 rfl (λa hf=>e_insM (β:=Int) (key:=au) (u:=av) (b:=false) 4 underlying3 underlying100 hf hm rfl rfl rfl rfl rfl) ?_))
     rintro _ w hm
     exact gE (gR (gP (by omega) (by omega) rfl (gM rfl (gE (gze hm [0,1,2,3,4] rfl)))))
    repeat clear hm
    intro bz aS w hm cA cB
    refine gS (gR (gB rfl (gE (gS (go _ 38 rfl (decide_eq_false (by omega)) (gcf rfl (gXt (gHh (gR (gM rfl (gM rfl (gM rfl (gM rfl (gg λaT aw aM=>?_))))))))))))))
    obtain ⟨al,am,cC,he⟩:=idx_form' (hm.ow_rep 1 rfl) aM
    obtain ⟨rfl,_,rfl⟩:=sl3 he
    obtain ⟨_,_,ax,bP⟩:=ro_get' (hm.ow_rep 1 rfl) aM
    have an:=bP
    obtain ⟨ay,rfl,-⟩:=id an
    replace an:GT.rep (hp _) [ay] aT:=an
    replace ax:CellsAt (hp _) al (am+(aB).toNat*1) [ay]:=ax
    have hL2_1:=rep_slice_len (hm.ow_rep 1 rfl)
    refine gI st_82 aw (idx_lt2 aM hL2_1) rfl ?_
    obtain ⟨_,bQ,hm⟩:=hm.openE 1 rfl aM
    have bR:=hm.ow_rep 0 rfl
    have aV:=bR
    obtain ⟨ao,rfl,-⟩:=id aV
    replace aV:GT.rep (hp _) [ao] aT:=aV
    clear bQ aV
    replace hm:Mem w0 (hp w0) _ [ow [ao] (aT:List (MapS Int)),blk aF [nV c_.params,nV c_.regs,sV aH aI c_.blocks.length aD] 44,holeE al am aC.length aE (aL:List (List (MapS Int))) (aB).toNat [ao],ow [.slice aJ aA.length aK] aA,blk aR [nV aa.to,ac] 105,owm af aS]:=hm
    replace hm:=hm.pk (L':=[_,_,_,_,_,_]) [0,1,2,3,4,5] rfl rfl
    refine gY (yl isAgg99 ((hm.holeE_at 2 rfl).cell (j:=0) rfl) rfl) (gM rfl ?_)
    obtain ⟨aW,he⟩:=owm_form hm 5 rfl
    subst he
    refine gf rfl (λa hf=>e_build (vs:=#[(0,(.map (some aW)))]) (cs:=[(.map (some aW))]) et_99 hf hm rfl rfl (by kernel_rfl) rfl rfl) ?_
    rintro _ w ⟨cD,rfl,hm⟩
    replace hm:=hm.els_nil (α:=MapS Int)
    have cE:=owm_cells hm 7 rfl
    replace hm:=hm.imp (c':=ow [(.map (some aW))] (aS:MapS Int)) 7 rfl (λF h0=>own_owm h0)
    replace hm:=hm.imp (c':=ow [(.map (some aW))] (aS:MapS Int)) 7 rfl (λF h0=>h0)
    replace hm:=(hm.els_cons 0 7 (by decide) rfl rfl).pk (L':=[_,_,_,_,_,_,_]) [0,1,2,3,4,5,6] rfl rfl
    replace hm:=(hm.lit_els 1 0 (by decide) rfl rfl rfl rfl).pk (L':=[_,_,_,_,_,_]) [1,2,3,4,5,6] rfl rfl
    refine gb λaX bS=>?_
    obtain ⟨bT,bU⟩:=appM_some.1 bS
    replace hm:=(hm.both 1 0 (by decide) rfl rfl).pk (L':=[_,_,_,_,_]) [1,2,3,4,5] rfl rfl
    refine gf rfl (λa hf=>e_appendD (xs:=aT) (ys:=([aS]:List (MapS Int))) 0 et_99 hf hm rfl rfl rfl rfl bT) ?_
    rintro aN w hm
    rw [bU] at hm
    have hL2_2:=hm.holeE_len 2 rfl
    refine gI st_82 aw (idx_lt2 aM hL2_2) rfl ?_
    have az:∀ u∈([aN]:List Value),u.oneCell'=true:=(one_cons (rep_one (hm.ow_rep 0 rfl)) one_nil)
    refine gf0 rfl (λa hf=>e_storeH (j:=0) (vs:=[aN]) 2 hf hm rfl rfl rfl sizeOf99 rfl rfl (cells_one (az _ (List.mem_singleton.2 rfl))) az rfl) ?_
    rintro _ w hm
    replace hm:Mem w0 (hp w0) _ [ow [aN] aX,blk aF [nV c_.params,nV c_.regs,sV aH aI c_.blocks.length aD] 44,holeE al am aC.length aE (aL:List (List (MapS Int))) (aB).toNat [aN],ow [.slice aJ aA.length aK] aA,blk aR [nV aa.to,ac] 105]:=hm
    refine gE ?_
    replace hm:=hm.imp (c':=ow [aN] (aX:List (MapS Int))) 0 rfl (λF h0=>h0)
    replace hm:=(hm.shutE (y:=(aX:List (MapS Int))) 2 0 (by decide) rfl rfl).pk (L':=[_,_,_,_]) [1,2,3,4] rfl rfl
    have cF:=List.getElem?_set_self (a:=(aX:List (MapS Int))) (idx_lt aM)
    exact gR (gP (by omega) (by omega) rfl (gM rfl (gE (gze hm [0,1,2] rfl))))
   repeat clear hm
   intro cG cH w hm cI cJ
   exact gS (gR (gB rfl (gE (gS (go _ 31 rfl (decide_eq_false (by omega)) (gcf rfl (gXt (gHh (gR (gP (by omega) (by omega) rfl (gM rfl (gE (gze hm [0,1] rfl)))))))))))))
  repeat clear hm
  intro cK cL w hm cM cN
  exact gS (gR (gB rfl (gE (gS (go _ 20 rfl (decide_eq_false (by omega)) (gcf rfl (gXt (gHh (gS (gR (gM rfl (gA rfl (gE (gRt (gr1 results52 rfl ⟨.slice aG aC.length aE,rfl,hm.pk [1] rfl rfl⟩)))))))))))))))
theorem slices_Clone_S_impl_Ins_impl_Ins_ok (w0 : World) (hz : Heap) {b off len cap : Nat} {ys zs : List Ins_} {v : Value} (hm : Mem w0 hz w0 [gap b off len cap ys zs]) (hv : v = subV 4 (sV b off len cap) (len - zs.length) len) :
    ConM Tryz.prog 53 [v] w0 (slices_Clone_S_impl_Ins_impl_Ins zs) λr v' w'=>Mem w0 hz w' [ow [v'] r,gap b off len cap ys []]:=by
  unfold slices_Clone_S_impl_Ins_impl_Ins
  refine gcon func53 rfl λr=>?_
  obtain ⟨⟨hl,hcap⟩,hmax⟩:=hm.gap_max 0 rfl
  obtain ⟨p,n,c,hv2⟩:∃ p n c,v=.slice (some p) n c:=⟨_,_,_,hv.trans subV_some⟩
  subst hv2
  refine gS (gR (gA rfl (gE (gS (gS (gR (gM rfl (gY (yG rfl (y_eqnil_f st_46.und rfl rfl rfl)) (gE (gcf rfl (gSk (gS (gR (gf rfl (λa hf=>e_build0 (α:=Ins_) et_46 hm rfl) ?_))))))))))))))
  rintro v0 w hm
  refine gM rfl (gb λq hq=>?_)
  obtain ⟨h0,h0e⟩:=appM_some.1 hq
  obtain ⟨ns,hS,hm⟩:=hm.gap_zsG 1 rfl
  replace hS:=src_sub hS rfl (by omega) hcap
  replace hv:_=subV (GT.sz Ins_) _ _ _:=hv
  rw [← hv] at hS
  replace hm:=(hm.both 1 0 (by decide) rfl rfl).pk (L':=[_,_]) [1,2] rfl rfl
  refine gf rfl (λa hf=>e_appendE (xs:=[]) (ys:=zs) 0 et_46 hf hm rfl hS rfl rfl rfl h0) ?_
  rintro v1 w hm
  rw [h0e] at hm
  exact gA rfl (gE (gRt (gr1 results53 rfl (hm.pk [0,1] rfl rfl))))
theorem slices_Clip_S_impl_Ins_impl_Ins_ok (w0 : World) (hz : Heap) {b off len cap n : Nat} {ys zs : List Ins_} (hm : Mem w0 hz w0 [gap b off len cap ys zs]) (hn : n = ys.length) (hc : n ≤ cap) :
    ConM Tryz.prog 54 [.slice (some ⟨b,off,none⟩) n cap] w0 (slices_Clip_S_impl_Ins_impl_Ins ys) λr v' w'=>Mem w0 hz w' [ow [v'] r]:=by
  unfold slices_Clip_S_impl_Ins_impl_Ins
  refine gcon func54 rfl λr=>?_
  subst hn
  refine gS (gR (gA rfl (gE (gS (gR (gM rfl (gM rfl (gY (yV st_46 rfl) (gM rfl (gY (yV st_46 rfl) (gY (yG rfl (y_clip (α:=Ins_) st_46 rfl rfl rfl rfl hc)) (gA rfl (gE (gRt ?_))))))))))))))
  exact gr1 results54 rfl (hm.gap_clip 0 rfl)
theorem impl_once_ok (w0 : World) (list : List Int) (v1 : Value) (h1 : GT.rep (hp w0) [v1] list) :
    ConM Tryz.prog 59 [v1] w0 (impl_once list) λr v w'=>∃ (x1:Value),v=x1∧Mem w0 (hp w0) w' [ow [x1] r]:=by
  unfold impl_once
  refine gcon func59 rfl λr=>?_
  have hm:=Mem.start w0
  refine gS (gR (gA rfl (gE (gS (gR (gM rfl (gCg rfl call94 (slices_Clone_S_int_int_ok _ list v1 (hm.now h1)) ?_)))))))
  rintro aB aC aD w ⟨_,rfl,hB⟩
  replace hm:=hm.give hB;clear hB
  refine gA rfl (gE (gS (gR (gM rfl (gf rfl (λa hf=>e_call hf rfl call90 rfl (sort_con lays189 hm 0 rfl)) ?_)))))
  rintro _ w ⟨rfl,hm⟩
  refine gE (gS (gR (gM rfl (gf rfl (λa hf=>e_call hf rfl call95 rfl (compact_con lays2_20 hm 0 rfl)) ?_))))
  rintro aA w hm
  exact gA rfl (gE (gRt (gr1 results59 rfl ⟨aA,rfl,hm.pk [0] rfl rfl⟩)))
theorem pimpl_live__outs_ok (w0 : World) (l_ : live) (bp0 : Nat) (v1p : Value) (h1p : GT.rep (hp w0) [v1p] l_.c.blocks) (v2p : Value) (h2p : GT.rep (hp w0) [v2p] l_.ins) (v3p : Value) (h3p : GT.rep (hp w0) [v3p] l_.preds) (hbbp0 : (hp w0) bp0 = some (.cells ([nV l_.c.params, nV l_.c.regs, v1p, v2p, v3p] : List Value).toArray 91 (0, 0))) (b_ : Int) :
    ConM Tryz.prog 151 [(pV bp0),nV b_] w0 (pimpl_live__outs l_ b_) λr v w'=>∃ (x1:Value),v=x1∧Mem w0 (hp w0) w' [owm x1 r]:=by
  unfold pimpl_live__outs
  refine gcon func151 rfl λr=>?_
  have hm:=Mem.start w0
  refine gS (gR (gA rfl (gE (gS (gR (gf rfl (λa hf=>e_mkM (β:=Bool) hm rfl) ?_))))))
  rintro aB w hm
  refine gA rfl (gE (gS (gS (gR (gM rfl (gY (yG rfl (y_nilptr rfl rfl)) (gF fo_91_0 rfl (gF fo_44_2 rfl (gY (yl isAgg42 (hm.hz_cell hbbp0 rfl) rfl) (gM rfl (gg λan ao aK=>?_)))))))))))
  obtain ⟨bN,bO,bP,he⟩:=idx_form' h1p aK
  subst he
  obtain ⟨bQ,bR,ap,aq,bS,bT,ar⟩:=rk_Block_ h1p aK
  refine gI st_42 ao (idx_lt aK) rfl (gF fo_49_4 rfl (gY (yl isAgg47 ((aq.mono hm.lez).cell (j:=4) rfl) rfl) (gCg rfl call59 (impl_once_ok _ an.next_ ap (hm.now ar)) ?_)))
  rintro aA bU bV w ⟨_,rfl,hB⟩
  replace hm:=hm.give hB;clear hB
  obtain ⟨ab,aC,rfl,bW⟩:=ro_slice (hm.ow_rep 0 rfl)
  refine gY (yV st_47 rfl) (gM rfl (gE (gBk (gNf hm (λaD aL=>[(0,(pV bp0)),(1,(nV b_)),(5,aB),(22,(.slice ab aA.length aC)),(23,(nV ((aA.length:Int)))),(24,(nV aD))]) (λaD aL=>[owm aB aL,ow [.slice ab aA.length aC] aA]) [1,0] rfl ?_ ?_))))
  ·repeat clear hm
   intro _ _ aD aL w hm bX bY bZ _
   refine gS (gR (gB rfl (gE (gS (go _ 25 rfl (decide_eq_true (by omega)) (gct rfl (gSk (gS (gBk (gS (gR (gg λaG au aM=>?_))))))))))))
   obtain ⟨aE,aF,b6,he⟩:=idx_form (hm.ow_rep 1 rfl) aM
   obtain ⟨rfl,_,rfl⟩:=sl3 he
   refine gI st_47 au (idx_lt aM) rfl (gY (yl isAgg3 ((flat_cells (cs:=[nV aG]) (hm.ow_rep 1 rfl) aM rfl).cell (j:=0) rfl) rfl) (gA rfl (gE (gS (gS (gR (gM rfl (gY (yG rfl (y_nilptr rfl rfl)) (gF fo_91_1 rfl (gY (yl isAgg89 (hm.hz_cell hbbp0 rfl) rfl) (gM rfl (gg λaN av aO=>?_))))))))))))
   obtain ⟨aw,ax,b7,he⟩:=idx_form' h2p aO
   subst he
   obtain ⟨_,_,aP,ay⟩:=ro_get' h2p aO
   have aH:=ay
   obtain ⟨aQ,rfl,-⟩:=id aH
   replace aH:GT.rep (hp w0) [aQ] aN:=aH
   replace aP:CellsAt (hp w0) aw (ax+(aG).toNat*1) [aQ]:=aP
   refine gI st_89 av (idx_lt aO) rfl (gY (yl isAgg88 ((aP.mono hm.lez).cell (j:=0) rfl) rfl) (gf rfl (λa hf=>e_rangeS (m:=(aN:MapS Bool)) hf hm underlying88 aH rfl rfl) ?_))
   rintro _ w ⟨ac,rfl,hm⟩
   refine gE (gJ hm (λaI=>[(0,(pV bp0)),(1,(nV b_)),(5,aB),(7,(nV aG)),(22,(sV aE aF aA.length aC)),(23,(nV ((aA.length:Int)))),(24,(nV aD))]) (λaI=>[owm aB aI,ow [sV aE aF aA.length aC] aA]) (λaI=>?_) ?_)
   ·refine gBk (gRng (m := (aN : MapS Bool)) (by exact comm_ins) aH (fun ae af a w => St 74 [(0, (pV bp0)), (1, (nV b_)), (5, aB), (7, (nV aG)), (22, (sV aE aF aA.length aC)), (23, (nV ((aA.length : Int)))), (24, (nV aD)), (35, (pV ac))] w0 (hp w0) [owm aB af, ow [sV aE aF aA.length aC] aA, itc (hp w0) aQ ac ae] a w) (fun a hf => ⟨hf.sb rfl, hm.pk [1, 2, 0] rfl rfl⟩) ?_ ?_)
    ·repeat clear hm
     rintro ae af a w ⟨hf,hm⟩ hmo
     refine gv (m:=some ()) (r:=()) hf ?_ rfl
     refine gS (gR (gf rfl (λa hf=>e_nextS 2 hf hm rfl hmo rfl rfl) ?_))
     rintro _ w ⟨b8,az,b9,rfl,ah,ai,hm⟩
     refine gSw ah (gX rfl (gE (gS (gct rfl (gSk (gBk (gS (gR (gY (yG rfl (y_entryS 2 hm rfl ai rfl rfl)) (gX rfl (gA rfl (gE (gR (gM rfl (gM rfl (gf0 rfl (λa hf=>e_insM (β:=Bool) (key:=az.1) (u:=true) (b:=false) 0 underlying3 underlying88 hf hm rfl rfl rfl rfl rfl) ?_))))))))))))))))
     rintro _ w hm
     exact gE (gZr ai ah λa hf=>⟨hf.sb rfl,hm.pk [0,1,2] rfl rfl⟩)
    repeat clear hm
    rintro ba bc a w ⟨hf,hm⟩ hno hk
    refine gv hf ?_ hk
    exact gS (gR (gY (yG rfl (y_nextE 2 hm rfl hno rfl rfl)) (gX rfl (gE (gS (gcf rfl (gXt (gHh (gz hm [0,1] rfl)))))))))
   repeat clear hm
   intro aI w hm
   refine gS (gR (gM rfl (gY (yG rfl (y_nilptr rfl rfl)) (gF fo_91_2 rfl (gY (yl isAgg59 (hm.hz_cell hbbp0 rfl) rfl) (gM rfl (gg λaj bA aR=>?_)))))))
   obtain ⟨bB,bC,bd,he⟩:=idx_form' h3p aR
   subst he
   obtain ⟨_,_,aS,bD⟩:=ro_get' h3p aR
   have aJ:=bD
   obtain ⟨aT,rfl,-⟩:=id aJ
   replace aJ:GT.rep (hp w0) [aT] aj:=aJ
   replace aS:CellsAt (hp w0) bB (bC+(aG).toNat*1) [aT]:=aS
   refine gI st_59 bA (idx_lt aR) rfl (gY (yl isAgg47 ((aS.mono hm.lez).cell (j:=0) rfl) rfl) (gM rfl (gC hm rfl call154 (slices_Index_S_int_int_ok _ aj aT (hm.now aJ) b_) λbE be w hm=>gA rfl (gE (gS (gR (gM rfl (gY (yG rfl (y_nilptr rfl rfl)) (gF fo_91_0 rfl (gF fo_44_2 rfl (gY (yl isAgg42 (hm.hz_cell hbbp0 rfl) rfl) (gM rfl (gg λak bF al=>?_)))))))))))))
   obtain ⟨bf,bg,bh,bG,aV,bi,bj⟩:=rk_Block_ h1p al
   refine gI st_42 bF (idx_lt al) rfl (gF fo_49_0 rfl (gY (yl isAgg45 ((bG.mono hm.lez).cell (j:=0) rfl) rfl) ?_))
   obtain ⟨bH,bJ,rfl,bk⟩:=ro_slice aV
   refine gY (yV st_45 rfl) (gM rfl (gE (gBk (gNf hm (λaW aX=>[(0,(pV bp0)),(1,(nV b_)),(5,aB),(9,(nV bE)),(22,(sV aE aF aA.length aC)),(23,(nV ((aA.length:Int)))),(24,(nV aD)),(59,(.slice bH ak.phis.length bJ)),(60,(nV ((ak.phis.length:Int)))),(61,(nV aW))]) (λaW aX=>[owm aB aX,ow [sV aE aF aA.length aC] aA]) [0,1] rfl ?_ ?_))))
   ·repeat clear hm
    intro _ _ aW aX w hm bm bp bq _
    refine gS (gR (gB rfl (gE (gS (go _ 62 rfl (decide_eq_true (by omega)) (gct rfl (gSk (gS (gBk (gS (gR (gg λbr bK aY=>?_))))))))))))
    obtain ⟨bs,bt,bu,he⟩:=idx_form' aV aY
    obtain ⟨rfl,_,rfl⟩:=sl3 he
    obtain ⟨bv,bL,aZ⟩:=rk_Phi_ aV aY
    refine gI st_45 bK (idx_lt aY) rfl (gY (yn (bL.mono hm.lez) isAgg105 sizeOf105 rfl) (gAl hm zeroValue105 rfl λbx w hm=>gSN hm 0 sizeOf105 (one_cons rfl (one_cons (rep_one aZ) one_nil)) rfl λw hm=>gE (gR (gM rfl (gF fo_105_1 rfl (gL hm 0 isAgg47 rfl (gM rfl (gg λam bM aa=>?_))))))))
    obtain ⟨bz,cA,cB,he⟩:=idx_form aZ aa
    subst he
    refine gI st_47 bM (idx_lt aa) rfl (gY (yl isAgg3 ((flat_cells (cs:=[nV am]) (hm.now aZ) aa rfl).cell (j:=0) rfl) rfl) (gf0 rfl (λa hf=>e_insM (β:=Bool) (key:=am) (u:=true) (b:=false) 1 underlying3 underlying88 hf hm rfl rfl rfl rfl rfl) ?_))
    rintro _ w hm
    exact gE (gR (gP (by omega) (by omega) rfl (gM rfl (gE (gze hm [1,2] rfl)))))
   repeat clear hm
   intro cC cD w hm cE cF
   exact gS (gR (gB rfl (gE (gS (go _ 62 rfl (decide_eq_false (by omega)) (gcf rfl (gXt (gHh (gR (gP (by omega) (by omega) rfl (gM rfl (gE (gze hm [0,1] rfl)))))))))))))
  repeat clear hm
  intro cG cH w hm cI cJ
  exact gS (gR (gB rfl (gE (gS (go _ 25 rfl (decide_eq_false (by omega)) (gcf rfl (gXt (gHh (gS (gR (gM rfl (gA rfl (gE (gRt (gr1 results151 rfl ⟨aB,rfl,hm.pk [0] rfl rfl⟩)))))))))))))))
theorem impl_MadeBy_ok (w0 : World) (x_ : Ins_) (v1 : Value) (h1 : GT.rep (hp w0) [v1] x_.args) :
    ConM Tryz.prog 129 [(.agg #[nV x_.op,nV x_.to,v1,nV x_.n_])] w0 (impl_MadeBy x_) λr v w'=>v=(nV r)∧Below w0.heap.size w0 w':=by
  unfold impl_MadeBy
  refine gcon func129 rfl λr=>?_
  have hm:=Mem.start w0
  refine gS (gR (gBx hm rfl λaB w hm=>gA rfl (gE (gS (gS (gR (gF fo_51_0 rfl (gL hm 0 isAgg3 rfl (gC hm rfl call92 (impl_sets_ok _ x_.op) λaC aD w hm=>gN rfl (gE (gsn 6 rfl (λaA=>?_) λaA=>?_)))))))))))
  ·exact gct rfl (gS (gR (gA rfl (gE (gRt (gr1 results129 rfl ⟨rfl,hm.below⟩))))))
  exact gcf rfl (gSk (gS (gR (gF fo_51_1 rfl (gL hm 0 isAgg3 rfl (gA rfl (gE (gRt (gr1 results129 rfl ⟨rfl,hm.below⟩)))))))))
theorem impl_regSet__with_ok (w0 : World) (hz : Heap) (s_ : MapS Bool) (v1 : Value) (list : List Int) (v2 : Value) (h2 : GT.rep hz [v2] list) (hm0 : Mem w0 hz w0 [owm v1 s_]) :
    ConM Tryz.prog 152 [v1,v2] w0 (impl_regSet__with s_ list) λr v w'=>v=v1∧Mem w0 hz w' [owm v1 r]:=by
  unfold impl_regSet__with
  refine gcon func152 rfl λr=>?_
  have hm:=hm0
  refine gS (gR (gA rfl (gE (gS (gS (gR (gM rfl ?_)))))))
  obtain ⟨aE,aF,rfl,aH⟩:=ro_slice h2
  refine gY (yV st_47 rfl) (gM rfl (gE (gBk (gNf hm (λaA aB=>[(0,v1),(7,(.slice aE list.length aF)),(8,(nV ((list.length:Int)))),(9,(nV aA))]) (λaA aB=>[owm v1 aB]) [0] rfl ?_ ?_))))
  ·repeat clear hm
   intro _ _ aA aB w hm aI aJ aK _
   refine gS (gR (gB rfl (gE (gS (go _ 10 rfl (decide_eq_true (by omega)) (gct rfl (gSk (gS (gBk (gS (gR (gg λaD aG aC=>?_))))))))))))
   obtain ⟨aL,aM,aN,he⟩:=idx_form h2 aC
   obtain ⟨rfl,_,rfl⟩:=sl3 he
   refine gI st_47 aG (idx_lt aC) rfl (gY (yl isAgg3 ((flat_cells (cs:=[nV aD]) (hm.now h2) aC rfl).cell (j:=0) rfl) rfl) (gA rfl (gE (gR (gM rfl (gM rfl (gf0 rfl (λa hf=>e_insM (β:=Bool) (key:=aD) (u:=true) (b:=false) 0 underlying3 underlying88 hf hm rfl rfl rfl rfl rfl) ?_)))))))
   rintro _ w hm
   exact gE (gR (gP (by omega) (by omega) rfl (gM rfl (gE (gze hm [0] rfl)))))
  repeat clear hm
  intro aO aP w hm aQ aR
  exact gS (gR (gB rfl (gE (gS (go _ 10 rfl (decide_eq_false (by omega)) (gcf rfl (gXt (gHh (gS (gR (gM rfl (gA rfl (gE (gRt (gr1 results152 rfl ⟨rfl,hm.pk [0] rfl rfl⟩)))))))))))))))
theorem pimpl_live__behind_ok (w0 : World) (l_ : live) (bp0 : Nat) (v1p : Value) (h1p : GT.rep (hp w0) [v1p] l_.c.blocks) (v2p : Value) (h2p : GT.rep (hp w0) [v2p] l_.ins) (v3p : Value) (h3p : GT.rep (hp w0) [v3p] l_.preds) (hbbp0 : (hp w0) bp0 = some (.cells ([nV l_.c.params, nV l_.c.regs, v1p, v2p, v3p] : List Value).toArray 91 (0, 0))) (b_ : Int) (i_ : Int) :
    ConM Tryz.prog 91 [(pV bp0),nV b_,nV i_] w0 (pimpl_live__behind l_ b_ i_) λr v w'=>∃ (x1:Value),v=x1∧Mem w0 (hp w0) w' [owm x1 r]:=by
  unfold pimpl_live__behind
  refine gcon func91 rfl λr=>?_
  have hm:=Mem.start w0
  refine gS (gR (gA rfl (gE (gS (gR (gM rfl (gM rfl (gCg rfl call151 (pimpl_live__outs_ok _ l_ bp0 v1p (hm.now h1p) v2p (hm.now h2p) v3p (hm.now h3p) (hm.lez _ _ ((Heap.le_refl _) _ _ hbbp0)) b_) ?_))))))))
  rintro al am aB w ⟨_,rfl,hB⟩
  replace hm:=hm.give hB;clear hB
  refine gA rfl (gE (gS (gR (gM rfl (gY (yG rfl (y_nilptr rfl rfl)) (gF fo_91_0 rfl (gF fo_44_2 rfl (gY (yl isAgg42 (hm.hz_cell hbbp0 rfl) rfl) (gM rfl (gg λaA aV aL=>?_))))))))))
  obtain ⟨an,ao,ap,he⟩:=idx_form' h1p aL
  subst he
  obtain ⟨aF,aW,aG,aX,aY,aH,aZ⟩:=rk_Block_ h1p aL
  refine gI st_42 aV (idx_lt aL) rfl (gY (yn (aX.mono hm.lez) isAgg49 sizeOf49 rfl) (gAl hm zeroValue49 rfl λaC w hm=>gSN hm 0 sizeOf49 (one_cons (rep_one aY) (one_cons (rep_one aH) (one_cons rfl (one_cons rfl (one_cons (rep_one aZ) one_nil))))) rfl λw hm=>gE (gS (gS (gR (gF fo_49_2 rfl (gL hm 0 isAgg3 rfl (gC hm rfl call93 (impl_usesOn_ok _ aA.jump) λaq ar w hm=>gE (gJ hm (λaI=>[(2,(nV i_)),(7,aB),(8,(pV aC))]) (λaI=>[owm aB aI,blk aC [aF,aW,nV aA.jump,nV aA.on,aG] 49]) (λaI=>?_) ?_)))))))))
  ·refine gs 24 rfl (fun aa => ?_) fun aa => ?_
   ·refine gct rfl (gR (gM rfl (gF fo_49_3 rfl (gL hm 0 isAgg3 rfl (gf0 rfl (fun a hf => e_insM (β := Bool) (key := aA.on) (u := true) (b := false) 1 underlying3 underlying88 hf hm rfl rfl rfl rfl rfl) ?_)))))
    rintro _ w hm
    exact gE (gz hm [1,0] rfl)
   exact gcf rfl (gSk (gz hm [1,0] rfl))
  repeat clear hm
  intro aI w hm
  refine gS (gS (gR (gF fo_49_1 rfl (gL hm 1 isAgg46 rfl ?_))))
  obtain ⟨ab,aM,rfl,au⟩:=ro_slice aH
  refine gY (yV st_46 rfl) (gY (yS (by omega) (by omega) rfl) (gA rfl (gE (gJ hm (λaJ=>[(7,aB)]) (λaJ=>[owm aB aJ]) (λaJ=>?_) ?_))))
  ·refine gBk (gMf hm (fun aE => [(2, (nV i_)), (7, aB), (8, (pV aC)), (9, (nV aE.2))]) (fun aE => [owm aB aE.1, blk aC [aF, .slice ab aA.ins.length aM, nV aA.jump, nV aA.on, aG] 49]) [0, 1] rfl ?_)
   repeat clear hm
   intro av ac aE w hm aw ae
   refine gS (gS (gR (gM rfl (gM rfl (gB rfl (gE (gsd 34 rfl (λaf=>?_) λaf=>?_)))))))
   ·refine gct rfl (gSk (gS (gBk (gS (gS (gR (gF fo_49_1 rfl (gL hm 1 isAgg46 rfl (gM rfl (gg fun aN aO aK => ?_))))))))))
    obtain ⟨aP,aQ,ax,he⟩:=idx_form' aH aK
    obtain ⟨rfl,_,rfl⟩:=sl3 he
    obtain ⟨aR,aS,aT⟩:=rk_Ins_ aH aK
    refine gI st_46 aO (idx_lt aK) rfl (gY (yn (aS.mono hm.lez) isAgg51 sizeOf51 rfl) (gC hm rfl call129 (impl_MadeBy_ok _ aN aR (hm.now aT)) λah ay w hm=>gA rfl (gE (gS (gR (gM rfl (gB rfl (gE (gJ hm (λaD=>[(2,(nV i_)),(7,aB),(8,(pV aC)),(9,(nV aE.2))]) (λaD=>[owm aB aD,blk aC [aF,sV aP aQ aA.ins.length aM,nV aA.jump,nV aA.on,aG] 49]) (λaD=>?_) ?_)))))))))
    ·refine gsd 44 rfl (fun ai => ?_) fun ai => ?_
     ·refine gct rfl (gR (gM rfl (gM rfl (gf0 rfl (fun a hf => e_delM (β := Bool) (key := ah) 0 underlying3 underlying88 hf hm rfl rfl rfl rfl rfl) ?_))))
      rintro _ w hm
      exact gE (gz hm [0,1] rfl)
     exact gcf rfl (gSk (gz hm [0,1] rfl))
    repeat clear hm
    intro aD w hm
    refine gR (gM rfl (gF fo_49_1 rfl (gL hm 1 isAgg46 rfl (gM rfl (gI st_46 aO (idx_lt aK) rfl (gF fo_51_2 rfl (gY (yl isAgg47 ((aS.mono hm.lez).cell (j:=2) rfl) rfl) ?_)))))))
    obtain ⟨aj,hle,hm1,hsub,ak⟩:=hm.take2 (L1:=[owm aB aD]) (L2:=[blk aC [aF,sV aP aQ aA.ins.length aM,nV aA.jump,nV aA.on,aG] 49]) [0] [1] (by decide) rfl rfl
    refine gCg rfl call152 (impl_regSet__with_ok _ aj aD aB aN.args aR (GT.mono hle aT) hm1 ) ?_
    rintro az bA bB w ⟨rfl,hB⟩
    replace hm:=ak _ _ hB;clear hB
    exact gE (gR (gM rfl (gB rfl (gA rfl (gE (gze hm [0,1] rfl))))))
   exact gcf rfl (gXt (gHh (gLp ae ac (gz hm [0] rfl))))
  repeat clear hm
  intro aJ w hm
  exact gS (gR (gM rfl (gA rfl (gE (gRt (gr1 results91 rfl ⟨aB,rfl,hm.pk [0] rfl rfl⟩))))))
theorem impl_liveOf_ok (w0 : World) (hz : Heap) (hle0 : Heap.le hz (hp w0)) (c_ : Code_) (v1 : Value) (h1 : GT.rep hz [v1] c_.blocks) :
    ConM Tryz.prog 56 [(.agg #[nV c_.params,nV c_.regs,v1])] w0 (impl_liveOf c_) λr v w'=>∃ (b1:Nat) (x2:Value) (x3:Value) (x4:Value) (hz2:Heap),v=(pV b1)∧Heap.le hz hz2∧GT.rep hz2 [x2] r.c.blocks∧Mem w0 hz2 w' [junk w0 hz,blk b1 [nV r.c.params,nV r.c.regs,x2,x3,x4] 91,ow [x3] r.ins,ow [x4] r.preds]:=by
  unfold impl_liveOf
  refine gcon func56 rfl λr=>?_
  have hm:=Mem.startA hle0
  refine gS (gR (gBx hm rfl λaJ w hm=>gA rfl (gE (gS (gW (.p 1 (.q 0 (.e 2 (.p 3 (.e 4 (.p 5 (.e 6 (.p 7 .fin) .nil)) .nil)) .nil))) [2,4] [1,3,5,7] hm [0,1] [blk aJ [nV c_.params,nV c_.regs,v1] 44,junk w0 hz] rfl mxo (by kernel_rfl) (λ_ _ _ h=>h.2) λw hm hS=>tP rfl (λw=>yF fo_44_2 rfl) (tQ rfl hS (λw hm=>yn (hm.blk_at 0 rfl) isAgg44 sizeOf44 rfl) (tO (tY rfl (yL hm 0 isAgg42 rfl) (tAs hS ?_)))))))))
  obtain ⟨aG,aC,rfl,bY⟩:=ro_slice h1
  refine tP rfl (λw=>yV st_42 rfl) (tO (gb λaA ax=>?_))
  obtain ⟨⟨ay,az⟩,ap⟩:=makeM_some.1 ax
  refine tf rfl rfl (λa hf=>e_make (x0:=((MapS.mk0:MapS Bool):MapS Bool)) et_89 (λ_=>(own_map.2 (.inl ⟨rfl,rfl⟩))) hf hm rfl rfl rfl ay (Int.le_refl _) az) ?_
  rintro bZ w hm
  rw [ap] at hm
  have h0_1l:(aA.length:Int)=(c_.blocks.length:Int):=by rw [← ap];simp only [List.length_replicate];omega
  refine tAk hm [1,2] rfl λhS=>?_
  obtain ⟨aE,aD,rfl,b6⟩:=ro_slice (hm.ow_rep 0 rfl)
  refine tP rfl (λw=>yG rfl (y_build (vs:=[(0,(.agg #[nV c_.params,nV c_.regs,.slice aG c_.blocks.length aC])),(1,(.slice aE aA.length aD))]) (cs:=#[nV c_.params,nV c_.regs,.slice aG c_.blocks.length aC,.slice aE aA.length aD,.slice none 0 0]) rfl rfl (by kernel_rfl))) (tO (tf rfl rfl (λa hf=>e_box hf hm rfl rfl rfl) ?_))
  rintro _ w ⟨aF,rfl,hm⟩
  refine tAn rfl (tP rfl (λw=>yA rfl) (tE (gS (gS (gR (gF fo_44_2 rfl (gL hm 2 isAgg42 rfl (gY (yV st_42 rfl) (gM rfl (gE (gBk ?_)))))))))))
  replace hm:=hm.nilow (α:=List Int)
  refine gNg (λac aW a w=>∃ (aQ:Value),St 82 [(1,(pV aJ)),(3,(pV aF)),(19,(nV ((c_.blocks.length:Int)))),(20,(nV ac))] w0 hz [blk aJ [nV c_.params,nV c_.regs,.slice aG c_.blocks.length aC] 44,blk aF [nV c_.params,nV c_.regs,.slice aG c_.blocks.length aC,.slice aE aA.length aD,aQ] 91,ow [.slice aE aA.length aD] aA,ow [aQ] aW,junk w0 hz] a w) (λa hf=>⟨.slice none 0 0,hf.sb rfl,hm.pk [3,1,2,0,4] rfl rfl⟩) ?_ ?_
  ·repeat clear hm
   rintro _ _ ac aW a w ⟨aQ,hf,hm⟩ b7 b8 b9 _
   refine gv hf (gS (gR (gB rfl (gE (gS (go _ 21 rfl (decide_eq_true (by omega)) (gct rfl (gSk (gS (gBk (gS (gR (gM rfl (gA rfl (gE (gW (.p 0 (.p 1 (.p 2 (.p 3 (.p 6 (.q 4 (.e 5 (.e 7 (.e 8 (.e 9 (.p 10 (.p 11 (.e 12 .fin .nil))) .nil) .nil) .nil) .nil))))))) [5,7,8] [0,1,2,3,6,10,11] hm [0,1,2,3,4] [blk aJ [nV c_.params,nV c_.regs,.slice aG c_.blocks.length aC] 44,blk aF [nV c_.params,nV c_.regs,.slice aG c_.blocks.length aC,.slice aE aA.length aD,aQ] 91,ow [.slice aE aA.length aD] aA,ow [aQ] aW,junk w0 hz] rfl mxo (by kernel_rfl) (λ_ _ _ h=>h.2) λw hm hS=>tP rfl (λw=>yM rfl) (tP rfl (λw=>yM rfl) (tP rfl (λw=>yG rfl (y_nilptr rfl rfl)) (tP rfl (λw=>yF fo_91_2 rfl) (tP rfl (λw=>yM rfl) (tQ rfl hS (λw hm=>yL hm 1 isAgg59 rfl) (tO (tY rfl (yn (hm.blk_at 0 rfl) isAgg44 sizeOf44 rfl) (tAs hS (tO (gb λaR bA=>tf rfl rfl (λa hf=>e_call hf rfl call60 rfl (impl_PredsOf_ok _ c_ (.slice aG c_.blocks.length aC) (hm.now h1) ac _ bA)) ?_))))))))))))))))))))))))))
   rintro ba w ⟨_,rfl,hB⟩
   replace hm:=hm.give hB;clear hB
   refine tAk hm [1,2,3,4,5] rfl λhS=>tO ?_
   obtain ⟨ae,af,rfl,bc⟩:=ro_slice (hm.ow_rep 0 rfl)
   refine tf rfl rfl (λa hf=>e_build (vs:=#[(0,(.slice ae aR.length af))]) (cs:=[.slice ae aR.length af]) et_59 hf hm rfl rfl (by kernel_rfl) rfl rfl) ?_
   rintro _ w ⟨bd,rfl,hm⟩
   replace hm:=hm.els_nil (α:=List Int)
   replace hm:=hm.imp (c':=ow [.slice ae aR.length af] (aR:List Int)) 2 rfl (λF h0=>h0)
   replace hm:=(hm.els_cons 0 2 (by decide) rfl rfl).pk (L':=[_,_,_,_,_,_,_]) [0,1,3,4,5,6,7] rfl rfl
   replace hm:=(hm.lit_els 1 0 (by decide) rfl rfl rfl rfl).pk (L':=[_,_,_,_,_,_]) [1,2,3,4,5,6] rfl rfl
   refine tAk hm [1,2,3,4,5] rfl λhS=>tO (gb λbe bB=>?_)
   obtain ⟨bC,bD⟩:=appM_some.1 bB
   replace hm:=(hm.both 4 0 (by decide) rfl rfl).pk (L':=[_,_,_,_,_]) [1,2,3,4,5] rfl rfl
   refine tf rfl rfl (λa hf=>e_appendD (xs:=aW) (ys:=([aR]:List (List Int))) 3 et_59 hf hm rfl rfl rfl rfl bC) ?_
   rintro bE w hm
   rw [bD] at hm
   refine tAn rfl (tP rfl (λw=>yG rfl (y_nilptr rfl rfl)) (tP rfl (λw=>yF fo_91_2 rfl) (tO (tf0 rfl rfl (λa hf=>e_store1 1 hf hm rfl sizeOf59 rfl rfl rfl (rep_one (hm.ow_rep 3 rfl)) rfl) ?_))))
   rintro _ w hm
   exact tAn rfl (tE (gR (gP (by omega) (by omega) rfl (gM rfl (gE (gZe λa hf=>⟨bE,hf.sb rfl,hm.pk [0,1,2,3,4] rfl rfl⟩))))))
  repeat clear hm
  rintro bf aB a w ⟨bg,hf,hm⟩ bh bi
  refine gv hf (gS (gR (gB rfl (gE (gS (go _ 21 rfl (decide_eq_false (by omega)) (gcf rfl (gXt (gHh (gS (gS (gR (gA rfl (gE ?_))))))))))))))
  obtain ⟨aH,aI,rfl,bj⟩:=ro_slice (hm.ow_rep 3 rfl)
  refine gJ hm (λaX=>[(3,(pV aF))]) (λaX=>[blk aF [nV c_.params,nV c_.regs,.slice aG c_.blocks.length aC,.slice aE aA.length aD,.slice aH aB.length aI] 91,ow [.slice aE aA.length aD] aX,ow [.slice aH aB.length aI] aB,junk w0 hz]) (λaX=>?_) ?_
  ·refine gBk (gMf hm (fun aY => [(1, (pV aJ)), (3, (pV aF)), (5, (.bool (aY.2)))]) (fun aY => [blk aJ [nV c_.params, nV c_.regs, .slice aG c_.blocks.length aC] 44, blk aF [nV c_.params, nV c_.regs, .slice aG c_.blocks.length aC, .slice aE aA.length aD, .slice aH aB.length aI] 91, ow [.slice aE aA.length aD] aY.1, ow [.slice aH aB.length aI] aB, junk w0 hz]) [0, 1, 2, 3, 4] rfl ?_)
   repeat clear hm
   intro bk bF aY w hm bm bG
   refine gS (gS (gR (gM rfl (gE (gs 36 rfl (λbH=>?_) λbH=>?_)))))
   ·refine gct rfl (gSk (gBk (gS (gR (gA rfl (gE (gS (gR (gF fo_44_2 rfl (gL hm 0 isAgg42 rfl (gY (yV st_42 rfl) (gY (yS (by omega) (by omega) rfl) (gA rfl (gE (gJ hm (fun aS => [(1, (pV aJ)), (3, (pV aF)), (5, (.bool (aS.2)))]) (fun aS => [blk aJ [nV c_.params, nV c_.regs, .slice aG c_.blocks.length aC] 44, blk aF [nV c_.params, nV c_.regs, .slice aG c_.blocks.length aC, .slice aE aA.length aD, .slice aH aB.length aI] 91, ow [.slice aE aA.length aD] aS.1, ow [.slice aH aB.length aI] aB, junk w0 hz]) (fun aS => ?_) ?_)))))))))))))))
    ·refine gBk (gMf hm (fun aK => [(1, (pV aJ)), (3, (pV aF)), (5, (.bool (aK.2.1))), (6, (nV aK.2.2))]) (fun aK => [blk aJ [nV c_.params, nV c_.regs, .slice aG c_.blocks.length aC] 44, blk aF [nV c_.params, nV c_.regs, .slice aG c_.blocks.length aC, .slice aE aA.length aD, .slice aH aB.length aI] 91, ow [.slice aE aA.length aD] aK.1, ow [.slice aH aB.length aI] aB, junk w0 hz]) [0, 1, 2, 3, 4] rfl ?_)
     repeat clear hm
     intro bp bJ aK w hm bq bK
     refine gS (gS (gR (gM rfl (gB rfl (gE (gsd 42 rfl (λbL=>?_) λbL=>?_))))))
     ·refine gct rfl (gSk (gS (gJ hm (fun aT => [(1, (pV aJ)), (3, (pV aF)), (5, (.bool (aT.2))), (6, (nV aK.2.2))]) (fun aT => [blk aJ [nV c_.params, nV c_.regs, .slice aG c_.blocks.length aC] 44, blk aF [nV c_.params, nV c_.regs, .slice aG c_.blocks.length aC, .slice aE aA.length aD, .slice aH aB.length aI] 91, ow [.slice aE aA.length aD] aT.1, ow [.slice aH aB.length aI] aB, junk w0 hz]) (fun aT => ?_) ?_)))
      ·refine gBk (gS (gR (gM rfl (gM rfl (gCg rfl call91 (pimpl_live__behind_ok _ (⟨c_, aK.1, aB⟩ : live) aF (.slice aG c_.blocks.length aC) (hm.now h1) (.slice aE aA.length aD) (hm.ow_rep 2 rfl) (.slice aH aB.length aI) (hm.ow_rep 3 rfl) (hm.blk_cells 1 rfl).1 aK.2.2 (-1)) ?_)))))
       rintro br bs aM w ⟨_,rfl,hB⟩
       replace hm:=hm.give hB;clear hB
       refine gA rfl (gE (gS (gS (gR (gF fo_44_2 rfl (gL hm 1 isAgg42 rfl (gM rfl (gg λaq bM ah=>?_))))))))
       obtain ⟨aN,aO,bt,he⟩:=idx_form' h1 ah
       obtain ⟨rfl,_,rfl⟩:=sl3 he
       obtain ⟨bu,bv,bx,bN,ai,bz,cA⟩:=rk_Block_ h1 ah
       refine gI st_42 bM (idx_lt ah) rfl (gF fo_49_0 rfl (gY (yl isAgg45 ((bN.mono hm.lez).cell (j:=0) rfl) rfl) ?_))
       obtain ⟨bO,bP,rfl,cB⟩:=ro_slice ai
       refine gY (yV st_45 rfl) (gM rfl (gE (gBk (gNf hm (λaj ak=>[(1,(pV aJ)),(3,(pV aF)),(5,(.bool (aK.2.1))),(6,(nV aK.2.2)),(7,aM),(53,(.slice bO aq.phis.length bP)),(54,(nV ((aq.phis.length:Int)))),(55,(nV aj))]) (λaj ak=>[blk aJ [nV c_.params,nV c_.regs,sV aN aO c_.blocks.length aC] 44,blk aF [nV c_.params,nV c_.regs,sV aN aO c_.blocks.length aC,.slice aE aA.length aD,.slice aH aB.length aI] 91,ow [.slice aE aA.length aD] aK.1,ow [.slice aH aB.length aI] aB,owm aM ak,junk w0 hz]) [1,2,3,4,0,5] rfl ?_ ?_))))
       ·repeat clear hm
        intro _ _ aj ak w hm cC cD cE _
        refine gS (gR (gB rfl (gE (gS (go _ 56 rfl (decide_eq_true (by omega)) (gct rfl (gSk (gS (gBk (gS (gR (gg λbQ bR al=>?_))))))))))))
        obtain ⟨cF,cG,cH,he⟩:=idx_form' ai al
        obtain ⟨rfl,_,rfl⟩:=sl3 he
        obtain ⟨cI,bS,bT⟩:=rk_Phi_ ai al
        refine gI st_45 bR (idx_lt al) rfl (gY (yn (bS.mono hm.lez) isAgg105 sizeOf105 rfl) (gAl hm zeroValue105 rfl λcJ w hm=>gSN hm 0 sizeOf105 (one_cons rfl (one_cons (rep_one bT) one_nil)) rfl λw hm=>gE (gR (gM rfl (gF fo_105_0 rfl (gL hm 0 isAgg3 rfl (gf0 rfl (λa hf=>e_delM (β:=Bool) (key:=bQ.to) 5 underlying3 underlying88 hf hm rfl rfl rfl rfl rfl) ?_)))))))
        rintro _ w hm
        exact gE (gR (gP (by omega) (by omega) rfl (gM rfl (gE (gze hm [1,2,3,4,5,6] rfl)))))
       repeat clear hm
       intro cK aP w hm cL cM
       refine gS (gR (gB rfl (gE (gS (go _ 56 rfl (decide_eq_false (by omega)) (gcf rfl (gXt (gHh (gS (gW (.p 0 (.p 2 (.p 3 (.p 4 (.p 6 (.q 1 (.e 5 (.p 7 (.e 8 (.e 9 (.p 10 .fin) .nil) .nil)) .nil))))))) [5,8] [0,2,3,4,6,7,10] hm [0,1,2,3,4,5] [blk aJ [nV c_.params,nV c_.regs,sV aN aO c_.blocks.length aC] 44,blk aF [nV c_.params,nV c_.regs,sV aN aO c_.blocks.length aC,.slice aE aA.length aD,.slice aH aB.length aI] 91,ow [.slice aE aA.length aD] aK.1,ow [.slice aH aB.length aI] aB,owm aM aP,junk w0 hz] rfl mxo (by kernel_rfl) (λ_ _ _ h=>h.2) λw hm hS=>tP rfl (λw=>yM rfl) (tP rfl (λw=>yM rfl) (tP rfl (λw=>yG rfl (y_nilptr rfl rfl)) (tP rfl (λw=>yF fo_91_1 rfl) (tP rfl (λw=>yM rfl) (tQ rfl hS (λw hm=>yG rfl (y_lenS (m:=(aP:MapS Bool)) underlying88 (hm.owm_rep 4 rfl) rfl rfl)) (tO (tY rfl (yL hm 1 isAgg89 rfl) (tAs hS (gg λam ar aL=>?_)))))))))))))))))))
       obtain ⟨aZ,aa,cN,he⟩:=idx_form' (hm.ow_rep 2 rfl) aL
       obtain ⟨rfl,_,rfl⟩:=sl3 he
       obtain ⟨_,_,an,bU⟩:=ro_get' (hm.ow_rep 2 rfl) aL
       have ab:=bU
       obtain ⟨au,rfl,-⟩:=id ab
       replace ab:GT.rep (hp _) [au] am:=ab
       replace an:CellsAt (hp _) aZ (aa+(aK.2.2).toNat*1) [au]:=an
       have hL5_1:=rep_slice_len (hm.ow_rep 2 rfl)
       refine tP rfl (λw=>yI st_89 ar (idx_lt2 aL hL5_1) rfl) (tO (tY rfl (yl isAgg88 (an.cell (j:=0) rfl) rfl) (tAs hS (tO (tY rfl (yG rfl (y_lenS (m:=(am:MapS Bool)) underlying88 ab rfl rfl)) (tAn rfl (tP rfl (λw=>yB rfl) (tE (gJ hm (λaV=>[(1,(pV aJ)),(3,(pV aF)),(5,(.bool (aV.2))),(6,(nV aK.2.2))]) (λaV=>[blk aJ [nV c_.params,nV c_.regs,sV aN aO c_.blocks.length aC] 44,blk aF [nV c_.params,nV c_.regs,sV aN aO c_.blocks.length aC,sV aZ aa aA.length aD,.slice aH aB.length aI] 91,ow [sV aZ aa aA.length aD] aV.1,ow [.slice aH aB.length aI] aB,junk w0 hz]) (λaV=>?_) ?_)))))))))
       ·refine gsd 73 rfl (fun bV => ?_) fun bV => ?_
        ·refine gct rfl (gR (gM rfl (gY (yG rfl (y_nilptr rfl rfl)) (gF fo_91_1 rfl (gL hm 1 isAgg89 rfl (gM rfl (gM rfl ?_)))))))
         obtain ⟨_,_,av,bW⟩:=ro_get' (hm.ow_rep 2 rfl) aL
         have ao:=bW
         obtain ⟨aw,rfl,-⟩:=id ao
         replace ao:GT.rep (hp _) [aw] am:=ao
         replace av:CellsAt (hp _) aZ (aa+(aK.2.2).toNat*1) [aw]:=av
         have hL6_1:=rep_slice_len (hm.ow_rep 2 rfl)
         refine gI st_89 ar (idx_lt2 aL hL6_1) rfl ?_
         have bX:=owm_cells hm 4 rfl
         replace hm:=hm.imp (c':=ow [aM] (aP:MapS Bool)) 4 rfl (λF h0=>own_owm h0)
         replace hm:=hm.imp (c':=ow [aM] (aP:MapS Bool)) 4 rfl (λF h0=>h0)
         replace hm:=(hm.both 2 4 (by decide) rfl rfl).pk (L':=[_,_,_,_,_]) [0,1,2,3,5] rfl rfl
         refine gf0 rfl (λa hf=>e_putElem (x1:=(aP:MapS Bool)) (vs:=[aM]) 2 hf hm rfl aL rfl sizeOf88 rfl rfl bX rfl) ?_
         rintro _ w hm
         have cO:=List.getElem?_set_self (a:=(aP:MapS Bool)) (idx_lt aL)
         exact gA rfl (gE (gz hm [0,1,2,3,4] rfl))
        exact gcf rfl (gSk (gz hm [0,1,2,3,5] rfl))
       repeat clear hm
       intro aV w hm
       exact gz hm [0,1,2,3,4] rfl
      repeat clear hm
      intro aT w hm
      exact gR (gM rfl (gB rfl (gA rfl (gE (gze hm [0,1,2,3,4] rfl)))))
     exact gcf rfl (gXt (gHh (gLp bK bJ (gz hm [0,1,2,3,4] rfl))))
    repeat clear hm
    intro aS w hm
    exact gze hm [0,1,2,3,4] rfl
   exact gcf rfl (gXt (gHh (gLp bG bF (gz hm [1,2,3,4] rfl))))
  repeat clear hm
  intro aX w hm
  exact gS (gR (gM rfl (gA rfl (gE (gRt (gr1 results56 rfl ⟨aF,.slice aG c_.blocks.length aC,.slice aE aA.length aD,.slice aH aB.length aI,hz,rfl,(Heap.le_refl _),h1,hm.pk [3,0,1,2] rfl rfl⟩))))))
theorem impl_sortedKeys_bool_ok (w0 : World) (m : MapS Bool) (v1 : Value) (h1 : GT.rep (hp w0) [v1] m) :
    ConM Tryz.prog 55 [v1] w0 (impl_sortedKeys_bool m) λr v w'=>∃ (x1:Value),v=x1∧Mem w0 (hp w0) w' [ow [x1] r]:=by
  unfold impl_sortedKeys_bool
  rw [← keys_model]
  refine gcon func55 rfl λr=>?_
  have hm:=Mem.start w0
  refine gS (gR (gA rfl (gE (gS (gR (gA rfl (gE (gS (gS (gR (gM rfl (gf rfl (λa hf=>e_rangeS (m:=(m:MapS Bool)) hf hm underlying87 h1 rfl rfl) ?_))))))))))))
  rintro _ w ⟨aC,rfl,hm⟩
  refine gE (gBk ?_)
  replace hm:=hm.nilow (α:=Int)
  refine gRngK (m:=(m:MapS Bool)) (λxs ys h=>by simp only [sortI_perm h]) h1 (λaD aE a w=>∃ (aA:Value),St 18 [(3,aA),(6,(pV aC))] w0 (hp w0) [ow [aA] aE,itc (hp w0) v1 aC aD] a w) (λa hf=>⟨.slice none 0 0,hf.sb rfl,hm.pk [0,1] rfl rfl⟩) ?_ ?_
  ·repeat clear hm
   rintro aD aE a w ⟨aA,hf,hm⟩ hmo
   refine gv (m:=some ()) (r:=()) hf ?_ rfl
   refine gS (gR (gf rfl (λa hf=>e_nextS 1 hf hm rfl hmo rfl rfl) ?_))
   rintro _ w ⟨aM,aB,aN,rfl,aF,aG,hm⟩
   refine gSw aF (gX rfl (gE (gS (gct rfl (gSk (gBk (gS (gR (gY (yG rfl (y_entryS 1 hm rfl aG rfl rfl)) (gX rfl (gA rfl (gE (gR (gM rfl (gM rfl (gf rfl (λa hf=>e_build (vs:=#[(0,(nV aB.1))]) (cs:=[nV aB.1]) et_47 hf hm rfl rfl (by kernel_rfl) rfl rfl) ?_))))))))))))))))
   rintro _ w ⟨aO,rfl,hm⟩
   replace hm:=hm.lit (xs:=([aB.1]:List Int)) 0 rfl rfl rfl rfl
   refine gb λaP aH=>?_
   obtain ⟨aI,aJ⟩:=appM_some.1 aH
   refine gf rfl (λa hf=>e_append 1 et_47 hf hm rfl (hm.ow_rep 0 rfl) rfl rfl rfl aI) ?_
   rintro aK w hm
   rw [aJ] at hm
   exact gA rfl (gE (gZr aG aF λa hf=>⟨aK,hf.sb rfl,hm.pk [1,2] rfl rfl⟩))
  repeat clear hm
  rintro aQ aR a w ⟨aL,hf,hm⟩ hno hk
  refine gv hf ?_ hk
  refine gS (gR (gY (yG rfl (y_nextE 1 hm rfl hno rfl rfl)) (gX rfl (gE (gS (gcf rfl (gXt (gHh (gS (gR (gM rfl (gf rfl (λa hf=>e_call hf rfl call90 rfl (sort_con lays189 hm 0 rfl)) ?_))))))))))))
  rintro _ w ⟨rfl,hm⟩
  exact gE (gS (gR (gM rfl (gA rfl (gE (gRt (gr1 results55 rfl ⟨aL,rfl,hm.pk [0] rfl rfl⟩)))))))
theorem impl_inlined_1_ok (w0 : World) (hz : Heap) (r_ : Int) (hx0 : Heap) (bp0 ip0 : Nat) (c0_ : Int) (bpc0 : Nat) (hbbpc0 : hz bpc0 = some (.cells ([nV c0_] : List Value).toArray 3 (0, 0))) (hm0 : Mem w0 hz w0 [celc hx0 bp0 ip0 (nV r_)]) :
    ConM Tryz.prog 58 [(.pointer (some ⟨bp0,ip0,none⟩)),(pV bpc0)] w0 (impl_inlined_1 r_ c0_) λr v w'=>v=(.tuple #[])∧Mem w0 hz w' [celc hx0 bp0 ip0 (nV r)]:=by
  unfold impl_inlined_1
  refine gcon func58 rfl λr=>?_
  have hm:=hm0
  refine gW (.p 0 (.p 1 (.q 2 (.e 3 (.p 4 (.p 5 (.e 6 .fin .nil))) .nil)))) [3] [0,1,4,5] hm [0] [celc hx0 bp0 ip0 (nV r_)] rfl mxo (by kernel_rfl) (λ_ _ _ h=>h.2) λw hm hS=>tP rfl (λw=>yM rfl) (tP rfl (λw=>yG rfl (y_nilptr rfl rfl)) (tQ rfl hS (λw hm=>yl isAgg3 (hm.cel_cell 0 rfl) rfl) (tO (tY rfl (yl isAgg3 (hm.hz_cell hbbpc0 rfl) rfl) (tAs hS (tP rfl (λw=>yB rfl) (tP rfl (λw=>yG rfl (y_nilptr rfl rfl)) (tO (tf0 rfl rfl (λa hf=>e_storeC 0 hf hm rfl sizeOf3 rfl rfl rfl rfl) ?_)))))))))
  rintro _ w hm
  exact tAn rfl (tE (gre results58 ⟨rfl,hm.pk [0] rfl rfl⟩))
theorem er_sB:SliceTy Tryz.prog 42 49 5:=⟨underlying42,sizeOf49⟩
theorem er_sP:SliceTy Tryz.prog 45 105 2:=⟨underlying45,sizeOf105⟩
theorem er_sI:SliceTy Tryz.prog 46 51 4:=⟨underlying46,sizeOf51⟩
theorem er_sN:SliceTy Tryz.prog 47 3 1:=⟨underlying47,sizeOf3⟩
theorem er_C2:FieldOff Tryz.prog 44 2 2:=by have h:=FieldOff.mk (k:=2) underlying44 rfl sizeOf42;exact h
theorem er_B0:FieldOff Tryz.prog 49 0 0:=by have h:=FieldOff.mk (k:=0) underlying49 rfl sizeOf45;exact h
theorem er_B1:FieldOff Tryz.prog 49 1 1:=by have h:=FieldOff.mk (k:=1) underlying49 rfl sizeOf46;exact h
theorem er_B2:FieldOff Tryz.prog 49 2 2:=by have h:=FieldOff.mk (k:=2) underlying49 rfl sizeOf3;exact h
theorem er_B3:FieldOff Tryz.prog 49 3 3:=by have h:=FieldOff.mk (k:=3) underlying49 rfl sizeOf3;exact h
theorem er_P0:FieldOff Tryz.prog 105 0 0:=by have h:=FieldOff.mk (k:=0) underlying105 rfl sizeOf3;exact h
theorem er_P1:FieldOff Tryz.prog 105 1 1:=by have h:=FieldOff.mk (k:=1) underlying105 rfl sizeOf47;exact h
theorem er_I0:FieldOff Tryz.prog 51 0 0:=by have h:=FieldOff.mk (k:=0) underlying51 rfl sizeOf3;exact h
theorem er_I1:FieldOff Tryz.prog 51 1 1:=by have h:=FieldOff.mk (k:=1) underlying51 rfl sizeOf3;exact h
theorem er_I2:FieldOff Tryz.prog 51 2 2:=by have h:=FieldOff.mk (k:=2) underlying51 rfl sizeOf47;exact h
section
variable {F:Nat→Prop} {h:Heap} {b off len cap b2 o2 l2 c2 b3 o3 l3 c3 i k j:Nat} {bl:List Block_} {B:Block_} {p:Phi_} {q:Ins_} {n:Int} {v1 v2 v3 va:Value} {j1 j2:Int}
theorem er_arg {xs:List Int} (hx:xs[j]?=some n) (hc:CellsAt h b3 (o3+j*1) [.int .i64 n]):∀ G,GT.own G h [.slice (some ⟨b3,o3,none⟩) l3 c3] xs→Deep G h [.slice (some ⟨b3,o3,none⟩) l3 c3] b3 (o3+j*1) n (λy=>xs.set j y):=λG ho =>
  list_shal (d:=0) ho hx hc rfl λ_ ho=>shal_int ho
theorem er_phiT (hp:B.phis[k]?=some p) (hc:CellsAt h b2 (o2+k*2) [.int .i64 p.to,va]):∀ G,GT.own G h [.slice (some ⟨b2,o2,none⟩) l2 c2] B.phis→Deep G h [.slice (some ⟨b2,o2,none⟩) l2 c2] b2 (o2+k*2+0) p.to (λy=>B.phis.set k { p with to:=y }):=λG ho =>
  list_shal (d:=0) ho hp hc rfl λG ho=>fst_shal (α:=Int) (β:=List Int) (p:=(p.to,p.args)) (c:=[.int .i64 p.to]) (d:=[va]) ho rfl rfl λ_ ho=>shal_int ho
theorem er_phiA (hp:B.phis[k]?=some p) (hc:CellsAt h b2 (o2+k*2) [.int .i64 p.to,.slice (some ⟨b3,o3,none⟩) l3 c3]) (hx:p.args[j]?=some n) (hn:CellsAt h b3 (o3+j*1) [.int .i64 n]):∀ G,GT.own G h [.slice (some ⟨b2,o2,none⟩) l2 c2] B.phis→Deep G h [.slice (some ⟨b2,o2,none⟩) l2 c2] b3 (o3+j*1) n (λy=>B.phis.set k { p with args:=p.args.set j y }):=λG ho =>
  list_deep ho hp hc rfl λG ho=>snd_deep (α:=Int) (β:=List Int) (p:=(p.to,p.args)) (c:=[.int .i64 p.to]) (d:=[.slice (some ⟨b3,o3,none⟩) l3 c3]) ho rfl rfl (er_arg hx hn)
theorem er_insT (hp:B.ins[k]?=some q) (hc:CellsAt h b2 (o2+k*4) [.int .i64 q.op,.int .i64 q.to,va,.int .i64 q.n_]):∀ G,GT.own G h [.slice (some ⟨b2,o2,none⟩) l2 c2] B.ins→Deep G h [.slice (some ⟨b2,o2,none⟩) l2 c2] b2 (o2+k*4+1) q.to (λy=>B.ins.set k { q with to:=y }):=λG ho =>
  list_shal (d:=1) ho hp hc rfl λG ho=>snd_shal (α:=Int) (β:=Int × List Int × Int) (p:=(q.op,q.to,q.args,q.n_)) (c:=[.int .i64 q.op]) (d:=[.int .i64 q.to,va,.int .i64 q.n_]) ho rfl rfl λG ho =>
    fst_shal (α:=Int) (β:=List Int × Int) (p:=(q.to,q.args,q.n_)) (c:=[.int .i64 q.to]) (d:=[va,.int .i64 q.n_]) ho rfl rfl λ_ ho=>shal_int ho
theorem er_insA (hp:B.ins[k]?=some q) (hc:CellsAt h b2 (o2+k*4) [.int .i64 q.op,.int .i64 q.to,.slice (some ⟨b3,o3,none⟩) l3 c3,.int .i64 q.n_]) (hx:q.args[j]?=some n) (hn:CellsAt h b3 (o3+j*1) [.int .i64 n]):∀ G,GT.own G h [.slice (some ⟨b2,o2,none⟩) l2 c2] B.ins→Deep G h [.slice (some ⟨b2,o2,none⟩) l2 c2] b3 (o3+j*1) n (λy=>B.ins.set k { q with args:=q.args.set j y }):=λG ho =>
  list_deep ho hp hc rfl λG ho=>snd_deep (α:=Int) (β:=Int × List Int × Int) (p:=(q.op,q.to,q.args,q.n_)) (c:=[.int .i64 q.op]) (d:=[.int .i64 q.to,.slice (some ⟨b3,o3,none⟩) l3 c3,.int .i64 q.n_]) ho rfl rfl λG ho =>
    snd_deep (α:=Int) (β:=List Int × Int) (p:=(q.to,q.args,q.n_)) (c:=[.int .i64 q.to]) (d:=[.slice (some ⟨b3,o3,none⟩) l3 c3,.int .i64 q.n_]) ho rfl rfl λG ho =>
      fst_deep (α:=List Int) (β:=Int) (p:=(q.args,q.n_)) (c:=[.slice (some ⟨b3,o3,none⟩) l3 c3]) (d:=[.int .i64 q.n_]) ho rfl rfl (er_arg hx hn)
theorem er_inP {i2:Nat} {g:Int→List Phi_} (hb:bl[i]?=some B) (hc:CellsAt h b (off+i*5) [v1,v2,.int .i64 B.jump,.int .i64 B.on,v3]) (hs:∀ G,GT.own G h [v1] B.phis→Deep G h [v1] b2 i2 n g):∀ F,GT.own F h [.slice (some ⟨b,off,none⟩) len cap] bl→Deep F h [.slice (some ⟨b,off,none⟩) len cap] b2 i2 n (λy=>bl.set i { B with phis:=g y }):=λF ho =>
  list_deep ho hb hc rfl λG ho=>fst_deep (α:=List Phi_) (β:=List Ins_ × Int × Int × List Int) (p:=(B.phis,B.ins,B.jump,B.on,B.next_)) (c:=[v1]) (d:=[v2,.int .i64 B.jump,.int .i64 B.on,v3]) ho rfl rfl hs
theorem er_inI {i2:Nat} {g:Int→List Ins_} (hb:bl[i]?=some B) (hc:CellsAt h b (off+i*5) [v1,v2,.int .i64 B.jump,.int .i64 B.on,v3]) (hs:∀ G,GT.own G h [v2] B.ins→Deep G h [v2] b2 i2 n g):∀ F,GT.own F h [.slice (some ⟨b,off,none⟩) len cap] bl→Deep F h [.slice (some ⟨b,off,none⟩) len cap] b2 i2 n (λy=>bl.set i { B with ins:=g y }):=λF ho =>
  list_deep ho hb hc rfl λG ho=>snd_deep (α:=List Phi_) (β:=List Ins_ × Int × Int × List Int) (p:=(B.phis,B.ins,B.jump,B.on,B.next_)) (c:=[v1]) (d:=[v2,.int .i64 B.jump,.int .i64 B.on,v3]) ho rfl rfl λG ho =>
    fst_deep (α:=List Ins_) (β:=Int × Int × List Int) (p:=(B.ins,B.jump,B.on,B.next_)) (c:=[v2]) (d:=[.int .i64 B.jump,.int .i64 B.on,v3]) ho rfl rfl hs
theorem er_on (hb:bl[i]?=some B) (hc:CellsAt h b (off+i*5) [v1,v2,.int .i64 B.jump,.int .i64 B.on,v3]):∀ F,GT.own F h [.slice (some ⟨b,off,none⟩) len cap] bl→Deep F h [.slice (some ⟨b,off,none⟩) len cap] b (off+i*5+3) B.on (λy=>bl.set i { B with on:=y }):=λF ho =>
  list_shal (d:=3) ho hb hc rfl λG ho=>snd_shal (α:=List Phi_) (β:=List Ins_ × Int × Int × List Int) (p:=(B.phis,B.ins,B.jump,B.on,B.next_)) (c:=[v1]) (d:=[v2,.int .i64 B.jump,.int .i64 B.on,v3]) (k:=2) ho rfl rfl λG ho =>
    snd_shal (α:=List Ins_) (β:=Int × Int × List Int) (p:=(B.ins,B.jump,B.on,B.next_)) (c:=[v2]) (d:=[.int .i64 B.jump,.int .i64 B.on,v3]) (k:=1) ho rfl rfl λG ho =>
      snd_shal (α:=Int) (β:=Int × List Int) (p:=(B.jump,B.on,B.next_)) (c:=[.int .i64 B.jump]) (d:=[.int .i64 B.on,v3]) (k:=0) ho rfl rfl λG ho =>
        fst_shal (α:=Int) (β:=List Int) (p:=(B.on,B.next_)) (c:=[.int .i64 B.on]) (d:=[v3]) ho rfl rfl λ_ ho=>shal_int ho
end
section
variable {w0 w:World} {hz:Heap} {L:List Ch} {vf:Value} {f:Int→Option Int} {b off len cap n:Nat} {l:Env} {bl:List Block_} {i k j:Int} {ops:Array Oper} {Q:Exit→Act→World→Prop} {o:Oper} {rest:List Oper} {d:Nat} {ρ:Type} {r:ρ}
theorem er_call {m : Option ρ} {x y : Operand} {tys : Array TypeId} {cs : List Value} {α : Type} [GT α] {z : α} {b2 i2 : Nat} {nn yy : Int} {g : Int → α} (hm : Mem w0 hz w (ow cs z :: L)) (hv : VisitP Tryz.prog vf f hz) (hd : ∀ F, GT.own F (hp w) cs z → Deep F (hp w) cs b2 i2 nn g) (hy : f nn = some yy)
    (h:(gd ops l o.guard,o.dst,Nat.blt d n,o.op,ev l x,evs l [y])=(true,some d,true,.call { callee:=.value x,args:=#[y],argTypes:=tys },some vf,some [.pointer (some ⟨b2,i2,none⟩)]))
    (k:∀ v w',Mem w0 hz w' (ow cs (g yy)::L)→G m r n ((d,v)::l) (wpList Tryz.prog ops Q rest) w'):G m r n l (wpList Tryz.prog ops Q (o::rest)) w:=by
  obtain ⟨h1,h2,h3,h4,h5,h6⟩:=t6 h
  refine gf (d:=d) (by rw [h1,h2,h3]) (λa hf=>e_callv hf h4 h5 h6 (hv w b2 i2 nn yy hm.lez (hm.spot hd).1 (hm.spot hd).2 hy)) ?_
  rintro v w' ⟨hs,hh⟩
  exact k v w' (hm.visited hd hs hh)
theorem er_PT_some {z:List Block_} (h:er_PT f i k bl=some z):∃ B p y,(0≤i∧bl[i.toNat]?=some B)∧(0≤k∧B.phis[k.toNat]?=some p)∧f p.to=some y∧bl.set i.toNat { B with phis:=B.phis.set k.toNat { p with to:=y } }=z:=by
  obtain ⟨B,hB,h⟩:=bnd h;obtain ⟨p,hp,h⟩:=bnd h;obtain ⟨y,hy,h⟩:=bnd h
  exact ⟨B,p,y,getI_some.1 hB,getI_some.1 hp,hy,Option.some.inj h⟩
theorem er_PA_some {z:List Block_} (h:er_PA f i k j bl=some z):∃ B p n y,(0≤i∧bl[i.toNat]?=some B)∧(0≤k∧B.phis[k.toNat]?=some p)∧(0≤j∧p.args[j.toNat]?=some n)∧f n=some y∧bl.set i.toNat { B with phis:=B.phis.set k.toNat { p with args:=p.args.set j.toNat y } }=z:=by
  obtain ⟨B,hB,h⟩:=bnd h;obtain ⟨p,hp,h⟩:=bnd h;obtain ⟨n,hn,h⟩:=bnd h;obtain ⟨y,hy,h⟩:=bnd h
  exact ⟨B,p,n,y,getI_some.1 hB,getI_some.1 hp,getI_some.1 hn,hy,Option.some.inj h⟩
theorem er_IT_some {z:List Block_} (h:er_IT f i k bl=some z):∃ B p y,(0≤i∧bl[i.toNat]?=some B)∧(0≤k∧B.ins[k.toNat]?=some p)∧f p.to=some y∧bl.set i.toNat { B with ins:=B.ins.set k.toNat { p with to:=y } }=z:=by
  obtain ⟨B,hB,h⟩:=bnd h;obtain ⟨p,hp,h⟩:=bnd h;obtain ⟨y,hy,h⟩:=bnd h
  exact ⟨B,p,y,getI_some.1 hB,getI_some.1 hp,hy,Option.some.inj h⟩
theorem er_IA_some {z:List Block_} (h:er_IA f i k j bl=some z):∃ B p n y,(0≤i∧bl[i.toNat]?=some B)∧(0≤k∧B.ins[k.toNat]?=some p)∧(0≤j∧p.args[j.toNat]?=some n)∧f n=some y∧bl.set i.toNat { B with ins:=B.ins.set k.toNat { p with args:=p.args.set j.toNat y } }=z:=by
  obtain ⟨B,hB,h⟩:=bnd h;obtain ⟨p,hp,h⟩:=bnd h;obtain ⟨n,hn,h⟩:=bnd h;obtain ⟨y,hy,h⟩:=bnd h
  exact ⟨B,p,n,y,getI_some.1 hB,getI_some.1 hp,getI_some.1 hn,hy,Option.some.inj h⟩
theorem er_P {v:Value} {ps:List Phi_} {p:Phi_} (hr:GT.rep (hp w) [v] ps) (hp_:ps[k.toNat]?=some p):∃ b2 o2 c2 p3 n3 c3,v=.slice (some ⟨b2,o2,none⟩) ps.length c2∧CellsAt (hp w) b2 (o2+k.toNat*2) [.int .i64 p.to,.slice p3 n3 c3]∧GT.rep (hp w) [.slice p3 n3 c3] p.args∧p.args.length=n3∧n3≤140737488355328:=by
  obtain ⟨b2,o2,c2,rfl⟩:=idx_form' hr hp_
  obtain ⟨va,h1,h2⟩:=rk_Phi_ hr hp_
  obtain ⟨p3,c3,rfl,l3⟩:=(rep_list.1 h2).len
  exact ⟨b2,o2,c2,p3,_,c3,rfl,h1,h2,rfl,l3⟩
theorem er_I {v:Value} {ps:List Ins_} {p:Ins_} (hr:GT.rep (hp w) [v] ps) (hp_:ps[k.toNat]?=some p):∃ b2 o2 c2 p3 n3 c3,v=.slice (some ⟨b2,o2,none⟩) ps.length c2∧CellsAt (hp w) b2 (o2+k.toNat*4) [.int .i64 p.op,.int .i64 p.to,.slice p3 n3 c3,.int .i64 p.n_]∧GT.rep (hp w) [.slice p3 n3 c3] p.args∧p.args.length=n3∧n3≤140737488355328:=by
  obtain ⟨b2,o2,c2,rfl⟩:=idx_form' hr hp_
  obtain ⟨va,h1,h2⟩:=rk_Ins_ hr hp_
  obtain ⟨p3,c3,rfl,l3⟩:=(rep_list.1 h2).len
  exact ⟨b2,o2,c2,p3,_,c3,rfl,h1,h2,rfl,l3⟩
theorem er_N {v:Value} {xs:List Int} {x:Int} (hr:GT.rep (hp w) [v] xs) (hx:xs[j.toNat]?=some x):∃ b3 o3 c3,v=.slice (some ⟨b3,o3,none⟩) xs.length c3∧CellsAt (hp w) b3 (o3+j.toNat*1) [.int .i64 x]:=by
  obtain ⟨b3,o3,c3,rfl⟩:=idx_form hr hx
  exact ⟨b3,o3,c3,rfl,flat_cells (cs:=[.int .i64 x]) hr hx rfl⟩
end
section
variable {F:Nat→Prop} {h h0:Heap} {b off len cap b2 i2 i:Nat} {bl:List Block_} {B:Block_} {n:Int} {v1 v2 v3:Value}
theorem er_inPs {g:Int→List Phi_} (hb:bl[i]?=some B) (hc:CellsAt h b (off+i*5) [v1,v2,.int .i64 B.jump,.int .i64 B.on,v3]) (hs:∀ G,GT.own G h [v1] B.phis→Deep G h [v1] b2 i2 n g):∀ F,GT.own (α:=Shp h0 (List Block_)) F h [.slice (some ⟨b,off,none⟩) len cap] bl→Deep (α:=Shp h0 (List Block_)) F h [.slice (some ⟨b,off,none⟩) len cap] b2 i2 n (λy=>(bl.set i { B with phis:=g y }:List Block_)) :=
  sh_deep (α:=List Block_) (er_inP hb hc hs)
theorem er_inIs {g:Int→List Ins_} (hb:bl[i]?=some B) (hc:CellsAt h b (off+i*5) [v1,v2,.int .i64 B.jump,.int .i64 B.on,v3]) (hs:∀ G,GT.own G h [v2] B.ins→Deep G h [v2] b2 i2 n g):∀ F,GT.own (α:=Shp h0 (List Block_)) F h [.slice (some ⟨b,off,none⟩) len cap] bl→Deep (α:=Shp h0 (List Block_)) F h [.slice (some ⟨b,off,none⟩) len cap] b2 i2 n (λy=>(bl.set i { B with ins:=g y }:List Block_)) :=
  sh_deep (α:=List Block_) (er_inI hb hc hs)
theorem er_ons (hb:bl[i]?=some B) (hc:CellsAt h b (off+i*5) [v1,v2,.int .i64 B.jump,.int .i64 B.on,v3]):∀ F,GT.own (α:=Shp h0 (List Block_)) F h [.slice (some ⟨b,off,none⟩) len cap] bl→Deep (α:=Shp h0 (List Block_)) F h [.slice (some ⟨b,off,none⟩) len cap] b (off+i*5+3) B.on (λy=>(bl.set i { B with on:=y }:List Block_)) :=
  sh_deep (α:=List Block_) (er_on hb hc)
end
theorem er_Bs {w0 w:World} {hz h0:Heap} {L:List Ch} {b off len cap:Nat} {bl:List Block_} {i:Int} (hm:Mem w0 hz w (ow (α:=Shp h0 (List Block_)) [.slice (some ⟨b,off,none⟩) len cap] bl::L)) {B:Block_} (hB:bl[i.toNat]?=some B):∃ p1 n1 c1 p2 n2 c2 v3,CellsAt (hp w) b (off+i.toNat*5) [.slice p1 n1 c1,.slice p2 n2 c2,.int .i64 B.jump,.int .i64 B.on,v3]∧GT.rep (hp w) [.slice p1 n1 c1] B.phis∧GT.rep (hp w) [.slice p2 n2 c2] B.ins∧(B.phis.length=n1∧B.ins.length=n2)∧n1≤140737488355328∧n2≤140737488355328:=by
  obtain ⟨v1,v2,v3,h1,h2,h3,_⟩:=rk_Block_ (sh_rep (hm.ow_rep 0 rfl)) hB
  obtain ⟨p1,c1,rfl,l1⟩:=(rep_list.1 h2).len
  obtain ⟨p2,c2,rfl,l2⟩:=(rep_list.1 h3).len
  exact ⟨p1,_,c1,p2,_,c2,v3,h1,h2,h3,⟨rfl,rfl⟩,l1,l2⟩
theorem er_pieces {w0 w : World} {hz h0 : Heap} {L : List Ch} {b off len cap : Nat} {xs : List Block_} {B : Block_} {p1 p2 p3 u1 u2 : Value} (hm : Mem w0 hz w (ow (α := Shp h0 (List Block_)) [.slice (some ⟨b, off, none⟩) len cap] xs :: L)) (hx : xs[0]? = some B) (hc : CellsAt h0 b off [p1, p2, u1, u2, p3])
    (h1:∃ a n c,p1=.slice a n c) (h2:∃ a n c,p2=.slice a n c) (h3:∃ a n c,p3=.slice a n c):Mem w0 hz w (ow [p3] B.next_::ow [.int .i64 B.on] B.on::ow [.int .i64 B.jump] B.jump::ow [p2] B.ins::ow [p1] B.phis::L):=by
  obtain ⟨a1,n1,c1,rfl⟩:=h1
  obtain ⟨a2,n2,c2,rfl⟩:=h2
  obtain ⟨a3,n3,c3,rfl⟩:=h3
  obtain ⟨cs,hm,hcs⟩:=hm.sh_one 0 rfl hx hc
  have hr:=hm.ow_rep 0 rfl
  have e0:=hcs 0 _ rfl (λ_ _ h=>by cases h) (by decide)
  have e1:=hcs 1 _ rfl (λ_ _ h=>by cases h) (by decide)
  have e4:=hcs 4 _ rfl (λ_ _ h=>by cases h) (by decide)
  obtain ⟨_,_,rfl,⟨v1,rfl,_⟩,_,_,rfl,⟨v2,rfl,_⟩,_,_,rfl,rfl,_,_,rfl,rfl,⟨v3,rfl,_⟩⟩:=hr
  simp only [List.cons_append,List.nil_append,List.getElem?_cons_zero,List.getElem?_cons_succ,osI] at e0 e1 e4
  subst e0;subst e1;subst e4
  replace hm:=hm.imp (c':=ow ([.slice a1 n1 c1]++[.slice a2 n2 c2,.int .i64 B.jump,.int .i64 B.on,.slice a3 n3 c3]) ((B.phis,B.ins,B.jump,B.on,B.next_):List Phi_ × List Ins_ × Int × Int × List Int)) 0 rfl (λF h0=>h0)
  replace hm:=Mem.unpair (α:=List Phi_) (β:=List Ins_ × Int × Int × List Int) (c:=[.slice a1 n1 c1]) (d:=[.slice a2 n2 c2,.int .i64 B.jump,.int .i64 B.on,.slice a3 n3 c3]) (x:=B.phis) (y:=(B.ins,B.jump,B.on,B.next_)) hm 0 rfl rfl
  replace hm:=Mem.unpair (α:=List Ins_) (β:=Int × Int × List Int) (c:=[.slice a2 n2 c2]) (d:=[.int .i64 B.jump,.int .i64 B.on,.slice a3 n3 c3]) (x:=B.ins) (y:=(B.jump,B.on,B.next_)) hm 0 rfl rfl
  replace hm:=Mem.unpair (α:=Int) (β:=Int × List Int) (c:=[.int .i64 B.jump]) (d:=[.int .i64 B.on,.slice a3 n3 c3]) (x:=B.jump) (y:=(B.on,B.next_)) hm 0 rfl rfl
  replace hm:=Mem.unpair (α:=Int) (β:=List Int) (c:=[.int .i64 B.on]) (d:=[.slice a3 n3 c3]) (x:=B.on) (y:=B.next_) hm 0 rfl rfl
  exact hm
theorem impl_eachReg_ok (w0 : World) (hz : Heap) (c_ : Code_) (vf v1 : Value) (f : Int → Option Int) (hm0 : Mem w0 hz w0 [ow [v1] c_.blocks]) (hv : VisitP Tryz.prog vf f hz) :
    ConM Tryz.prog 57 [(.agg #[(.int .i64 c_.params),(.int .i64 c_.regs),v1]),vf] w0 (impl_eachReg f c_) λr v w'=>v=.tuple #[]∧Mem w0 hz w' [ow (α:=Shp (hp w0) (List Block_)) [v1] r]:=by
  unfold impl_eachReg
  refine gcon func57 rfl λr=>?_
  have hm:Mem w0 hz w0 [ow (α:=Shp (hp w0) (List Block_)) [v1] c_.blocks]:=hm0.sh_in 0 rfl
  obtain ⟨p0,c0,hv1,hlen⟩:=(rep_list.1 (hm0.ow_rep 0 rfl)).len
  subst hv1
  refine gS (gR (gBx hm rfl λb0 w hm=>gE (gS (gR (gF er_C2 rfl (gL hm 0 isAgg42 rfl (gY (yV er_sB rfl) (gM rfl (gE ?_)))))))))
  refine gBk (gNf hm (λi _=>[(1,vf),(2,.pointer (some ⟨b0,0,none⟩)),(12,.int .i64 (c_.blocks.length:Int)),(13,.int .i64 i)]) (λ_ bl=>[ow (α:=Shp (hp w0) (List Block_)) [.slice p0 c_.blocks.length c0] bl,blk b0 [.int .i64 c_.params,.int .i64 c_.regs,.slice p0 c_.blocks.length c0] 44]) [1,0] rfl ?_ ?_)
  · clear hm hm0
    intro _ _ i bl w hm hi1 hi2 q _
    refine gS (gR (gB rfl (gE (gS (go _ 14 rfl (decide_eq_true (by omega)) (gct rfl (gSk (gS ?_))))))))
    have hbl:bl.length=c_.blocks.length:=rep_slice_len (sh_rep (hm.ow_rep 0 rfl))
    refine gBk (gS (gR (gM rfl (gA rfl (gE ?_)))))
    have hB0:bl[i.toNat]?=some (bl[i.toNat]'(by omega)):=List.getElem?_eq_getElem _
    obtain ⟨bb,off,cc,he⟩:=idx_form' (sh_rep (hm.ow_rep 0 rfl)) hB0
    simp only [Value.slice.injEq,osI] at he
    obtain ⟨rfl,_,rfl⟩:=he
    refine gS (gR (gF er_C2 rfl (gL hm 1 isAgg42 rfl (gM rfl (gI er_sB hi1 (show i.toNat<c_.blocks.length by omega) rfl (gA rfl (gE ?_)))))))
    unfold er_blk
    refine gb λm hm1=>?_
    obtain ⟨B,hB,hm1⟩:=bnd hm1
    obtain rfl:=Option.some.inj hm1
    obtain ⟨p1,n1,c1,p2,n2,c2,v3,hc,hr1,hr2,⟨e1,e2⟩,q1,q2⟩:=er_Bs hm (getI_some.1 hB).2
    subst e1
    refine gS (gS (gR (gM rfl (gY (yG rfl (y_nilptr rfl rfl)) (gF er_B0 rfl (gY (yl isAgg45 (hc.cell (j:=0) rfl) rfl) (gY (yV er_sP rfl) (gM rfl (gE ?_)))))))))
    refine gBk (gNf hm (λk _=>[(1,vf),(2,.pointer (some ⟨b0,0,none⟩)),(12,.int .i64 (c_.blocks.length:Int)),(13,.int .i64 i),(5,.pointer (some ⟨bb,off+i.toNat*5,none⟩)),(24,.int .i64 (B.phis.length:Int)),(25,.int .i64 k)]) (λ_ bl=>[ow (α:=Shp (hp w0) (List Block_)) [.slice (some ⟨bb,off,none⟩) c_.blocks.length c0] bl,blk b0 [.int .i64 c_.params,.int .i64 c_.regs,.slice (some ⟨bb,off,none⟩) c_.blocks.length c0] 44]) [0,1] rfl ?_ ?_)
    · clear hm hc hr1 hr2
      intro _ _ k bl1 w hm hk1 hk2 q _
      have hnn:((B.phis.length:Nat):Int)≤140737488355328:=by omega
      refine gS (gR (gB rfl (gE (gS (go _ 26 rfl (decide_eq_true (by omega)) (gct rfl (gSk (gS ?_))))))))
      refine gBk (gS (gR (gM rfl (gA rfl (gE (gS ?_))))))
      unfold er_phi
      refine gb λbl2 hq=>?_
      obtain ⟨B1,P1,y,hB1,hP1,hy,rfl⟩:=er_PT_some hq
      obtain ⟨p1,n1,c1,p2,n2,c2,v3,hc,hr1,hr2,⟨e1,e2⟩,q1,q2⟩:=er_Bs hm hB1.2
      obtain ⟨b2,o2,c2',p3,n3,c3,he,hcp,hra,e3,q3⟩:=er_P hr1 hP1.2
      simp only [Value.slice.injEq] at he
      obtain ⟨rfl,rfl,rfl⟩:=he
      refine gR (gM rfl (gM rfl (gY (yG rfl (y_nilptr rfl rfl)) (gF er_B0 rfl (gY (yl isAgg45 (hc.cell (j:=0) rfl) rfl) (gM rfl (gI er_sP hk1 (idx_lt hP1.2) rfl (gF er_P0 rfl (er_call hm hv (er_inPs hB1.2 hc (er_phiT hP1.2 hcp)) hy rfl λv w hm=>?_)))))))))
      refine gE (gS ?_)
      clear hc hr1 hr2 hcp hra
      refine gb λm hq=>?_
      obtain ⟨B2,hB2,hq⟩:=bnd hq
      obtain ⟨P2,hP2,hq⟩:=bnd hq
      obtain rfl:=Option.some.inj hq
      have hB2:=getI_some.1 hB2
      have hP2:=getI_some.1 hP2
      obtain ⟨p1,n1,c1,p2,n2,c2,v3,hc,hr1,hr2,⟨e1,e2⟩,q1,q2⟩:=er_Bs hm hB2.2
      obtain ⟨b2,o2,c2',p3,n3,c3,he,hcp,hra,e3,q3⟩:=er_P hr1 hP2.2
      simp only [Value.slice.injEq] at he
      obtain ⟨rfl,rfl,rfl⟩:=he
      subst e3
      refine gR (gM rfl (gY (yG rfl (y_nilptr rfl rfl)) (gF er_B0 rfl (gY (yl isAgg45 (hc.cell (j:=0) rfl) rfl) (gM rfl (gI er_sP hk1 (idx_lt hP2.2) rfl (gF er_P1 rfl (gY (yl isAgg47 (hcp.cell (j:=1) rfl) rfl) (gY (yV er_sN rfl) (gM rfl (gE ?_)))))))))))
      refine gBk (gNf hm (λj _=>[(1,vf),(2,.pointer (some ⟨b0,0,none⟩)),(12,.int .i64 (c_.blocks.length:Int)),(13,.int .i64 i),(5,.pointer (some ⟨bb,off+i.toNat*5,none⟩)),(24,.int .i64 (B.phis.length:Int)),(25,.int .i64 k),(6,.int .i64 k),(45,.int .i64 (P2.args.length:Int)),(46,.int .i64 j)]) (λ_ bl=>[ow (α:=Shp (hp w0) (List Block_)) [.slice (some ⟨bb,off,none⟩) c_.blocks.length c0] bl,blk b0 [.int .i64 c_.params,.int .i64 c_.regs,.slice (some ⟨bb,off,none⟩) c_.blocks.length c0] 44]) [0,1] rfl ?_ ?_)
      · clear hm hc hr1 hr2 hcp hra
        intro _ _ j bl3 w hm hj1 hj2 q _
        refine gS (gR (gB rfl (gE (gS (go _ 47 rfl (decide_eq_true (by omega)) (gct rfl (gSk (gS ?_))))))))
        refine gBk (gS (gR (gM rfl (gA rfl (gE ?_)))))
        refine gb λbl4 hq=>?_
        obtain ⟨B3,P3,nn,y,hB3,hP3,hn3,hy,rfl⟩:=er_PA_some hq
        obtain ⟨p1,n1,c1,p2,n2,c2,v3,hc,hr1,hr2,⟨e1,e2⟩,q1,q2⟩:=er_Bs hm hB3.2
        obtain ⟨b2,o2,c2',p3,n3,c3,he,hcp,hra,e3,q3⟩:=er_P hr1 hP3.2
        simp only [Value.slice.injEq] at he
        obtain ⟨rfl,rfl,rfl⟩:=he
        obtain ⟨b3,o3,c3',he,hcn⟩:=er_N hra hn3.2
        simp only [Value.slice.injEq] at he
        obtain ⟨rfl,rfl,rfl⟩:=he
        refine gR (gM rfl (gM rfl (gY (yG rfl (y_nilptr rfl rfl)) (gF er_B0 rfl (gY (yl isAgg45 (hc.cell (j:=0) rfl) rfl) (gM rfl (gI er_sP hk1 (idx_lt hP3.2) rfl (gF er_P1 rfl (gY (yl isAgg47 (hcp.cell (j:=1) rfl) rfl) (gM rfl (gI er_sN hj1 (idx_lt hn3.2) rfl (er_call hm hv (er_inPs hB3.2 hc (er_phiA hP3.2 hcp hn3.2 hcn)) hy rfl λv w hm=>?_))))))))))))
        exact gE (gR (gP (by omega) (by omega) rfl (gM rfl (gE (gze hm [0,1] rfl)))))
      · clear hm hc hr1 hr2 hcp hra
        intro j bl3 w hm hj1 hj2
        refine gS (gR (gB rfl (gE (gS (go _ 47 rfl (decide_eq_false (by omega)) (gcf rfl (gXt (gHh ?_))))))))
        exact gR (gP (by omega) (by omega) rfl (gM rfl (gE (gze hm [0,1] rfl))))
    · clear hm hc hr1 hr2
      intro k bl1 w hm hk1 hk2
      refine gS (gR (gB rfl (gE (gS (go _ 26 rfl (decide_eq_false (by omega)) (gcf rfl (gXt (gHh (gS (gS ?_))))))))))
      refine gb λm hm2=>?_
      obtain ⟨B,hB,hm2⟩:=bnd hm2
      obtain rfl:=Option.some.inj hm2
      obtain ⟨p1,n1,c1,p2,n2,c2,v3,hc,hr1,hr2,⟨e1,e2⟩,q1,q2⟩:=er_Bs hm (getI_some.1 hB).2
      subst e2
      refine gR (gM rfl (gY (yG rfl (y_nilptr rfl rfl)) (gF er_B1 rfl (gY (yl isAgg46 (hc.cell (j:=1) rfl) rfl) (gY (yV er_sI rfl) (gM rfl (gE ?_)))))))
      refine gBk (gNf hm (λk _=>[(1,vf),(2,.pointer (some ⟨b0,0,none⟩)),(12,.int .i64 (c_.blocks.length:Int)),(13,.int .i64 i),(5,.pointer (some ⟨bb,off+i.toNat*5,none⟩)),(67,.int .i64 (B.ins.length:Int)),(68,.int .i64 k)]) (λ_ bl=>[ow (α:=Shp (hp w0) (List Block_)) [.slice (some ⟨bb,off,none⟩) c_.blocks.length c0] bl,blk b0 [.int .i64 c_.params,.int .i64 c_.regs,.slice (some ⟨bb,off,none⟩) c_.blocks.length c0] 44]) [0,1] rfl ?_ ?_)
      · clear hm hc hr1 hr2
        intro _ _ k bl1 w hm hk1 hk2 q _
        refine gS (gR (gB rfl (gE (gS (go _ 69 rfl (decide_eq_true (by omega)) (gct rfl (gSk (gS ?_))))))))
        refine gBk (gS (gR (gM rfl (gA rfl (gE (gS ?_))))))
        unfold er_ins
        refine gJ hm (λ_=>[(1,vf),(2,.pointer (some ⟨b0,0,none⟩)),(12,.int .i64 (c_.blocks.length:Int)),(13,.int .i64 i),(5,.pointer (some ⟨bb,off+i.toNat*5,none⟩)),(67,.int .i64 (B.ins.length:Int)),(68,.int .i64 k),(8,.int .i64 k)]) (λbl=>[ow (α:=Shp (hp w0) (List Block_)) [.slice (some ⟨bb,off,none⟩) c_.blocks.length c0] bl,blk b0 [.int .i64 c_.params,.int .i64 c_.regs,.slice (some ⟨bb,off,none⟩) c_.blocks.length c0] 44]) (λz=>?_) λbl2 w hm=>?_
        · refine gb fun u hu => ?_
          obtain ⟨B1,hB1,hu⟩:=bnd hu
          obtain ⟨P1,hP1,hu⟩:=bnd hu
          have hB1:=getI_some.1 hB1
          have hP1:=getI_some.1 hP1
          obtain ⟨p1,n1,c1,p2,n2,c2,v3,hc,hr1,hr2,⟨e1,e2⟩,_,_⟩:=er_Bs hm hB1.2
          obtain ⟨b2,o2,c2',p3,n3,c3,he,hcp,hra,e3,_⟩:=er_I hr2 hP1.2
          simp only [Value.slice.injEq] at he
          obtain ⟨rfl,rfl,rfl⟩:=he
          refine gS (gR (gM rfl (gY (yG rfl (y_nilptr rfl rfl)) (gF er_B1 rfl (gY (yl isAgg46 (hc.cell (j:=1) rfl) rfl) (gM rfl (gI er_sI hk1 (idx_lt hP1.2) rfl (gF er_I0 rfl (gY (yl isAgg3 (hcp.cell (j:=0) rfl) rfl) (gf rfl (λa hf=>e_call hf rfl call92 rfl (impl_sets_ok _ _ u hu)) ?_))))))))))
          rintro v w ⟨rfl,hBe⟩
          replace hm:=hm.below' hBe
          clear hBe hc hr1 hr2 hcp hra
          refine gE (gs 79 rfl (λ_=>?_) λ_=>gcf rfl (gSk (gz hm [0,1] rfl)))
          refine gin λhq=>?_
          obtain ⟨B2,P2,y,hB2,hP2,hy,rfl⟩:=er_IT_some hq
          obtain ⟨p1,n1,c1,p2,n2,c2,v3,hc,hr1,hr2,⟨e1,e2⟩,_,_⟩:=er_Bs hm hB2.2
          obtain ⟨b2,o2,c2',p3,n3,c3,he,hcp,hra,e3,_⟩:=er_I hr2 hP2.2
          simp only [Value.slice.injEq] at he
          obtain ⟨rfl,rfl,rfl⟩:=he
          exact gct rfl (gR (gM rfl (gM rfl (gY (yG rfl (y_nilptr rfl rfl)) (gF er_B1 rfl (gY (yl isAgg46 (hc.cell (j:=1) rfl) rfl) (gM rfl (gI er_sI hk1 (idx_lt hP2.2) rfl (gF er_I1 rfl (er_call hm hv (er_inIs hB2.2 hc (er_insT hP2.2 hcp)) hy rfl λv w hm=>gE (gz hm [0,1] rfl)))))))))))
        · refine gb fun m hq => ?_
          obtain ⟨B2,hB2,hq⟩:=bnd hq
          obtain ⟨P2,hP2,hq⟩:=bnd hq
          obtain rfl:=Option.some.inj hq
          have hB2:=getI_some.1 hB2
          have hP2:=getI_some.1 hP2
          obtain ⟨p1,n1,c1,p2,n2,c2,v3,hc,hr1,hr2,⟨e1,e2⟩,_,_⟩:=er_Bs hm hB2.2
          obtain ⟨b2,o2,c2',p3,n3,c3,he,hcp,hra,e3,q3⟩:=er_I hr2 hP2.2
          simp only [Value.slice.injEq] at he
          obtain ⟨rfl,rfl,rfl⟩:=he
          subst e3
          refine gS (gR (gM rfl (gY (yG rfl (y_nilptr rfl rfl)) (gF er_B1 rfl (gY (yl isAgg46 (hc.cell (j:=1) rfl) rfl) (gM rfl (gI er_sI hk1 (idx_lt hP2.2) rfl (gF er_I2 rfl (gY (yl isAgg47 (hcp.cell (j:=2) rfl) rfl) (gY (yV er_sN rfl) (gM rfl (gE ?_))))))))))))
          refine gBk (gNf hm (λj _=>[(1,vf),(2,.pointer (some ⟨b0,0,none⟩)),(12,.int .i64 (c_.blocks.length:Int)),(13,.int .i64 i),(5,.pointer (some ⟨bb,off+i.toNat*5,none⟩)),(67,.int .i64 (B.ins.length:Int)),(68,.int .i64 k),(8,.int .i64 k),(97,.int .i64 (P2.args.length:Int)),(98,.int .i64 j)]) (λ_ bl=>[ow (α:=Shp (hp w0) (List Block_)) [.slice (some ⟨bb,off,none⟩) c_.blocks.length c0] bl,blk b0 [.int .i64 c_.params,.int .i64 c_.regs,.slice (some ⟨bb,off,none⟩) c_.blocks.length c0] 44]) [0,1] rfl ?_ ?_)
          · clear hm hc hr1 hr2 hcp hra
            intro _ _ j bl3 w hm hj1 hj2 q _
            refine gS (gR (gB rfl (gE (gS (go _ 99 rfl (decide_eq_true (by omega)) (gct rfl (gSk (gS ?_))))))))
            refine gBk (gS (gR (gM rfl (gA rfl (gE ?_)))))
            refine gb λbl4 hq=>?_
            obtain ⟨B3,P3,nn,y,hB3,hP3,hn3,hy,rfl⟩:=er_IA_some hq
            obtain ⟨p1,n1,c1,p2,n2,c2,v3,hc,hr1,hr2,⟨e1,e2⟩,_,_⟩:=er_Bs hm hB3.2
            obtain ⟨b2,o2,c2',p3,n3,c3,he,hcp,hra,e3,_⟩:=er_I hr2 hP3.2
            simp only [Value.slice.injEq] at he
            obtain ⟨rfl,rfl,rfl⟩:=he
            obtain ⟨b3,o3,c3',he,hcn⟩:=er_N hra hn3.2
            simp only [Value.slice.injEq] at he
            obtain ⟨rfl,rfl,rfl⟩:=he
            refine gR (gM rfl (gM rfl (gY (yG rfl (y_nilptr rfl rfl)) (gF er_B1 rfl (gY (yl isAgg46 (hc.cell (j:=1) rfl) rfl) (gM rfl (gI er_sI hk1 (idx_lt hP3.2) rfl (gF er_I2 rfl (gY (yl isAgg47 (hcp.cell (j:=2) rfl) rfl) (gM rfl (gI er_sN hj1 (idx_lt hn3.2) rfl (er_call hm hv (er_inIs hB3.2 hc (er_insA hP3.2 hcp hn3.2 hcn)) hy rfl λv w hm=>?_))))))))))))
            exact gE (gR (gP (by omega) (by omega) rfl (gM rfl (gE (gze hm [0,1] rfl)))))
          · clear hm hc hr1 hr2 hcp hra
            intro j bl3 w hm hj1 hj2
            refine gS (gR (gB rfl (gE (gS (go _ 99 rfl (decide_eq_false (by omega)) (gcf rfl (gXt (gHh ?_))))))))
            exact gR (gP (by omega) (by omega) rfl (gM rfl (gE (gze hm [0,1] rfl))))
      · clear hm hc hr1 hr2
        intro k bl1 w hm hk1 hk2
        refine gS (gR (gB rfl (gE (gS (go _ 69 rfl (decide_eq_false (by omega)) (gcf rfl (gXt (gHh ?_))))))))
        refine gJ hm (λ_=>[(1,vf),(2,.pointer (some ⟨b0,0,none⟩)),(12,.int .i64 (c_.blocks.length:Int)),(13,.int .i64 i)]) (λbl=>[ow (α:=Shp (hp w0) (List Block_)) [.slice (some ⟨bb,off,none⟩) c_.blocks.length c0] bl,blk b0 [.int .i64 c_.params,.int .i64 c_.regs,.slice (some ⟨bb,off,none⟩) c_.blocks.length c0] 44]) (λz=>?_) λbl2 w hm=>?_
        · refine gb fun u hu => ?_
          obtain ⟨B1,hB1,hu⟩:=bnd hu
          have hB1:=getI_some.1 hB1
          obtain ⟨p1,n1,c1,p2,n2,c2,v3,hc,hr1,hr2,⟨e1,e2⟩,_,_⟩:=er_Bs hm hB1.2
          refine gS (gR (gM rfl (gY (yG rfl (y_nilptr rfl rfl)) (gF er_B2 rfl (gY (yl isAgg3 (hc.cell (j:=2) rfl) rfl) (gf rfl (λa hf=>e_call hf rfl call93 rfl (impl_usesOn_ok _ _ u hu)) ?_))))))
          rintro v w ⟨rfl,hBe⟩
          replace hm:=hm.below' hBe
          clear hBe hc hr1 hr2
          refine gE (gs 119 rfl (λ_=>?_) λ_=>gcf rfl (gSk (gz hm [0,1] rfl)))
          refine gin λhq=>?_
          obtain ⟨B2,hB2,hq⟩:=bnd hq
          obtain ⟨y,hy,hq⟩:=bnd hq
          obtain rfl:=Option.some.inj hq
          have hB2:=getI_some.1 hB2
          obtain ⟨p1,n1,c1,p2,n2,c2,v3,hc,hr1,hr2,⟨e1,e2⟩,_,_⟩:=er_Bs hm hB2.2
          exact gct rfl (gR (gM rfl (gM rfl (gY (yG rfl (y_nilptr rfl rfl)) (gF er_B3 rfl (er_call hm hv (er_ons hB2.2 hc) hy rfl λv w hm=>gE (gz hm [0,1] rfl)))))))
        · exact gR (gP (by omega) (by omega) rfl (gM rfl (gE (gze hm [0,1] rfl))))
  · clear hm hm0
    intro i bl w hm hi1 hi2
    exact gS (gR (gB rfl (gE (gS (go _ 14 rfl (decide_eq_false (by omega)) (gcf rfl (gXt (gHh (gre rfl ⟨rfl,hm.pk [0] rfl rfl⟩)))))))))
theorem impl_inlined_2_ok (w0 : World) (p_ : Int) (c0_ : MapS Int) (v1 : Value) (h1 : GT.rep (hp w0) [v1] c0_) (bf0 : Nat) (hbf0 : w0.heap[bf0]? = some (.cells ([v1] : List Value).toArray 100 (0, 0))) :
    ConM Tryz.prog 62 [nV p_,(pV bf0)] w0 (impl_inlined_2 p_ c0_) λr v w'=>v=(nV r)∧Below w0.heap.size w0 w':=by
  unfold impl_inlined_2
  refine gcon func62 rfl λr=>?_
  have hm:=Mem.start w0
  exact gS (gR (gA rfl (gE (gS (gR (gY (yl isAgg100 (hm.old_cell hbf0 rfl) rfl) (gM rfl (gY (yG rfl (y_lookI (key:=p_) (m:=(c0_:MapS Int)) underlying3 underlying100 zeroValue3 (hm.now h1) rfl rfl rfl)) (gA rfl (gE (gRt (gr1 results62 rfl ⟨rfl,hm.below⟩))))))))))))
theorem impl_mapped_int_int_ok (w0 : World) (list : List Int) (v1 : Value) (h1 : GT.rep (hp w0) [v1] list) (f : Int → Option Int) (fv1 : Value) (hfn1 : ∀ (w : World) (y0 : Int) (r : Int), Below w0.heap.size w0 w → f y0 = some r → FnOk Tryz.prog fv1 [nV y0] w (fun v w' => v = (nV r) ∧ Below w.heap.size w w')) :
    ConM Tryz.prog 61 [v1,fv1] w0 (impl_mapped_int_int list f) λr v w'=>∃ (x1:Value),v=x1∧Mem w0 (hp w0) w' [ow [x1] r]:=by
  unfold impl_mapped_int_int
  refine gcon func61 rfl λr=>?_
  have hm:=Mem.start w0
  refine gS (gR (gA rfl (gE (gS (gR (gA rfl (gE (gS (gS (gR (gM rfl ?_)))))))))))
  obtain ⟨aG,aH,rfl,aP⟩:=ro_slice h1
  refine gY (yV st_47 rfl) (gM rfl (gE (gBk ?_)))
  replace hm:=hm.nilow (α:=Int)
  refine gNg (λaD aE a w=>∃ (aA:Value),St 22 [(1,fv1),(5,aA),(8,(.slice aG list.length aH)),(9,(nV ((list.length:Int)))),(10,(nV aD))] w0 (hp w0) [ow [aA] aE] a w) (λa hf=>⟨.slice none 0 0,hf.sb rfl,hm.pk [0] rfl rfl⟩) ?_ ?_
  ·repeat clear hm
   rintro _ _ aD aE a w ⟨aA,hf,hm⟩ aQ aR aS _
   refine gv hf (gS (gR (gB rfl (gE (gS (go _ 11 rfl (decide_eq_true (by omega)) (gct rfl (gSk (gS (gBk (gS (gR (gg λaF aI aB=>?_)))))))))))))
   obtain ⟨aT,aV,aW,he⟩:=idx_form h1 aB
   obtain ⟨rfl,_,rfl⟩:=sl3 he
   refine gI st_47 aI (idx_lt aB) rfl (gY (yl isAgg3 ((flat_cells (cs:=[nV aF]) (hm.now h1) aB rfl).cell (j:=0) rfl) rfl) (gA rfl (gE (gR (gM rfl (gM rfl (gM rfl (gb λaC aJ=>gf rfl (λa hf=>e_callv hf rfl rfl rfl (hfn1 _ aF _ hm.below aJ)) ?_))))))))
   rintro aX w ⟨rfl,hB⟩
   replace hm:=hm.below' hB;clear hB
   refine gf rfl (λa hf=>e_build (vs:=#[(0,(nV aC))]) (cs:=[nV aC]) et_47 hf hm rfl rfl (by kernel_rfl) rfl rfl) ?_
   rintro _ w ⟨aY,rfl,hm⟩
   replace hm:=hm.lit (xs:=([aC]:List Int)) 0 rfl rfl rfl rfl
   refine gb λaZ aK=>?_
   obtain ⟨aL,aM⟩:=appM_some.1 aK
   refine gf rfl (λa hf=>e_append 1 et_47 hf hm rfl (hm.ow_rep 0 rfl) rfl rfl rfl aL) ?_
   rintro aN w hm
   rw [aM] at hm
   exact gA rfl (gE (gR (gP (by omega) (by omega) rfl (gM rfl (gE (gZe λa hf=>⟨aN,hf.sb rfl,hm.pk [1] rfl rfl⟩))))))
  repeat clear hm
  rintro aa ab a w ⟨aO,hf,hm⟩ ac ae
  exact gv hf (gS (gR (gB rfl (gE (gS (go _ 11 rfl (decide_eq_false (by omega)) (gcf rfl (gXt (gHh (gS (gR (gM rfl (gA rfl (gE (gRt (gr1 results61 rfl ⟨aO,rfl,hm.pk [0] rfl rfl⟩))))))))))))))))
theorem impl_inlined_ok (w0 : World) (c_ : Code_) (v1 : Value) (h1 : GT.rep (hp w0) [v1] c_.blocks) (f : Code_) (v2 : Value) (h2 : GT.rep (hp w0) [v2] f.blocks) (b_ : Int) (i_ : Int) :
    ConM Tryz.prog 27 [(.agg #[nV c_.params,nV c_.regs,v1]),(.agg #[nV f.params,nV f.regs,v2]),nV b_,nV i_] w0 (impl_inlined c_ f b_ i_) λr v w'=>∃ (x1:Value),v=(.agg #[nV r.params,nV r.regs,x1])∧Mem w0 (hp w0) w' [ow [x1] r.blocks]:=by
  unfold impl_inlined
  refine gcon func27 rfl λr=>?_
  have hm:=Mem.start w0
  refine gS (gR (gBx hm rfl λbg w hm=>gBx hm rfl λaV w hm=>gAl hm zeroValue44 rfl λaI w hm=>gE (gS (gR (gY (yn (hm.blk_at 2 rfl) isAgg44 sizeOf44 rfl) (gCg rfl call51 (impl_cloneCode_ok _ c_ v1 (hm.now h1)) ?_))))))
  rintro aC iF iG w ⟨iH,rfl,hB⟩
  replace hm:=hm.give hB;clear hB
  refine gAl hm zeroValue44 rfl λaJ w hm=>gSN hm 0 sizeOf44 (one_cons rfl (one_cons rfl (one_cons (rep_one (hm.ow_rep 1 rfl)) one_nil))) rfl λw hm=>gE (gS (gR (gF fo_44_2 rfl (gL hm 0 isAgg42 rfl (gM rfl (gg λaA dy bt=>?_))))))
  obtain ⟨aK,aL,aO,he⟩:=idx_form' (hm.ow_rep 1 rfl) bt
  subst he
  obtain ⟨iI,iJ,iK,iL,iM,iN,iO⟩:=rk_Block_ (hm.ow_rep 1 rfl) bt
  refine gI st_42 dy (idx_lt bt) rfl (gF fo_49_1 rfl ?_)
  obtain ⟨aP,iP,al,hm⟩:=pin_Block_ hm 1 rfl bt
  have iQ:(b_).toNat<aC.blocks.length:=(idx_lt bt)
  refine gY (yl isAgg46 ((hm.holeE_at 4 rfl).cell (j:=1) rfl) rfl) (gM rfl (gg λaB dU bx=>?_))
  obtain ⟨an,ao,ap,he⟩:=idx_form' (hm.ow_rep 1 rfl) bx
  subst he
  obtain ⟨iR,iS,iT⟩:=rk_Ins_ (hm.ow_rep 1 rfl) bx
  refine gI st_46 dU (idx_lt bx) rfl ?_
  obtain ⟨am,hm⟩:=pin_Ins_ hm 1 rfl bx
  have iU:(i_).toNat<aA.ins.length:=(idx_lt bx)
  refine gY (yn (hm.holeE_at 2 rfl) isAgg51 sizeOf51 rfl) (gAl hm zeroValue51 rfl λaW w hm=>gSN hm 0 sizeOf51 (one_cons rfl (one_cons rfl (one_cons (rep_one (hm.ow_rep 1 rfl)) (one_cons rfl one_nil)))) rfl λw hm=>gE (gS ?_))
  replace hm:Mem w0 (hp w0) _ [blk aW [nV aB.op,nV aB.to,am,nV aB.n_] 51,ow [am] aB.args,ow [al] aA.next_,holeE an ao aA.ins.length ap (aA.ins:List Ins_) (i_).toNat [nV aB.op,nV aB.to,am,nV aB.n_],ow [aP] aA.phis,blk aJ [nV aC.params,nV aC.regs,sV aK aL aC.blocks.length aO] 44,holeE aK aL aC.blocks.length aO (aC.blocks:List Block_) (b_).toNat [aP,sV an ao aA.ins.length ap,nV aA.jump,nV aA.on,al],blk aI [nV 0,nV 0,.slice none 0 0] 44,blk aV [nV f.params,nV f.regs,v2] 44,blk bg [nV c_.params,nV c_.regs,v1] 44]:=hm
  refine gW (.p 0 (.p 2 (.q 1 (.q 3 (.p 4 (.e 5 (.e 6 (.p 7 .fin) .nil) .nil)))))) [1,3,5,6] [0,2,4,7] hm [0,1,2,3,4,5,6,7,8,9] [blk aW [nV aB.op,nV aB.to,am,nV aB.n_] 51,ow [am] aB.args,ow [al] aA.next_,holeE an ao aA.ins.length ap (aA.ins:List Ins_) (i_).toNat [nV aB.op,nV aB.to,am,nV aB.n_],ow [aP] aA.phis,blk aJ [nV aC.params,nV aC.regs,sV aK aL aC.blocks.length aO] 44,holeE aK aL aC.blocks.length aO (aC.blocks:List Block_) (b_).toNat [aP,sV an ao aA.ins.length ap,nV aA.jump,nV aA.on,al],blk aI [nV 0,nV 0,.slice none 0 0] 44,blk aV [nV f.params,nV f.regs,v2] 44,blk bg [nV c_.params,nV c_.regs,v1] 44] rfl mxo (by kernel_rfl) (λ_ _ _ h=>h.2) λw hm hS=>tP rfl (λw=>yF fo_44_1 rfl) (tP rfl (λw=>yF fo_44_2 rfl) (tQ rfl hS (λw hm=>yL hm 9 isAgg3 rfl) (tQ rfl hS (λw hm=>yL hm 9 isAgg42 rfl) ?_)))
  obtain ⟨bk,bm,rfl,iV⟩:=ro_slice h1
  refine tP rfl (λw=>yV st_42 rfl) (tO (tf rfl rfl (λa hf=>e_alloc hm zeroValue3 rfl rfl) ?_))
  rintro _ w ⟨aT,rfl,hm⟩
  refine tAk hm [1,2,3,4,5,6,7,8,9,10] rfl λhS=>tO (tf0 rfl rfl (λa hf=>e_store1 0 hf hm rfl sizeOf3 rfl rfl rfl rfl rfl) ?_)
  rintro _ w hm
  refine tAk hm [1,2,3,4,5,6,7,8,9,10] rfl λhS=>tP rfl (λw=>yA rfl) (tE (gS (gR (gM rfl (gF fo_44_2 rfl (gL hm 9 isAgg42 rfl ?_))))))
  obtain ⟨aa,aZ,rfl,iW⟩:=ro_slice h2
  refine gY (yV st_42 rfl) (gP (by omega) (by omega) rfl (gA rfl (gE (gS (gR (gY (yn (hm.blk_at 10 rfl) isAgg44 sizeOf44 rfl) (gCg rfl call52 (impl_phisOf_ok _ c_ (.slice bk c_.blocks.length bm) (hm.now h1)) ?_)))))))
  rintro aF iX bY w ⟨_,rfl,hB⟩
  replace hm:=hm.give hB;clear hB
  refine gA rfl (gE (gS (gR (gF fo_44_1 rfl (gL hm 7 isAgg3 rfl (gF fo_44_1 rfl (gL hm 10 isAgg3 rfl (gB rfl (gF fo_44_1 rfl (gS1 hm 7 sizeOf3 rfl rfl λw hm=>gE (gS (gR (gF fo_44_2 rfl (gL hm 7 isAgg42 rfl (gM rfl ?_)))))))))))))))
  have hL0_1:=hm.holeE_len 8 rfl
  refine gI st_42 dy (idx_lt2 bt hL0_1) rfl (gA rfl (gE (gS ?_)))
  have en:=(lgE.1 bx).1
  replace hm:Mem w0 (hp w0) _ [ow [bY] aF,blk aT [nV c_.regs] 3,blk aW [nV aB.op,nV aB.to,am,nV aB.n_] 51,ow [am] aB.args,ow [al] aA.next_,gap an ao aA.ins.length ap (List.take (i_).toNat aA.ins:List Ins_) (List.drop (i_+1).toNat aA.ins:List Ins_),ow [aP] aA.phis,blk aJ [nV aC.params,nV (w64 (aC.regs+f.regs)),sV aK aL aC.blocks.length aO] 44,holeE aK aL aC.blocks.length aO (aC.blocks:List Block_) (b_).toNat [aP,sV an ao aA.ins.length ap,nV aA.jump,nV aA.on,al],blk aI [nV 0,nV 0,.slice none 0 0] 44,blk aV [nV f.params,nV f.regs,.slice aa f.blocks.length aZ] 44,blk bg [nV c_.params,nV c_.regs,.slice bk c_.blocks.length bm] 44]:=hm.hole_gap (j:=(i_+1).toNat) 5 rfl (by have:=dU;omega)
  obtain ⟨dz,hgl0_1m⟩:=hm.gap_max 5 rfl
  refine gJg (λaE a w=>∃ (aY:Nat) (bh:Value),St 306 [(2,(nV b_)),(3,(nV i_)),(5,(pV aV)),(8,(pV aI)),(9,(pV aJ)),(10,(pV aW)),(11,(pV aT)),(12,(nV ((c_.blocks.length:Int)))),(13,(nV (((c_.blocks.length:Int))+((f.blocks.length:Int))))),(14,bY),(15,(.pointer (some ⟨aK,aL+(b_).toNat*5,none⟩))),(16,(pV aY))] w0 (hp w0) [blk aV [nV f.params,nV f.regs,.slice aa f.blocks.length aZ] 44,blk aI [nV 0,nV 0,.slice none 0 0] 44,blk aJ [nV aC.params,nV (w64 (aC.regs+f.regs)),sV aK aL aC.blocks.length aO] 44,holeE aK aL aC.blocks.length aO (aC.blocks:List Block_) (b_).toNat [aP,sV an ao aA.ins.length ap,nV aA.jump,nV aA.on,al],ow [aP] aA.phis,gap an ao aA.ins.length ap (List.take (i_).toNat aA.ins:List Ins_) ([]:List Ins_),ow [al] aA.next_,blk aW [nV aB.op,nV aB.to,am,nV aB.n_] 51,ow [am] aB.args,blk aT [nV c_.regs] 3,ow [bY] aF,blk aY [.slice none 0 0,bh,nV aA.jump,nV aA.on,al] 49,ow [bh] aE] a w) (λaE=>?_) ?_
  ·replace hm : Mem w0 (hp w0) _ [ow [bY] aF, blk aT [nV c_.regs] 3, blk aW [nV aB.op, nV aB.to, am, nV aB.n_] 51, ow [am] aB.args, ow [al] aA.next_, gap an ao aA.ins.length ap (List.take (i_).toNat aA.ins : List Ins_) (List.drop (i_ + 1).toNat aA.ins : List Ins_), ow [aP] aA.phis, blk aJ [nV aC.params, nV (w64 (aC.regs + f.regs)), sV aK aL aC.blocks.length aO] 44, holeE aK aL aC.blocks.length aO (aC.blocks : List Block_) (b_).toNat [aP, sV an ao aA.ins.length ap, nV aA.jump, nV aA.on, al], blk aI [nV 0, nV 0, .slice none 0 0] 44, blk aV [nV f.params, nV f.regs, .slice aa f.blocks.length aZ] 44, blk bg [nV c_.params, nV c_.regs, .slice bk c_.blocks.length bm] 44] := hm
   refine gW (.p 0 (.p 1 (.p 2 (.p 4 (.p 5 (.p 8 (.p 9 (.p 10 (.p 12 (.p 13 (.p 14 (.p 16 (.p 17 (.p 18 (.q 3 (.p 6 (.q 11 (.q 15 (.q 19 (.e 7 (.p 20 (.e 21 (.e 22 .fin .nil) .nil)) (.e 21 (.e 7 (.p 20 (.e 22 .fin .nil)) .nil) .nil))))))))))))))))))))) [3,7,11,15,19,21] [0,1,2,4,5,6,8,9,10,12,13,14,16,17,18,20] hm [0,1,2,3,4,6,7,8,9,10,11] [ow [bY] aF,blk aT [nV c_.regs] 3,blk aW [nV aB.op,nV aB.to,am,nV aB.n_] 51,ow [am] aB.args,ow [al] aA.next_,ow [aP] aA.phis,blk aJ [nV aC.params,nV (w64 (aC.regs+f.regs)),sV aK aL aC.blocks.length aO] 44,holeE aK aL aC.blocks.length aO (aC.blocks:List Block_) (b_).toNat [aP,sV an ao aA.ins.length ap,nV aA.jump,nV aA.on,al],blk aI [nV 0,nV 0,.slice none 0 0] 44,blk aV [nV f.params,nV f.regs,.slice aa f.blocks.length aZ] 44,blk bg [nV c_.params,nV c_.regs,.slice bk c_.blocks.length bm] 44] rfl mxo (by kernel_rfl) (λ_ _ _ h=>h.2) λw hm hS=>tP rfl (λw=>yM rfl) (tP rfl (λw=>yG rfl (y_nilptr rfl rfl)) (tP rfl (λw=>yF fo_49_1 rfl) (tP rfl (λw=>yM rfl) (tP rfl (λw=>yB rfl) (tP rfl (λw=>yM rfl) (tP rfl (λw=>yG rfl (y_nilptr rfl rfl)) (tP rfl (λw=>yF fo_49_2 rfl) (tP rfl (λw=>yM rfl) (tP rfl (λw=>yG rfl (y_nilptr rfl rfl)) (tP rfl (λw=>yF fo_49_3 rfl) (tP rfl (λw=>yM rfl) (tP rfl (λw=>yG rfl (y_nilptr rfl rfl)) (tP rfl (λw=>yF fo_49_4 rfl) (tQ rfl hS (λw hm=>yl isAgg46 ((hm.holeE_at 7 rfl).cell (j:=1) rfl) rfl) (gb λcW eo=>?_)))))))))))))))
   obtain ⟨iY,dV⟩:=subM_some.1 eo
   have cX:w64 (i_+1)=i_+1:=w64_id (by omega) (by omega)
   obtain ⟨iZ,dW⟩:∃ nv,nv=subV (GT.sz (Ins_)) (sV an ao aA.ins.length ap) (aA.ins.length - cW.length) aA.ins.length:=⟨_,rfl⟩
   refine tP rfl (λw=>yG rfl (yl_eq dW (y_subLI (α:=Ins_) st_46 rfl rfl rfl (by rw [cX];omega) (by rw [cX];omega) dz.2 (by rw [← dV,cX];simp only [List.length_drop,List.length_take];omega)))) (tQ rfl hS (λw hm=>yl isAgg3 ((hm.holeE_at 7 rfl).cell (j:=2) rfl) rfl) (tQ rfl hS (λw hm=>yl isAgg3 ((hm.holeE_at 7 rfl).cell (j:=3) rfl) rfl) (tQ rfl hS (λw hm=>yl isAgg47 ((hm.holeE_at 7 rfl).cell (j:=4) rfl) rfl) (gb λbp eA=>tMo ?_ ?_))))
   ·replace hm := hm.imp (c' := gap an ao aA.ins.length ap (List.take (i_).toNat aA.ins : List Ins_) (cW : List Ins_)) 5 rfl (fun F h0 => by rw [← dV, cX, show (List.take (aA.ins.length : Int).toNat aA.ins) = aA.ins from List.take_length]; exact h0)
    obtain ⟨ep,hle,hm1,hsub,et⟩:=hm.take2 (L1:=[gap an ao aA.ins.length ap (List.take (i_).toNat aA.ins:List Ins_) (cW:List Ins_)]) (L2:=[ow [bY] aF,blk aT [nV c_.regs] 3,blk aW [nV aB.op,nV aB.to,am,nV aB.n_] 51,ow [am] aB.args,ow [al] aA.next_,ow [aP] aA.phis,blk aJ [nV aC.params,nV (w64 (aC.regs+f.regs)),sV aK aL aC.blocks.length aO] 44,holeE aK aL aC.blocks.length aO (aC.blocks:List Block_) (b_).toNat [aP,sV an ao aA.ins.length ap,nV aA.jump,nV aA.on,al],blk aI [nV 0,nV 0,.slice none 0 0] 44,blk aV [nV f.params,nV f.regs,.slice aa f.blocks.length aZ] 44,blk bg [nV c_.params,nV c_.regs,.slice bk c_.blocks.length bm] 44]) [5] [0,1,2,3,4,6,7,8,9,10,11] (by decide) rfl rfl
    refine tf rfl rfl (λa hf=>e_call hf rfl call53 rfl (slices_Clone_S_impl_Ins_impl_Ins_ok _ ep hm1 dW _ eA)) ?_
    rintro eu w eB
    replace hm:Mem w0 (hp w0) _ [ow [eu] bp,gap an ao aA.ins.length ap (List.take (i_).toNat aA.ins:List Ins_) ([]:List Ins_),ow [bY] aF,blk aT [nV c_.regs] 3,blk aW [nV aB.op,nV aB.to,am,nV aB.n_] 51,ow [am] aB.args,ow [al] aA.next_,ow [aP] aA.phis,blk aJ [nV aC.params,nV (w64 (aC.regs+f.regs)),sV aK aL aC.blocks.length aO] 44,holeE aK aL aC.blocks.length aO (aC.blocks:List Block_) (b_).toNat [aP,sV an ao aA.ins.length ap,nV aA.jump,nV aA.on,al],blk aI [nV 0,nV 0,.slice none 0 0] 44,blk aV [nV f.params,nV f.regs,.slice aa f.blocks.length aZ] 44,blk bg [nV c_.params,nV c_.regs,.slice bk c_.blocks.length bm] 44]:=et _ _ eB
    clear eB
    refine tAk hm [2,3,4,5,6,7,8,9,10,11,12] rfl λhS=>?_
    obtain ⟨dX,dY,rfl,i4⟩:=ro_slice (hm.ow_rep 0 rfl)
    obtain ⟨eC,eD,rfl,i5⟩:=ro_slice (hm.ow_rep 6 rfl)
    refine tP rfl (λw=>yG rfl (y_build (vs:=[(1,(.slice dX bp.length dY)),(2,(nV aA.jump)),(3,(nV aA.on)),(4,(.slice eC aA.next_.length eD))]) (cs:=#[.slice none 0 0,.slice dX bp.length dY,nV aA.jump,nV aA.on,.slice eC aA.next_.length eD]) rfl rfl (by kernel_rfl))) (tO (tf rfl rfl (λa hf=>e_alloc hm zeroValue49 rfl rfl) ?_))
    rintro _ w ⟨ew,rfl,hm⟩
    refine tAk hm [3,4,5,6,7,8,9,10,11,12,13] rfl λhS=>tO (tf0 rfl rfl (λa hf=>e_storeN 0 hf hm rfl sizeOf49 rfl rfl rfl (one_cons rfl (one_cons rfl (one_cons rfl (one_cons rfl (one_cons rfl one_nil))))) rfl rfl) ?_)
    rintro _ w hm
    exact tAn rfl (tE (gZ λa hf=>⟨ew,.slice dX bp.length dY,hf.sb rfl,hm.pk [12,11,9,10,8,2,7,5,6,4,3,0,1] rfl rfl⟩))
   refine tO (tf rfl rfl (λa hf=>e_alloc hm zeroValue49 rfl rfl) ?_)
   rintro _ w ⟨dZ,rfl,hm⟩
   refine tAk hm [1,2,3,4,5,7,8,9,10,11,12] rfl λhS=>tO ?_
   replace hm:=hm.imp (c':=gap an ao aA.ins.length ap (List.take (i_).toNat aA.ins:List Ins_) (cW:List Ins_)) 6 rfl (λF h0=>by rw [← dV,cX,show (List.take (aA.ins.length:Int).toNat aA.ins)=aA.ins from List.take_length];exact h0)
   obtain ⟨ey,hle,hm1,hsub,ez⟩:=hm.take2 (L1:=[gap an ao aA.ins.length ap (List.take (i_).toNat aA.ins:List Ins_) (cW:List Ins_)]) (L2:=[blk dZ [.slice none 0 0,.slice none 0 0,nV 0,nV 0,.slice none 0 0] 49,ow [bY] aF,blk aT [nV c_.regs] 3,blk aW [nV aB.op,nV aB.to,am,nV aB.n_] 51,ow [am] aB.args,ow [al] aA.next_,ow [aP] aA.phis,blk aJ [nV aC.params,nV (w64 (aC.regs+f.regs)),sV aK aL aC.blocks.length aO] 44,holeE aK aL aC.blocks.length aO (aC.blocks:List Block_) (b_).toNat [aP,sV an ao aA.ins.length ap,nV aA.jump,nV aA.on,al],blk aI [nV 0,nV 0,.slice none 0 0] 44,blk aV [nV f.params,nV f.regs,.slice aa f.blocks.length aZ] 44,blk bg [nV c_.params,nV c_.regs,.slice bk c_.blocks.length bm] 44]) [6] [0,1,2,3,4,5,7,8,9,10,11,12] (by decide) rfl rfl
   refine tf rfl rfl (λa hf=>e_call hf rfl call53 rfl (slices_Clone_S_impl_Ins_impl_Ins_ok _ ey hm1 dW _ eA)) ?_
   rintro fA w eE
   replace hm:Mem w0 (hp w0) _ [ow [fA] bp,gap an ao aA.ins.length ap (List.take (i_).toNat aA.ins:List Ins_) ([]:List Ins_),blk dZ [.slice none 0 0,.slice none 0 0,nV 0,nV 0,.slice none 0 0] 49,ow [bY] aF,blk aT [nV c_.regs] 3,blk aW [nV aB.op,nV aB.to,am,nV aB.n_] 51,ow [am] aB.args,ow [al] aA.next_,ow [aP] aA.phis,blk aJ [nV aC.params,nV (w64 (aC.regs+f.regs)),sV aK aL aC.blocks.length aO] 44,holeE aK aL aC.blocks.length aO (aC.blocks:List Block_) (b_).toNat [aP,sV an ao aA.ins.length ap,nV aA.jump,nV aA.on,al],blk aI [nV 0,nV 0,.slice none 0 0] 44,blk aV [nV f.params,nV f.regs,.slice aa f.blocks.length aZ] 44,blk bg [nV c_.params,nV c_.regs,.slice bk c_.blocks.length bm] 44]:=ez _ _ eE
   clear eE
   refine tAk hm [3,4,5,6,7,8,9,10,11,12,13] rfl λhS=>?_
   obtain ⟨d2,d4,rfl,i6⟩:=ro_slice (hm.ow_rep 0 rfl)
   obtain ⟨eF,eG,rfl,i7⟩:=ro_slice (hm.ow_rep 7 rfl)
   refine tP rfl (λw=>yG rfl (y_build (vs:=[(1,(.slice d2 bp.length d4)),(2,(nV aA.jump)),(3,(nV aA.on)),(4,(.slice eF aA.next_.length eG))]) (cs:=#[.slice none 0 0,.slice d2 bp.length d4,nV aA.jump,nV aA.on,.slice eF aA.next_.length eG]) rfl rfl (by kernel_rfl))) (tO (tf0 rfl rfl (λa hf=>e_storeN 2 hf hm rfl sizeOf49 rfl rfl rfl (one_cons rfl (one_cons rfl (one_cons rfl (one_cons rfl (one_cons rfl one_nil))))) rfl rfl) ?_))
   rintro _ w hm
   exact tAn rfl (tE (gZ λa hf=>⟨dZ,.slice d2 bp.length d4,hf.sb rfl,hm.pk [12,11,9,10,8,1,7,5,6,4,3,2,0] rfl rfl⟩))
  repeat clear hm
  rintro aE a w ⟨aY,bh,hf,hm⟩
  refine gv hf (gS (gR (gM rfl (gM rfl (gY (yG rfl (y_nilptr rfl rfl)) (gF fo_49_1 rfl (gY (yl isAgg46 ((hm.holeE_at 3 rfl).cell (j:=1) rfl) rfl) (gM rfl (gb λd5 fB=>?_)))))))))
  obtain ⟨i8,d6⟩:=subM_some.1 fB
  refine gY (yG rfl (y_subHI (α:=Ins_) (n:=d5.length) st_46 rfl rfl rfl dU en dz.2 (by rw [← d6];simp only [List.length_drop,List.length_take];omega))) ?_
  replace hm:=hm.imp (c':=gap an ao aA.ins.length ap (d5:List Ins_) ([]:List Ins_)) 5 rfl (λF h0=>by rw [← d6];exact h0)
  obtain ⟨fC,hle,hm1,hsub,fD⟩:=hm.take2 (L1:=[gap an ao aA.ins.length ap (d5:List Ins_) ([]:List Ins_)]) (L2:=[blk aV [nV f.params,nV f.regs,.slice aa f.blocks.length aZ] 44,blk aI [nV 0,nV 0,.slice none 0 0] 44,blk aJ [nV aC.params,nV (w64 (aC.regs+f.regs)),sV aK aL aC.blocks.length aO] 44,holeE aK aL aC.blocks.length aO (aC.blocks:List Block_) (b_).toNat [aP,sV an ao aA.ins.length ap,nV aA.jump,nV aA.on,al],ow [aP] aA.phis,ow [al] aA.next_,blk aW [nV aB.op,nV aB.to,am,nV aB.n_] 51,ow [am] aB.args,blk aT [nV c_.regs] 3,ow [bY] aF,blk aY [.slice none 0 0,bh,nV aA.jump,nV aA.on,al] 49,ow [bh] aE]) [5] [0,1,2,3,4,6,7,8,9,10,11,12] (by decide) rfl rfl
  refine gCg rfl call54 (slices_Clip_S_impl_Ins_impl_Ins_ok _ fC hm1 rfl (by rw [← d6];simp only [List.length_drop,List.length_take];omega)) ?_
  rintro eH i9 bz w eI
  replace hm:Mem w0 (hp w0) _ [ow [bz] eH,blk aV [nV f.params,nV f.regs,.slice aa f.blocks.length aZ] 44,blk aI [nV 0,nV 0,.slice none 0 0] 44,blk aJ [nV aC.params,nV (w64 (aC.regs+f.regs)),sV aK aL aC.blocks.length aO] 44,holeE aK aL aC.blocks.length aO (aC.blocks:List Block_) (b_).toNat [aP,sV an ao aA.ins.length ap,nV aA.jump,nV aA.on,al],ow [aP] aA.phis,ow [al] aA.next_,blk aW [nV aB.op,nV aB.to,am,nV aB.n_] 51,ow [am] aB.args,blk aT [nV c_.regs] 3,ow [bY] aF,blk aY [.slice none 0 0,bh,nV aA.jump,nV aA.on,al] 49,ow [bh] aE]:=fD _ _ eI
  clear eI
  refine gY (yG rfl (y_nilptr rfl rfl)) (gF fo_49_1 rfl ?_)
  have eJ:∀ u∈([bz]:List Value),u.oneCell'=true:=(one_cons (rep_one (hm.ow_rep 0 rfl)) one_nil)
  refine gf0 rfl (λa hf=>e_storeH (j:=1) (vs:=[bz]) 4 hf hm rfl rfl rfl sizeOf46 rfl rfl (cells_one (eJ _ (List.mem_singleton.2 rfl))) eJ rfl) ?_
  rintro _ w hm
  replace hm:Mem w0 (hp w0) _ [ow [bz] eH,blk aV [nV f.params,nV f.regs,.slice aa f.blocks.length aZ] 44,blk aI [nV 0,nV 0,.slice none 0 0] 44,blk aJ [nV aC.params,nV (w64 (aC.regs+f.regs)),sV aK aL aC.blocks.length aO] 44,holeE aK aL aC.blocks.length aO (aC.blocks:List Block_) (b_).toNat [aP,bz,nV aA.jump,nV aA.on,al],ow [aP] aA.phis,ow [al] aA.next_,blk aW [nV aB.op,nV aB.to,am,nV aB.n_] 51,ow [am] aB.args,blk aT [nV c_.regs] 3,ow [bY] aF,blk aY [.slice none 0 0,bh,nV aA.jump,nV aA.on,al] 49,ow [bh] aE]:=hm
  refine gE (gS (gS (gR (gF fo_51_2 rfl (gL hm 7 isAgg47 rfl ?_)))))
  obtain ⟨aX,aQ,rfl,ib⟩:=ro_slice (hm.ow_rep 8 rfl)
  refine gY (yV st_47 rfl) (gM rfl (gE ?_))
  obtain ⟨ab,aR,rfl,ic⟩:=ro_slice (hm.ow_rep 10 rfl)
  obtain ⟨aM,aN,rfl,ie⟩:=ro_slice (hm.ow_rep 12 rfl)
  obtain ⟨aG,aH,rfl,ig⟩:=ro_slice (hm.ow_rep 6 rfl)
  refine gBk (gNg (λb9 cA a w=>∃ (bi:Value),St 306 [(2,(nV b_)),(5,(pV aV)),(8,(pV aI)),(9,(pV aJ)),(10,(pV aW)),(11,(pV aT)),(12,(nV ((c_.blocks.length:Int)))),(13,(nV (((c_.blocks.length:Int))+((f.blocks.length:Int))))),(14,(.slice ab aF.length aR)),(15,(.pointer (some ⟨aK,aL+(b_).toNat*5,none⟩))),(16,(pV aY)),(97,(.slice aX aB.args.length aQ)),(98,(nV ((aB.args.length:Int)))),(99,(nV b9))] w0 (hp w0) [blk aV [nV f.params,nV f.regs,.slice aa f.blocks.length aZ] 44,blk aI [nV 0,nV 0,.slice none 0 0] 44,blk aJ [nV aC.params,nV (w64 (aC.regs+f.regs)),sV aK aL aC.blocks.length aO] 44,holeE aK aL aC.blocks.length aO (aC.blocks:List Block_) (b_).toNat [aP,bi,nV aA.jump,nV aA.on,.slice aG aA.next_.length aH],ow [aP] aA.phis,ow [bi] cA,ow [.slice aG aA.next_.length aH] aA.next_,blk aW [nV aB.op,nV aB.to,.slice aX aB.args.length aQ,nV aB.n_] 51,ow [.slice aX aB.args.length aQ] aB.args,blk aT [nV c_.regs] 3,ow [.slice ab aF.length aR] aF,blk aY [.slice none 0 0,.slice aM aE.length aN,nV aA.jump,nV aA.on,.slice aG aA.next_.length aH] 49,ow [.slice aM aE.length aN] aE] a w) (λa hf=>⟨bz,hf.sb rfl,hm.pk [1,2,3,4,5,0,6,7,8,9,10,11,12] rfl rfl⟩) ?_ ?_)
  ·repeat clear hm
   rintro _ _ b9 cA a w ⟨bi,hf,hm⟩ ii ij ik _
   refine gv hf (gS (gR (gB rfl (gE (gS (go _ 100 rfl (decide_eq_true (by omega)) (gct rfl (gSk (gS (gBk (gS (gR (gM rfl (gg λcB fE d7=>?_))))))))))))))
   obtain ⟨bq,br,il,he⟩:=idx_form (hm.ow_rep 8 rfl) d7
   obtain ⟨rfl,_,rfl⟩:=sl3 he
   refine gI st_47 fE (idx_lt d7) rfl (gY (yl isAgg3 ((flat_cells (cs:=[nV cB]) (hm.ow_rep 8 rfl) d7 rfl).cell (j:=0) rfl) rfl) (gA rfl (gA rfl (gE ?_))))
   replace hm:Mem w0 (hp w0) _ [blk aV [nV f.params,nV f.regs,.slice aa f.blocks.length aZ] 44,blk aI [nV 0,nV 0,.slice none 0 0] 44,blk aJ [nV aC.params,nV (w64 (aC.regs+f.regs)),sV aK aL aC.blocks.length aO] 44,holeE aK aL aC.blocks.length aO (aC.blocks:List Block_) (b_).toNat [aP,bi,nV aA.jump,nV aA.on,.slice aG aA.next_.length aH],ow [aP] aA.phis,ow [bi] cA,ow [.slice aG aA.next_.length aH] aA.next_,blk aW [nV aB.op,nV aB.to,sV bq br aB.args.length aQ,nV aB.n_] 51,ow [sV bq br aB.args.length aQ] aB.args,blk aT [nV c_.regs] 3,ow [.slice ab aF.length aR] aF,blk aY [.slice none 0 0,.slice aM aE.length aN,nV aA.jump,nV aA.on,.slice aG aA.next_.length aH] 49,ow [.slice aM aE.length aN] aE]:=hm
   refine gW (.p 0 (.p 1 (.p 2 (.p 3 (.p 6 (.p 8 (.q 4 (.q 5 (.p 7 (.e 9 (.p 10 (.e 11 (.e 12 (.p 13 (.p 14 (.e 15 .fin .nil))) .nil) .nil)) .nil)))))))))) [4,5,9,11] [0,1,2,3,6,7,8,10,13,14] hm [0,1,2,3,4,5,6,7,8,9,10,11,12] [blk aV [nV f.params,nV f.regs,.slice aa f.blocks.length aZ] 44,blk aI [nV 0,nV 0,.slice none 0 0] 44,blk aJ [nV aC.params,nV (w64 (aC.regs+f.regs)),sV aK aL aC.blocks.length aO] 44,holeE aK aL aC.blocks.length aO (aC.blocks:List Block_) (b_).toNat [aP,bi,nV aA.jump,nV aA.on,.slice aG aA.next_.length aH],ow [aP] aA.phis,ow [bi] cA,ow [.slice aG aA.next_.length aH] aA.next_,blk aW [nV aB.op,nV aB.to,sV bq br aB.args.length aQ,nV aB.n_] 51,ow [sV bq br aB.args.length aQ] aB.args,blk aT [nV c_.regs] 3,ow [.slice ab aF.length aR] aF,blk aY [.slice none 0 0,.slice aM aE.length aN,nV aA.jump,nV aA.on,.slice aG aA.next_.length aH] 49,ow [.slice aM aE.length aN] aE] rfl mxo (by kernel_rfl) (λ_ _ _ h=>h.2) λw hm hS=>tP rfl (λw=>yM rfl) (tP rfl (λw=>yM rfl) (tP rfl (λw=>yG rfl (y_nilptr rfl rfl)) (tP rfl (λw=>yF fo_49_1 rfl) (tP rfl (λw=>yM rfl) (tP rfl (λw=>yM rfl) (tQ rfl hS (λw hm=>yl isAgg46 ((hm.holeE_at 3 rfl).cell (j:=1) rfl) rfl) (tQ rfl hS (λw hm=>yL hm 9 isAgg3 rfl) (tP rfl (λw=>yB rfl) (tO (tf rfl rfl (λa hf=>e_build (vs:=#[(0,(nV cB))]) (cs:=[nV cB]) et_47 hf hm rfl rfl (by kernel_rfl) rfl rfl) ?_))))))))))
   rintro _ w ⟨cC,rfl,hm⟩
   replace hm:=hm.lit (xs:=([cB]:List Int)) 0 rfl rfl rfl rfl
   refine tAk hm [1,2,3,4,5,6,7,8,9,10,11,12,13] rfl λhS=>tP rfl (λw=>yG rfl (y_build (vs:=[(0,(nV 2)),(1,(nV (w64 (c_.regs+b9)))),(2,(sV cC 0 1 1))]) (cs:=#[nV 2,nV (w64 (c_.regs+b9)),sV cC 0 1 1,nV 0]) rfl rfl (by kernel_rfl))) (tO (tf rfl rfl (λa hf=>e_build (vs:=#[(0,(.agg #[nV 2,nV (w64 (c_.regs+b9)),sV cC 0 1 1,nV 0]))]) (cs:=[nV 2,nV (w64 (c_.regs+b9)),sV cC 0 1 1,nV 0]) et_46 hf hm rfl rfl (by kernel_rfl) rfl rfl) ?_))
   rintro _ w ⟨fF,rfl,hm⟩
   replace hm:=hm.els_nil (α:=Ins_)
   replace hm:Mem w0 (hp w0) _ [els [] ([]:List Ins_),blk fF [nV 2,nV (w64 (c_.regs+b9)),sV cC 0 1 1,nV 0] 51,ow [nV 2,nV (w64 (c_.regs+b9)),sV cC 0 1 1,nV 0] ((⟨2,w64 (c_.regs+b9),([cB]:List Int),0⟩:Ins_):Ins_),blk aV [nV f.params,nV f.regs,.slice aa f.blocks.length aZ] 44,blk aI [nV 0,nV 0,.slice none 0 0] 44,blk aJ [nV aC.params,nV (w64 (aC.regs+f.regs)),sV aK aL aC.blocks.length aO] 44,holeE aK aL aC.blocks.length aO (aC.blocks:List Block_) (b_).toNat [aP,bi,nV aA.jump,nV aA.on,.slice aG aA.next_.length aH],ow [aP] aA.phis,ow [bi] cA,ow [.slice aG aA.next_.length aH] aA.next_,blk aW [nV aB.op,nV aB.to,sV bq br aB.args.length aQ,nV aB.n_] 51,ow [sV bq br aB.args.length aQ] aB.args,blk aT [nV c_.regs] 3,ow [.slice ab aF.length aR] aF,blk aY [.slice none 0 0,.slice aM aE.length aN,nV aA.jump,nV aA.on,.slice aG aA.next_.length aH] 49,ow [.slice aM aE.length aN] aE]:=mk_Ins_ 2 (w64 (c_.regs+b9)) 0 hm 2 rfl
   replace hm:=(hm.els_cons 0 2 (by decide) rfl rfl).pk (L':=[_,_,_,_,_,_,_,_,_,_,_,_,_,_,_]) [0,1,3,4,5,6,7,8,9,10,11,12,13,14,15] rfl rfl
   replace hm:=(hm.lit_els 1 0 (by decide) rfl rfl rfl rfl).pk (L':=[_,_,_,_,_,_,_,_,_,_,_,_,_,_]) [1,2,3,4,5,6,7,8,9,10,11,12,13,14] rfl rfl
   refine tAk hm [1,2,3,4,5,6,7,8,9,10,11,12,13] rfl λhS=>tO (gb λfG fH=>?_)
   obtain ⟨fI,fJ⟩:=appM_some.1 fH
   replace hm:=(hm.both 6 0 (by decide) rfl rfl).pk (L':=[_,_,_,_,_,_,_,_,_,_,_,_,_]) [1,2,3,4,5,6,7,8,9,10,11,12,13] rfl rfl
   refine tf rfl rfl (λa hf=>e_appendD (xs:=cA) (ys:=([(⟨2,w64 (c_.regs+b9),([cB]:List Int),0⟩:Ins_)]:List Ins_)) 5 et_46 hf hm rfl rfl rfl rfl fI) ?_
   rintro cY w hm
   rw [fJ] at hm
   refine tAn rfl (tP rfl (λw=>yG rfl (y_nilptr rfl rfl)) (tP rfl (λw=>yF fo_49_1 rfl) (tO ?_)))
   have eK:∀ u∈([cY]:List Value),u.oneCell'=true:=(one_cons (rep_one (hm.ow_rep 5 rfl)) one_nil)
   refine tf0 rfl rfl (λa hf=>e_storeH (j:=1) (vs:=[cY]) 3 hf hm rfl rfl rfl sizeOf46 rfl rfl (cells_one (eK _ (List.mem_singleton.2 rfl))) eK rfl) ?_
   rintro _ w hm
   replace hm:Mem w0 (hp w0) _ [blk aV [nV f.params,nV f.regs,.slice aa f.blocks.length aZ] 44,blk aI [nV 0,nV 0,.slice none 0 0] 44,blk aJ [nV aC.params,nV (w64 (aC.regs+f.regs)),sV aK aL aC.blocks.length aO] 44,holeE aK aL aC.blocks.length aO (aC.blocks:List Block_) (b_).toNat [aP,cY,nV aA.jump,nV aA.on,.slice aG aA.next_.length aH],ow [aP] aA.phis,ow [cY] fG,ow [.slice aG aA.next_.length aH] aA.next_,blk aW [nV aB.op,nV aB.to,sV bq br aB.args.length aQ,nV aB.n_] 51,ow [sV bq br aB.args.length aQ] aB.args,blk aT [nV c_.regs] 3,ow [.slice ab aF.length aR] aF,blk aY [.slice none 0 0,.slice aM aE.length aN,nV aA.jump,nV aA.on,.slice aG aA.next_.length aH] 49,ow [.slice aM aE.length aN] aE]:=hm
   exact tAn rfl (tE (gR (gP (by omega) (by omega) rfl (gM rfl (gE (gZe λa hf=>⟨cY,hf.sb rfl,hm.pk [0,1,2,3,4,5,6,7,8,9,10,11,12] rfl rfl⟩))))))
  repeat clear hm
  rintro im fK a w ⟨d8,hf,hm⟩ io ip
  refine gv hf (gS (gR (gB rfl (gE (gS (go _ 100 rfl (decide_eq_false (by omega)) (gcf rfl (gXt (gHh (gS (gS (gR (gY (yn (hm.blk_at 0 rfl) isAgg44 sizeOf44 rfl) (gCg rfl call56 (impl_liveOf_ok _ _ hm.lez f (.slice aa f.blocks.length aZ) h2 ) ?_))))))))))))))
  rintro cD iq ir w ⟨fL,fM,iu,eL,aq,rfl,cZ,iv,hB⟩
  replace hm:=Mem.giveA hm cZ hB;clear hB
  refine gY (yG rfl (y_nilptr rfl rfl)) (gF fo_91_1 rfl (gL hm 0 isAgg89 rfl (gg λcE fN c4=>?_)))
  obtain ⟨d9,da,eM,he⟩:=idx_form' (hm.ow_rep 1 rfl) c4
  subst he
  obtain ⟨_,_,eN,fO⟩:=ro_get' (hm.ow_rep 1 rfl) c4
  have db:=fO
  obtain ⟨eO,rfl,-⟩:=id db
  replace db:GT.rep (hp _) [eO] cE:=db
  replace eN:CellsAt (hp _) d9 (da+(0:Int).toNat*1) [eO]:=eN
  refine gI st_89 fN (idx_lt c4) rfl ?_
  obtain ⟨_,fP,hm⟩:=hm.openE 1 rfl c4
  have fQ:=hm.ow_rep 0 rfl
  have cn:=fQ
  obtain ⟨c5,rfl,-⟩:=id cn
  replace cn:GT.rep (hp _) [c5] cE:=cn
  clear fP cn
  replace hm:Mem w0 aq _ [ow [c5] (cE:MapS Bool),blk fL [nV cD.c.params,nV cD.c.regs,fM,sV d9 da cD.ins.length eM,eL] 91,holeE d9 da cD.ins.length eM (cD.ins:List (MapS Bool)) (0:Int).toNat [c5],ow [eL] cD.preds,blk aV [nV f.params,nV f.regs,.slice aa f.blocks.length aZ] 44,blk aI [nV 0,nV 0,.slice none 0 0] 44,blk aJ [nV aC.params,nV (w64 (aC.regs+f.regs)),sV aK aL aC.blocks.length aO] 44,holeE aK aL aC.blocks.length aO (aC.blocks:List Block_) (b_).toNat [aP,d8,nV aA.jump,nV aA.on,.slice aG aA.next_.length aH],ow [aP] aA.phis,ow [d8] fK,ow [.slice aG aA.next_.length aH] aA.next_,blk aW [nV aB.op,nV aB.to,.slice aX aB.args.length aQ,nV aB.n_] 51,ow [.slice aX aB.args.length aQ] aB.args,blk aT [nV c_.regs] 3,ow [.slice ab aF.length aR] aF,blk aY [.slice none 0 0,.slice aM aE.length aN,nV aA.jump,nV aA.on,.slice aG aA.next_.length aH] 49,ow [.slice aM aE.length aN] aE]:=hm
  replace hm:=hm.pk (L':=[_,_,_,_,_,_,_,_,_,_,_,_,_,_,_,_,_]) [0,1,2,3,4,5,6,7,8,9,10,11,12,13,14,15,16] rfl rfl
  refine gY (yl isAgg88 ((hm.holeE_at 2 rfl).cell (j:=0) rfl) rfl) (gCg rfl call55 (impl_sortedKeys_bool_ok _ cE c5 (hm.ow_rep 0 rfl)) ?_)
  rintro ar iw iy w ⟨_,rfl,hB⟩
  replace hm:=hm.give hB;clear hB
  obtain ⟨bu,bQ,rfl,iz⟩:=ro_slice (hm.ow_rep 0 rfl)
  refine gY (yV st_47 rfl) (gM rfl (gE (gBk ?_)))
  replace hm:=hm.imp (c':=ow [c5] (cE:MapS Bool)) 1 rfl (λF h0=>h0)
  replace hm:=(hm.shutE (y:=(cE:MapS Bool)) 3 1 (by decide) rfl rfl).pk (L':=[_,_,_,_,_,_,_,_,_,_,_,_,_,_,_,_,_]) [0,2,3,4,5,6,7,8,9,10,11,12,13,14,15,16,17] rfl rfl
  rw [set_same c4] at hm
  refine gNg (λco cF a w=>∃ (bd:Value),St 306 [(2,(nV b_)),(5,(pV aV)),(8,(pV aI)),(9,(pV aJ)),(10,(pV aW)),(11,(pV aT)),(12,(nV ((c_.blocks.length:Int)))),(13,(nV (((c_.blocks.length:Int))+((f.blocks.length:Int))))),(14,(.slice ab aF.length aR)),(15,(.pointer (some ⟨aK,aL+(b_).toNat*5,none⟩))),(16,(pV aY)),(127,(.slice bu ar.length bQ)),(128,(nV ((ar.length:Int)))),(129,(nV co))] w0 aq [blk aV [nV f.params,nV f.regs,.slice aa f.blocks.length aZ] 44,blk aI [nV 0,nV 0,.slice none 0 0] 44,blk aJ [nV aC.params,nV (w64 (aC.regs+f.regs)),sV aK aL aC.blocks.length aO] 44,holeE aK aL aC.blocks.length aO (aC.blocks:List Block_) (b_).toNat [aP,bd,nV aA.jump,nV aA.on,.slice aG aA.next_.length aH],ow [aP] aA.phis,ow [bd] cF,ow [.slice aG aA.next_.length aH] aA.next_,blk aW [nV aB.op,nV aB.to,.slice aX aB.args.length aQ,nV aB.n_] 51,ow [.slice aX aB.args.length aQ] aB.args,blk aT [nV c_.regs] 3,ow [.slice ab aF.length aR] aF,blk aY [.slice none 0 0,.slice aM aE.length aN,nV aA.jump,nV aA.on,.slice aG aA.next_.length aH] 49,ow [.slice aM aE.length aN] aE,ow [.slice bu ar.length bQ] ar] a w) (λa hf=>⟨d8,hf.sb rfl,hm.pk [4,5,6,7,8,9,10,11,12,13,14,15,16,0] rfl rfl⟩) ?_ ?_
  ·repeat clear hm
   rintro _ _ co cF a w ⟨bd,hf,hm⟩ jA jB jC _
   refine gv hf (gS (gR (gB rfl (gE (gS (go _ 130 rfl (decide_eq_true (by omega)) (gct rfl (gSk (gS (gJg (λdc a w=>∃ (cq:Value),St 306 [(2,(nV b_)),(5,(pV aV)),(8,(pV aI)),(9,(pV aJ)),(10,(pV aW)),(11,(pV aT)),(12,(nV ((c_.blocks.length:Int)))),(13,(nV (((c_.blocks.length:Int))+((f.blocks.length:Int))))),(14,(.slice ab aF.length aR)),(15,(.pointer (some ⟨aK,aL+(b_).toNat*5,none⟩))),(16,(pV aY)),(127,(.slice bu ar.length bQ)),(128,(nV ((ar.length:Int)))),(129,(nV co))] w0 aq [blk aV [nV f.params,nV f.regs,.slice aa f.blocks.length aZ] 44,blk aI [nV 0,nV 0,.slice none 0 0] 44,blk aJ [nV aC.params,nV (w64 (aC.regs+f.regs)),sV aK aL aC.blocks.length aO] 44,holeE aK aL aC.blocks.length aO (aC.blocks:List Block_) (b_).toNat [aP,cq,nV aA.jump,nV aA.on,.slice aG aA.next_.length aH],ow [aP] aA.phis,ow [cq] dc,ow [.slice aG aA.next_.length aH] aA.next_,blk aW [nV aB.op,nV aB.to,.slice aX aB.args.length aQ,nV aB.n_] 51,ow [.slice aX aB.args.length aQ] aB.args,blk aT [nV c_.regs] 3,ow [.slice ab aF.length aR] aF,blk aY [.slice none 0 0,.slice aM aE.length aN,nV aA.jump,nV aA.on,.slice aG aA.next_.length aH] 49,ow [.slice aM aE.length aN] aE,ow [.slice bu ar.length bQ] ar] a w) (λdc=>?_) ?_))))))))))
   ·refine gBk (gS (gR (gg fun be fR dd => ?_)))
    obtain ⟨cG,cH,jD,he⟩:=idx_form (hm.ow_rep 13 rfl) dd
    obtain ⟨rfl,_,rfl⟩:=sl3 he
    refine gI st_47 fR (idx_lt dd) rfl (gY (yl isAgg3 ((flat_cells (cs:=[nV be]) (hm.ow_rep 13 rfl) dd rfl).cell (j:=0) rfl) rfl) (gA rfl (gE (gS (gR (gM rfl (gF fo_44_0 rfl (gL hm 0 isAgg3 rfl (gB rfl (gE (gJg (λde a w=>∃ (cr:Value),St 306 [(2,(nV b_)),(5,(pV aV)),(8,(pV aI)),(9,(pV aJ)),(10,(pV aW)),(11,(pV aT)),(12,(nV ((c_.blocks.length:Int)))),(13,(nV (((c_.blocks.length:Int))+((f.blocks.length:Int))))),(14,(.slice ab aF.length aR)),(15,(.pointer (some ⟨aK,aL+(b_).toNat*5,none⟩))),(16,(pV aY)),(127,(sV cG cH ar.length bQ)),(128,(nV ((ar.length:Int)))),(129,(nV co))] w0 aq [blk aV [nV f.params,nV f.regs,.slice aa f.blocks.length aZ] 44,blk aI [nV 0,nV 0,.slice none 0 0] 44,blk aJ [nV aC.params,nV (w64 (aC.regs+f.regs)),sV aK aL aC.blocks.length aO] 44,holeE aK aL aC.blocks.length aO (aC.blocks:List Block_) (b_).toNat [aP,cr,nV aA.jump,nV aA.on,.slice aG aA.next_.length aH],ow [aP] aA.phis,ow [cr] de,ow [.slice aG aA.next_.length aH] aA.next_,blk aW [nV aB.op,nV aB.to,.slice aX aB.args.length aQ,nV aB.n_] 51,ow [.slice aX aB.args.length aQ] aB.args,blk aT [nV c_.regs] 3,ow [.slice ab aF.length aR] aF,blk aY [.slice none 0 0,.slice aM aE.length aN,nV aA.jump,nV aA.on,.slice aG aA.next_.length aH] 49,ow [.slice aM aE.length aN] aE,ow [sV cG cH ar.length bQ] ar] a w) (λde=>?_) ?_)))))))))))
    ·refine gsd 136 rfl (fun fS => ?_) fun fS => ?_
     ·refine gct rfl ?_
      replace hm:Mem w0 aq _ [blk aV [nV f.params,nV f.regs,.slice aa f.blocks.length aZ] 44,blk aI [nV 0,nV 0,.slice none 0 0] 44,blk aJ [nV aC.params,nV (w64 (aC.regs+f.regs)),sV aK aL aC.blocks.length aO] 44,holeE aK aL aC.blocks.length aO (aC.blocks:List Block_) (b_).toNat [aP,bd,nV aA.jump,nV aA.on,.slice aG aA.next_.length aH],ow [aP] aA.phis,ow [bd] cF,ow [.slice aG aA.next_.length aH] aA.next_,blk aW [nV aB.op,nV aB.to,.slice aX aB.args.length aQ,nV aB.n_] 51,ow [.slice aX aB.args.length aQ] aB.args,blk aT [nV c_.regs] 3,ow [.slice ab aF.length aR] aF,blk aY [.slice none 0 0,.slice aM aE.length aN,nV aA.jump,nV aA.on,.slice aG aA.next_.length aH] 49,ow [.slice aM aE.length aN] aE,ow [sV cG cH ar.length bQ] ar]:=hm
      refine gW (.p 0 (.p 1 (.p 2 (.p 3 (.p 6 (.q 4 (.e 5 (.p 7 (.p 8 (.e 9 (.e 10 (.p 11 (.p 12 (.e 13 .fin .nil))) .nil) .nil))) .nil))))))) [5,9] [0,1,2,3,6,7,8,11,12] hm [0,1,2,3,4,5,6,7,8,9,10,11,12,13] [blk aV [nV f.params,nV f.regs,.slice aa f.blocks.length aZ] 44,blk aI [nV 0,nV 0,.slice none 0 0] 44,blk aJ [nV aC.params,nV (w64 (aC.regs+f.regs)),sV aK aL aC.blocks.length aO] 44,holeE aK aL aC.blocks.length aO (aC.blocks:List Block_) (b_).toNat [aP,bd,nV aA.jump,nV aA.on,.slice aG aA.next_.length aH],ow [aP] aA.phis,ow [bd] cF,ow [.slice aG aA.next_.length aH] aA.next_,blk aW [nV aB.op,nV aB.to,.slice aX aB.args.length aQ,nV aB.n_] 51,ow [.slice aX aB.args.length aQ] aB.args,blk aT [nV c_.regs] 3,ow [.slice ab aF.length aR] aF,blk aY [.slice none 0 0,.slice aM aE.length aN,nV aA.jump,nV aA.on,.slice aG aA.next_.length aH] 49,ow [.slice aM aE.length aN] aE,ow [sV cG cH ar.length bQ] ar] rfl mxo (by kernel_rfl) (λ_ _ _ h=>h.2) λw hm hS=>tP rfl (λw=>yM rfl) (tP rfl (λw=>yM rfl) (tP rfl (λw=>yG rfl (y_nilptr rfl rfl)) (tP rfl (λw=>yF fo_49_1 rfl) (tP rfl (λw=>yM rfl) (tQ rfl hS (λw hm=>yl isAgg46 ((hm.holeE_at 3 rfl).cell (j:=1) rfl) rfl) (tO (tY rfl (yL hm 9 isAgg3 rfl) (tAs hS (tP rfl (λw=>yB rfl) (tP rfl (λw=>yG rfl (y_build (vs:=[(0,(nV 1)),(1,(nV (w64 (c_.regs+be))))]) (cs:=#[nV 1,nV (w64 (c_.regs+be)),.slice none 0 0,nV 0]) rfl rfl (by kernel_rfl))) (tO (tf rfl rfl (λa hf=>e_build (vs:=#[(0,(.agg #[nV 1,nV (w64 (c_.regs+be)),.slice none 0 0,nV 0]))]) (cs:=[nV 1,nV (w64 (c_.regs+be)),.slice none 0 0,nV 0]) et_46 hf hm rfl rfl (by kernel_rfl) rfl rfl) ?_))))))))))))
      rintro _ w ⟨fT,rfl,hm⟩
      replace hm:=hm.els_nil (α:=Ins_)
      replace hm:=hm.nilow (α:=Int)
      replace hm:Mem w0 aq _ [ow [nV 1,nV (w64 (c_.regs+be)),.slice none 0 0,nV 0] ((⟨1,w64 (c_.regs+be),[],0⟩:Ins_):Ins_),els [] ([]:List Ins_),blk fT [nV 1,nV (w64 (c_.regs+be)),.slice none 0 0,nV 0] 51,blk aV [nV f.params,nV f.regs,.slice aa f.blocks.length aZ] 44,blk aI [nV 0,nV 0,.slice none 0 0] 44,blk aJ [nV aC.params,nV (w64 (aC.regs+f.regs)),sV aK aL aC.blocks.length aO] 44,holeE aK aL aC.blocks.length aO (aC.blocks:List Block_) (b_).toNat [aP,bd,nV aA.jump,nV aA.on,.slice aG aA.next_.length aH],ow [aP] aA.phis,ow [bd] cF,ow [.slice aG aA.next_.length aH] aA.next_,blk aW [nV aB.op,nV aB.to,.slice aX aB.args.length aQ,nV aB.n_] 51,ow [.slice aX aB.args.length aQ] aB.args,blk aT [nV c_.regs] 3,ow [.slice ab aF.length aR] aF,blk aY [.slice none 0 0,.slice aM aE.length aN,nV aA.jump,nV aA.on,.slice aG aA.next_.length aH] 49,ow [.slice aM aE.length aN] aE,ow [sV cG cH ar.length bQ] ar]:=mk_Ins_ 1 (w64 (c_.regs+be)) 0 hm 0 rfl
      replace hm:=(hm.els_cons 1 0 (by decide) rfl rfl).pk (L':=[_,_,_,_,_,_,_,_,_,_,_,_,_,_,_,_]) [1,2,3,4,5,6,7,8,9,10,11,12,13,14,15,16] rfl rfl
      replace hm:=(hm.lit_els 1 0 (by decide) rfl rfl rfl rfl).pk (L':=[_,_,_,_,_,_,_,_,_,_,_,_,_,_,_]) [1,2,3,4,5,6,7,8,9,10,11,12,13,14,15] rfl rfl
      refine tAk hm [1,2,3,4,5,6,7,8,9,10,11,12,13,14] rfl λhS=>tO (gb λfU fV=>?_)
      obtain ⟨fW,fX⟩:=appM_some.1 fV
      replace hm:=(hm.both 6 0 (by decide) rfl rfl).pk (L':=[_,_,_,_,_,_,_,_,_,_,_,_,_,_]) [1,2,3,4,5,6,7,8,9,10,11,12,13,14] rfl rfl
      refine tf rfl rfl (λa hf=>e_appendD (xs:=cF) (ys:=([(⟨1,w64 (c_.regs+be),[],0⟩:Ins_)]:List Ins_)) 5 et_46 hf hm rfl rfl rfl rfl fW) ?_
      rintro c6 w hm
      rw [fX] at hm
      refine tAn rfl (tP rfl (λw=>yG rfl (y_nilptr rfl rfl)) (tP rfl (λw=>yF fo_49_1 rfl) (tO ?_)))
      have eP:∀ u∈([c6]:List Value),u.oneCell'=true:=(one_cons (rep_one (hm.ow_rep 5 rfl)) one_nil)
      refine tf0 rfl rfl (λa hf=>e_storeH (j:=1) (vs:=[c6]) 3 hf hm rfl rfl rfl sizeOf46 rfl rfl (cells_one (eP _ (List.mem_singleton.2 rfl))) eP rfl) ?_
      rintro _ w hm
      replace hm:Mem w0 aq _ [blk aV [nV f.params,nV f.regs,.slice aa f.blocks.length aZ] 44,blk aI [nV 0,nV 0,.slice none 0 0] 44,blk aJ [nV aC.params,nV (w64 (aC.regs+f.regs)),sV aK aL aC.blocks.length aO] 44,holeE aK aL aC.blocks.length aO (aC.blocks:List Block_) (b_).toNat [aP,c6,nV aA.jump,nV aA.on,.slice aG aA.next_.length aH],ow [aP] aA.phis,ow [c6] fU,ow [.slice aG aA.next_.length aH] aA.next_,blk aW [nV aB.op,nV aB.to,.slice aX aB.args.length aQ,nV aB.n_] 51,ow [.slice aX aB.args.length aQ] aB.args,blk aT [nV c_.regs] 3,ow [.slice ab aF.length aR] aF,blk aY [.slice none 0 0,.slice aM aE.length aN,nV aA.jump,nV aA.on,.slice aG aA.next_.length aH] 49,ow [.slice aM aE.length aN] aE,ow [sV cG cH ar.length bQ] ar]:=hm
      exact tAn rfl (tE (gZ λa hf=>⟨c6,hf.sb rfl,hm.pk [0,1,2,3,4,5,6,7,8,9,10,11,12,13] rfl rfl⟩))
     exact gcf rfl (gSk (gZ λa hf=>⟨bd,hf.sb rfl,hm.pk [0,1,2,3,4,5,6,7,8,9,10,11,12,13] rfl rfl⟩))
    repeat clear hm
    rintro de a w ⟨cr,hf,hm⟩
    exact gv hf (gZ λa hf=>⟨cr,hf.sb rfl,hm.pk [0,1,2,3,4,5,6,7,8,9,10,11,12,13] rfl rfl⟩)
   repeat clear hm
   rintro dc a w ⟨cq,hf,hm⟩
   exact gv hf (gR (gP (by omega) (by omega) rfl (gM rfl (gE (gZe λa hf=>⟨cq,hf.sb rfl,hm.pk [0,1,2,3,4,5,6,7,8,9,10,11,12,13] rfl rfl⟩)))))
  repeat clear hm
  rintro jE c7 a w ⟨cI,hf,hm⟩ jF jG
  refine gv hf (gS (gR (gB rfl (gE (gS (go _ 130 rfl (decide_eq_false (by omega)) (gcf rfl (gXt (gHh (gS (gR (gM rfl (gM rfl (gM rfl (gM rfl (gf rfl (λa hf=>e_build (vs:=#[(0,(nV ((c_.blocks.length:Int))))]) (cs:=[nV ((c_.blocks.length:Int))]) et_47 hf hm rfl rfl (by kernel_rfl) rfl rfl) ?_))))))))))))))))
  rintro _ w ⟨cJ,rfl,hm⟩
  replace hm:=hm.lit (xs:=([(c_.blocks.length:Int)]:List Int)) 0 rfl rfl rfl rfl
  refine gY (yG rfl (y_nilptr rfl rfl)) (gF fo_49_2 rfl ?_)
  have fY:∀ u∈([nV 1]:List Value),u.oneCell'=true:=(one_cons rfl one_nil)
  refine gf0 rfl (λa hf=>e_storeH (j:=2) (vs:=[nV 1]) 4 hf hm rfl rfl rfl sizeOf3 rfl rfl rfl fY rfl) ?_
  rintro _ w hm
  replace hm:Mem w0 aq _ [ow [sV cJ 0 1 1] ([(c_.blocks.length:Int)]:List Int),blk aV [nV f.params,nV f.regs,.slice aa f.blocks.length aZ] 44,blk aI [nV 0,nV 0,.slice none 0 0] 44,blk aJ [nV aC.params,nV (w64 (aC.regs+f.regs)),sV aK aL aC.blocks.length aO] 44,holeE aK aL aC.blocks.length aO (aC.blocks:List Block_) (b_).toNat [aP,cI,nV 1,nV aA.on,.slice aG aA.next_.length aH],ow [aP] aA.phis,ow [cI] c7,ow [.slice aG aA.next_.length aH] aA.next_,blk aW [nV aB.op,nV aB.to,.slice aX aB.args.length aQ,nV aB.n_] 51,ow [.slice aX aB.args.length aQ] aB.args,blk aT [nV c_.regs] 3,ow [.slice ab aF.length aR] aF,blk aY [.slice none 0 0,.slice aM aE.length aN,nV aA.jump,nV aA.on,.slice aG aA.next_.length aH] 49,ow [.slice aM aE.length aN] aE,ow [.slice bu ar.length bQ] ar]:=hm
  refine gY (yG rfl (y_nilptr rfl rfl)) (gF fo_49_3 rfl ?_)
  have fZ:∀ u∈([nV 0]:List Value),u.oneCell'=true:=(one_cons rfl one_nil)
  refine gf0 rfl (λa hf=>e_storeH (j:=3) (vs:=[nV 0]) 4 hf hm rfl rfl rfl sizeOf3 rfl rfl rfl fZ rfl) ?_
  rintro _ w hm
  replace hm:Mem w0 aq _ [ow [sV cJ 0 1 1] ([(c_.blocks.length:Int)]:List Int),blk aV [nV f.params,nV f.regs,.slice aa f.blocks.length aZ] 44,blk aI [nV 0,nV 0,.slice none 0 0] 44,blk aJ [nV aC.params,nV (w64 (aC.regs+f.regs)),sV aK aL aC.blocks.length aO] 44,holeE aK aL aC.blocks.length aO (aC.blocks:List Block_) (b_).toNat [aP,cI,nV 1,nV 0,.slice aG aA.next_.length aH],ow [aP] aA.phis,ow [cI] c7,ow [.slice aG aA.next_.length aH] aA.next_,blk aW [nV aB.op,nV aB.to,.slice aX aB.args.length aQ,nV aB.n_] 51,ow [.slice aX aB.args.length aQ] aB.args,blk aT [nV c_.regs] 3,ow [.slice ab aF.length aR] aF,blk aY [.slice none 0 0,.slice aM aE.length aN,nV aA.jump,nV aA.on,.slice aG aA.next_.length aH] 49,ow [.slice aM aE.length aN] aE,ow [.slice bu ar.length bQ] ar]:=hm
  refine gY (yG rfl (y_nilptr rfl rfl)) (gF fo_49_4 rfl ?_)
  have eQ:∀ u∈([sV cJ 0 1 1]:List Value),u.oneCell'=true:=(one_cons rfl one_nil)
  refine gf0 rfl (λa hf=>e_storeH (j:=4) (vs:=[sV cJ 0 1 1]) 4 hf hm rfl rfl rfl sizeOf47 rfl rfl (cells_one (eQ _ (List.mem_singleton.2 rfl))) eQ rfl) ?_
  rintro _ w hm
  replace hm:Mem w0 aq _ [ow [sV cJ 0 1 1] ([(c_.blocks.length:Int)]:List Int),blk aV [nV f.params,nV f.regs,.slice aa f.blocks.length aZ] 44,blk aI [nV 0,nV 0,.slice none 0 0] 44,blk aJ [nV aC.params,nV (w64 (aC.regs+f.regs)),sV aK aL aC.blocks.length aO] 44,holeE aK aL aC.blocks.length aO (aC.blocks:List Block_) (b_).toNat [aP,cI,nV 1,nV 0,sV cJ 0 1 1],ow [aP] aA.phis,ow [cI] c7,ow [.slice aG aA.next_.length aH] aA.next_,blk aW [nV aB.op,nV aB.to,.slice aX aB.args.length aQ,nV aB.n_] 51,ow [.slice aX aB.args.length aQ] aB.args,blk aT [nV c_.regs] 3,ow [.slice ab aF.length aR] aF,blk aY [.slice none 0 0,.slice aM aE.length aN,nV aA.jump,nV aA.on,.slice aG aA.next_.length aH] 49,ow [.slice aM aE.length aN] aE,ow [.slice bu ar.length bQ] ar]:=hm
  refine gE (gS (gS ?_))
  replace hm:=(mk_Block_ 1 0 hm 5 6 0 rfl).pk (L':=[_,_,_,_,_,_,_,_,_,_,_,_,_]) [1,2,3,4,5,7,8,9,10,11,12,13,14] rfl rfl
  replace hm:=(hm.shutE (y:=((⟨aA.phis,c7,1,0,([(c_.blocks.length:Int)]:List Int)⟩:Block_):Block_)) 3 4 (by decide) rfl rfl).pk (L':=[_,_,_,_,_,_,_,_,_,_,_,_]) [0,1,2,3,5,6,7,8,9,10,11,12] rfl rfl
  have jH:=List.getElem?_set_self (a:=((⟨aA.phis,c7,1,0,([(c_.blocks.length:Int)]:List Int)⟩:Block_):Block_)) (idx_lt bt)
  refine gR (gY (yn (hm.blk_at 0 rfl) isAgg44 sizeOf44 rfl) (gCg rfl call51 (impl_cloneCode_ok _ f (.slice aa f.blocks.length aZ) (hm.now (GT.mono cZ h2))) ?_))
  rintro af jI jJ w ⟨jK,rfl,hB⟩
  replace hm:=hm.give hB;clear hB
  refine gY (yG rfl (y_field1 underlying44 rfl rfl isAgg42 rfl rfl rfl)) ?_
  obtain ⟨df,bO,rfl,jL⟩:=ro_slice (hm.ow_rep 0 rfl)
  refine gY (yV st_42 rfl) (gM rfl (gE ?_))
  replace hm:=hm.drnV0 0 rfl
  refine gBk (gNg (λbP ak a w=>∃ (c8:Value),St 306 [(2,(nV b_)),(5,(pV aV)),(8,(pV aI)),(9,(pV aJ)),(10,(pV aW)),(11,(pV aT)),(12,(nV ((c_.blocks.length:Int)))),(13,(nV (((c_.blocks.length:Int))+((f.blocks.length:Int))))),(14,(.slice ab aF.length aR)),(16,(pV aY)),(164,(.slice df af.blocks.length bO)),(165,(nV ((af.blocks.length:Int)))),(166,(nV bP))] w0 aq [blk aV [nV f.params,nV f.regs,.slice aa f.blocks.length aZ] 44,blk aI [nV 0,nV 0,.slice none 0 0] 44,blk aJ [nV aC.params,nV (w64 (aC.regs+f.regs)),c8] 44,ow [c8] ak,blk aW [nV aB.op,nV aB.to,.slice aX aB.args.length aQ,nV aB.n_] 51,ow [.slice aX aB.args.length aQ] aB.args,blk aT [nV c_.regs] 3,ow [.slice ab aF.length aR] aF,blk aY [.slice none 0 0,.slice aM aE.length aN,nV aA.jump,nV aA.on,.slice aG aA.next_.length aH] 49,ow [.slice aM aE.length aN] aE,ow [.slice aG aA.next_.length aH] aA.next_,drnV (.slice df af.blocks.length bO) (af.blocks:List Block_) (bP)] a w) (λa hf=>⟨sV aK aL aC.blocks.length aO,hf.sb rfl,hm.pk [1,2,3,4,6,7,8,9,10,11,5,0] rfl rfl⟩) ?_ ?_)
  ·repeat clear hm
   rintro _ _ bP ak a w ⟨c8,hf,hm⟩ jM jN jO _
   refine gv hf (gS (gR (gB rfl (gE (gS (go _ 167 rfl (decide_eq_true (by omega)) (gct rfl (gSk (gS (gBk (gS (gR (gg λaD eR ct=>?_)))))))))))))
   obtain ⟨bR,bS,jP,he⟩:=hm.drn_form 11 rfl ct
   obtain ⟨rfl,_,rfl⟩:=sl3 he
   obtain ⟨_,f8,hm⟩:=hm.drn_pin 11 rfl ct
   have f9:=hm.ow_rep 0 rfl
   obtain ⟨_,_,rfl,cu,_,_,rfl,cv,_,_,rfl,rfl,_,_,rfl,rfl,cw⟩:=f9
   obtain ⟨c9,rfl,-⟩:=id cu
   replace cu:GT.rep (hp _) [c9] aD.phis:=cu
   obtain ⟨bv,rfl,-⟩:=id cv
   replace cv:GT.rep (hp _) [bv] aD.ins:=cv
   obtain ⟨ba,rfl,-⟩:=id cw
   replace cw:GT.rep (hp _) [ba] aD.next_:=cw
   clear f8 cu cv cw
   replace hm:Mem w0 aq _ [ow [c9,bv,nV aD.jump,nV aD.on,ba] (aD:Block_),blk aV [nV f.params,nV f.regs,.slice aa f.blocks.length aZ] 44,blk aI [nV 0,nV 0,.slice none 0 0] 44,blk aJ [nV aC.params,nV (w64 (aC.regs+f.regs)),c8] 44,ow [c8] ak,blk aW [nV aB.op,nV aB.to,.slice aX aB.args.length aQ,nV aB.n_] 51,ow [.slice aX aB.args.length aQ] aB.args,blk aT [nV c_.regs] 3,ow [.slice ab aF.length aR] aF,blk aY [.slice none 0 0,.slice aM aE.length aN,nV aA.jump,nV aA.on,.slice aG aA.next_.length aH] 49,ow [.slice aM aE.length aN] aE,ow [.slice aG aA.next_.length aH] aA.next_,drnH bR bS af.blocks.length bO (af.blocks:List Block_) (bP).toNat [c9,bv,nV aD.jump,nV aD.on,ba]]:=hm
   replace hm:=hm.imp (c':=ow ([c9]++[bv,nV aD.jump,nV aD.on,ba]) ((aD.phis,(aD.ins,aD.jump,aD.on,aD.next_)):(List Phi_) × (List Ins_) × Int × Int × (List Int))) 0 rfl (λF h0=>h0)
   replace hm:=Mem.unpair (α:=List Phi_) (β:=(List Ins_) × Int × Int × (List Int)) (c:=[c9]) (d:=[bv,nV aD.jump,nV aD.on,ba]) (x:=aD.phis) (y:=(aD.ins,aD.jump,aD.on,aD.next_)) hm 0 rfl rfl
   replace hm:=hm.imp (c':=ow ([bv]++[nV aD.jump,nV aD.on,ba]) ((aD.ins,(aD.jump,aD.on,aD.next_)):(List Ins_) × Int × Int × (List Int))) 0 rfl (λF h0=>h0)
   replace hm:=Mem.unpair (α:=List Ins_) (β:=Int × Int × (List Int)) (c:=[bv]) (d:=[nV aD.jump,nV aD.on,ba]) (x:=aD.ins) (y:=(aD.jump,aD.on,aD.next_)) hm 0 rfl rfl
   replace hm:=hm.imp (c':=ow ([nV aD.jump]++[nV aD.on,ba]) ((aD.jump,(aD.on,aD.next_)):Int × Int × (List Int))) 0 rfl (λF h0=>h0)
   replace hm:=Mem.unpair (α:=Int) (β:=Int × (List Int)) (c:=[nV aD.jump]) (d:=[nV aD.on,ba]) (x:=aD.jump) (y:=(aD.on,aD.next_)) hm 0 rfl rfl
   replace hm:=hm.imp (c':=ow ([nV aD.on]++[ba]) ((aD.on,aD.next_):Int × (List Int))) 0 rfl (λF h0=>h0)
   replace hm:=Mem.unpair (α:=Int) (β:=(List Int)) (c:=[nV aD.on]) (d:=[ba]) (x:=aD.on) (y:=aD.next_) hm 0 rfl rfl
   replace hm:=hm.pk (L':=[_,_,_,_,_,_,_,_,_,_,_,_,_,_,_]) [0,3,4,5,6,7,8,9,10,11,12,13,14,15,16] rfl rfl
   have hL1_1:=hm.drnH_len 14 rfl
   refine gI st_42 eR (idx_lt2 ct hL1_1) rfl (gY (yn (hm.drnH_at 14 rfl) isAgg49 sizeOf49 rfl) (gAl hm zeroValue49 rfl λbZ w hm=>gSN hm 0 sizeOf49 (one_cons (rep_one (hm.ow_rep 3 rfl)) (one_cons (rep_one (hm.ow_rep 2 rfl)) (one_cons rfl (one_cons rfl (one_cons (rep_one (hm.ow_rep 1 rfl)) one_nil))))) rfl λw hm=>gE (gS (gS ?_))))
   replace hm:=hm.drnH_gone 15 rfl eR ct
   refine gR (gF fo_49_4 rfl (gL hm 0 isAgg47 rfl ?_))
   obtain ⟨bD,bE,rfl,jQ⟩:=ro_slice (hm.ow_rep 1 rfl)
   refine gY (yV st_47 rfl) (gM rfl (gE ?_))
   obtain ⟨bH,bJ,rfl,jR⟩:=ro_slice (hm.ow_rep 7 rfl)
   obtain ⟨ax,ay,rfl,jS⟩:=ro_slice (hm.ow_rep 3 rfl)
   obtain ⟨bF,bG,rfl,jT⟩:=ro_slice (hm.ow_rep 2 rfl)
   refine gBk (gNf hm (λdg dh=>[(2,(nV b_)),(5,(pV aV)),(8,(pV aI)),(9,(pV aJ)),(10,(pV aW)),(11,(pV aT)),(12,(nV ((c_.blocks.length:Int)))),(13,(nV (((c_.blocks.length:Int))+((f.blocks.length:Int))))),(14,(.slice ab aF.length aR)),(16,(pV aY)),(22,(pV bZ)),(164,(sV bR bS af.blocks.length bO)),(165,(nV ((af.blocks.length:Int)))),(166,(nV bP)),(172,(nV ((aD.next_.length:Int)))),(173,(nV dg))]) (λdg dh=>[blk aV [nV f.params,nV f.regs,.slice aa f.blocks.length aZ] 44,blk aI [nV 0,nV 0,.slice none 0 0] 44,blk aJ [nV aC.params,nV (w64 (aC.regs+f.regs)),.slice bH ak.length bJ] 44,ow [.slice bH ak.length bJ] ak,blk aW [nV aB.op,nV aB.to,.slice aX aB.args.length aQ,nV aB.n_] 51,ow [.slice aX aB.args.length aQ] aB.args,blk aT [nV c_.regs] 3,ow [.slice ab aF.length aR] aF,blk aY [.slice none 0 0,.slice aM aE.length aN,nV aA.jump,nV aA.on,.slice aG aA.next_.length aH] 49,ow [.slice aM aE.length aN] aE,ow [.slice aG aA.next_.length aH] aA.next_,blk bZ [.slice ax aD.phis.length ay,.slice bF aD.ins.length bG,nV aD.jump,nV aD.on,.slice bD aD.next_.length bE] 49,ow [.slice ax aD.phis.length ay] aD.phis,ow [.slice bF aD.ins.length bG] aD.ins,ow [.slice bD aD.next_.length bE] dh,drnS (sV bR bS af.blocks.length bO) (af.blocks:List Block_) (bP)]) [4,5,6,7,8,9,10,11,12,13,14,0,3,2,1,15] rfl ?_ ?_)
   ·repeat clear hm
    intro _ _ dg dh w hm jU jV jW _
    refine gS (gR (gB rfl (gE (gS (go _ 174 rfl (decide_eq_true (by omega)) (gct rfl (gSk (gS (gBk (gS (gR (gM rfl (gA rfl (gE (gR (gF fo_49_4 rfl (gL hm 11 isAgg47 rfl (gM rfl (gg λcx eS cK=>?_)))))))))))))))))))
    obtain ⟨jX,jY,jZ,he⟩:=idx_form (hm.ow_rep 14 rfl) cK
    obtain ⟨rfl,_,rfl⟩:=sl3 he
    have hL2_1:=rep_slice_len (hm.ow_rep 14 rfl)
    refine gI st_47 eS (idx_lt2 cK hL2_1) rfl (gY (yl isAgg3 ((flat_cells (cs:=[nV cx]) (hm.ow_rep 14 rfl) cK rfl).cell (j:=0) rfl) rfl) (gM rfl (gB rfl ?_)))
    have hL2_2:=rep_slice_len (hm.ow_rep 14 rfl)
    refine gI st_47 eS (idx_lt2 cK hL2_2) rfl (gf0 rfl (λa hf=>e_setElem (x1:=w64 (cx+((c_.blocks.length:Int)))) (j:=0) (vs:=[nV (w64 (cx+((c_.blocks.length:Int))))]) 14 hf hm rfl cK rfl sizeOf3 rfl rfl rfl (one_cons rfl one_nil) rfl rfl) ?_)
    rintro _ w hm
    have j4:=List.getElem?_set_self (a:=w64 (cx+((c_.blocks.length:Int)))) (idx_lt cK)
    exact gE (gR (gP (by omega) (by omega) rfl (gM rfl (gE (gze hm [0,1,2,3,4,5,6,7,8,9,10,11,12,13,14,15] rfl)))))
   repeat clear hm
   intro j5 eT w hm j6 j7
   refine gS (gR (gB rfl (gE (gS (go _ 174 rfl (decide_eq_false (by omega)) (gcf rfl (gXt (gHh (gS (gR (gY (yn (hm.blk_at 11 rfl) isAgg49 sizeOf49 rfl) (gf rfl (λa hf=>e_build (vs:=#[(0,(.agg #[.slice ax aD.phis.length ay,.slice bF aD.ins.length bG,nV aD.jump,nV aD.on,.slice bD aD.next_.length bE]))]) (cs:=[.slice ax aD.phis.length ay,.slice bF aD.ins.length bG,nV aD.jump,nV aD.on,.slice bD aD.next_.length bE]) et_42 hf hm rfl rfl (by kernel_rfl) rfl rfl) ?_))))))))))))
   rintro _ w ⟨ca,rfl,hm⟩
   have fa:CellsAt (hp _) ca 0 [.slice ax aD.phis.length ay,.slice bF aD.ins.length bG,nV aD.jump,nV aD.on,.slice bD aD.next_.length bE]:=hm.blk_part (i:=0) 0 rfl rfl
   have fb:=isSl (hm.ow_rep 13 rfl)
   have fc:=isSl (hm.ow_rep 14 rfl)
   have fd:=isSl (hm.ow_rep 15 rfl)
   replace hm:=hm.els_nil (α:=Block_)
   replace hm:=(mk_Block_ aD.jump aD.on hm 14 15 16 rfl).pk (L':=[_,_,_,_,_,_,_,_,_,_,_,_,_,_,_,_]) [0,1,2,3,4,5,6,7,8,9,10,11,12,13,14,17] rfl rfl
   replace hm:=(hm.els_cons 0 14 (by decide) rfl rfl).pk (L':=[_,_,_,_,_,_,_,_,_,_,_,_,_,_,_]) [0,1,2,3,4,5,6,7,8,9,10,11,12,13,15] rfl rfl
   replace hm:=(hm.lit_els 1 0 (by decide) rfl rfl rfl rfl).pk (L':=[_,_,_,_,_,_,_,_,_,_,_,_,_,_]) [1,2,3,4,5,6,7,8,9,10,11,12,13,14] rfl rfl
   refine gY (yG rfl (y_build (vs:=[(2,(sV ca 0 1 1))]) (cs:=#[nV 0,nV 0,sV ca 0 1 1]) rfl rfl (by kernel_rfl))) (gY (yU rfl) ?_)
   obtain ⟨fe,hle,hm1,hsub,ff⟩:=hm.take2 (L1:=[ow [sV ca 0 1 1] ([(⟨aD.phis,aD.ins,aD.jump,aD.on,eT⟩:Block_)]:List Block_)]) (L2:=[blk aV [nV f.params,nV f.regs,.slice aa f.blocks.length aZ] 44,blk aI [nV 0,nV 0,.slice none 0 0] 44,blk aJ [nV aC.params,nV (w64 (aC.regs+f.regs)),.slice bH ak.length bJ] 44,ow [.slice bH ak.length bJ] ak,blk aW [nV aB.op,nV aB.to,.slice aX aB.args.length aQ,nV aB.n_] 51,ow [.slice aX aB.args.length aQ] aB.args,blk aT [nV c_.regs] 3,ow [.slice ab aF.length aR] aF,blk aY [.slice none 0 0,.slice aM aE.length aN,nV aA.jump,nV aA.on,.slice aG aA.next_.length aH] 49,ow [.slice aM aE.length aN] aE,ow [.slice aG aA.next_.length aH] aA.next_,blk bZ [.slice ax aD.phis.length ay,.slice bF aD.ins.length bG,nV aD.jump,nV aD.on,.slice bD aD.next_.length bE] 49,drnS (sV bR bS af.blocks.length bO) (af.blocks:List Block_) (bP)]) [0] [1,2,3,4,5,6,7,8,9,10,11,12,13] (by decide) rfl rfl
   refine gCg rfl call57 (impl_eachReg_ok _ fe (⟨0,0,([(⟨aD.phis,aD.ins,aD.jump,aD.on,eT⟩:Block_)]:List Block_)⟩:Code_) (.func (.func 58) #[] #[(pV aT)]) (sV ca 0 1 1) (λy0=>impl_inlined_1 y0 c_.regs) hm1 (visit_of λw hz3 h0 b i x y hle3 hm3 hf3=>(FnOk.mono (⟨58,[(pV aT)],rfl,call58,impl_inlined_1_ok w hz3 x h0 b i c_.regs aT (hle3 _ _ (fz_blk (hsub 6 _ rfl))) hm3 _ hf3⟩) λ_ _ h=>h.2))) ?_
   rintro j8 j9 _ w ⟨rfl,eU⟩
   replace hm:=ff _ _ eU
   clear eU
   refine gb λbB fg=>?_
   replace hm:=er_pieces hm (getI_some.1 fg).2 fa fb fc fd
   replace hm:=hm.pk (L':=[_,_,_,_,_,_,_,_,_,_,_,_,_,_,_,_]) [0,3,4,5,6,7,8,9,10,11,12,13,14,15,16,17] rfl rfl
   refine gE (gS (gS (gR (gF fo_49_2 rfl (gL hm 14 isAgg3 rfl (gB rfl (gE (gJg (λbK a w=>∃ (cL cM:Value),St 306 [(2,(nV b_)),(5,(pV aV)),(8,(pV aI)),(9,(pV aJ)),(10,(pV aW)),(11,(pV aT)),(12,(nV ((c_.blocks.length:Int)))),(13,(nV (((c_.blocks.length:Int))+((f.blocks.length:Int))))),(14,(.slice ab aF.length aR)),(16,(pV aY)),(22,(pV bZ)),(164,(sV bR bS af.blocks.length bO)),(165,(nV ((af.blocks.length:Int)))),(166,(nV bP))] w0 aq [blk aV [nV f.params,nV f.regs,.slice aa f.blocks.length aZ] 44,blk aI [nV 0,nV 0,.slice none 0 0] 44,blk aJ [nV aC.params,nV (w64 (aC.regs+f.regs)),.slice bH ak.length bJ] 44,ow [.slice bH ak.length bJ] ak,blk aW [nV aB.op,nV aB.to,.slice aX aB.args.length aQ,nV aB.n_] 51,ow [.slice aX aB.args.length aQ] aB.args,blk aT [nV c_.regs] 3,ow [.slice ab aF.length aR] aF,blk aY [.slice none 0 0,.slice aM aE.length aN,nV aA.jump,nV aA.on,.slice aG aA.next_.length aH] 49,ow [.slice aM aE.length aN] aE,ow [.slice aG aA.next_.length aH] aA.next_,blk bZ [.slice ax aD.phis.length ay,cL,nV bK.2.1,nV bK.2.2.1,cM] 49,ow [.slice ax aD.phis.length ay] bB.phis,ow [cL] bK.1,ow [cM] bK.2.2.2,drnS (sV bR bS af.blocks.length bO) (af.blocks:List Block_) (bP)] a w) (λbK=>?_) ?_))))))))
   ·refine gsd 192 rfl (fun fh => ?_) fun fh => ?_
    ·refine gct rfl (gS ?_)
     replace hm:Mem w0 aq _ [ow [.slice bD aD.next_.length bE] bB.next_,ow [.slice bF aD.ins.length bG] bB.ins,ow [.slice ax aD.phis.length ay] bB.phis,blk aV [nV f.params,nV f.regs,.slice aa f.blocks.length aZ] 44,blk aI [nV 0,nV 0,.slice none 0 0] 44,blk aJ [nV aC.params,nV (w64 (aC.regs+f.regs)),.slice bH ak.length bJ] 44,ow [.slice bH ak.length bJ] ak,blk aW [nV aB.op,nV aB.to,.slice aX aB.args.length aQ,nV aB.n_] 51,ow [.slice aX aB.args.length aQ] aB.args,blk aT [nV c_.regs] 3,ow [.slice ab aF.length aR] aF,blk aY [.slice none 0 0,.slice aM aE.length aN,nV aA.jump,nV aA.on,.slice aG aA.next_.length aH] 49,ow [.slice aM aE.length aN] aE,ow [.slice aG aA.next_.length aH] aA.next_,blk bZ [.slice ax aD.phis.length ay,.slice bF aD.ins.length bG,nV aD.jump,nV aD.on,.slice bD aD.next_.length bE] 49,drnS (sV bR bS af.blocks.length bO) (af.blocks:List Block_) (bP)]:=hm
     refine gW (.p 0 (.p 2 (.p 4 (.p 6 (.p 9 (.q 1 (.q 3 (.q 5 (.q 7 (.p 8 (.p 10 (.p 11 (.p 12 (.q 14 (.e 13 (.p 15 (.e 16 (.p 17 (.e 18 (.e 19 (.p 20 (.e 21 .fin .nil)) .nil) .nil)) .nil)) .nil))))))))))))))) [1,3,5,7,13,14,16,18] [0,2,4,6,8,9,10,11,12,15,17,20] hm [0,1,2,3,4,5,6,7,8,9,10,11,12,13,14,15] [ow [.slice bD aD.next_.length bE] bB.next_,ow [.slice bF aD.ins.length bG] bB.ins,ow [.slice ax aD.phis.length ay] bB.phis,blk aV [nV f.params,nV f.regs,.slice aa f.blocks.length aZ] 44,blk aI [nV 0,nV 0,.slice none 0 0] 44,blk aJ [nV aC.params,nV (w64 (aC.regs+f.regs)),.slice bH ak.length bJ] 44,ow [.slice bH ak.length bJ] ak,blk aW [nV aB.op,nV aB.to,.slice aX aB.args.length aQ,nV aB.n_] 51,ow [.slice aX aB.args.length aQ] aB.args,blk aT [nV c_.regs] 3,ow [.slice ab aF.length aR] aF,blk aY [.slice none 0 0,.slice aM aE.length aN,nV aA.jump,nV aA.on,.slice aG aA.next_.length aH] 49,ow [.slice aM aE.length aN] aE,ow [.slice aG aA.next_.length aH] aA.next_,blk bZ [.slice ax aD.phis.length ay,.slice bF aD.ins.length bG,nV aD.jump,nV aD.on,.slice bD aD.next_.length bE] 49,drnS (sV bR bS af.blocks.length bO) (af.blocks:List Block_) (bP)] rfl mxo (by kernel_rfl) (λ_ _ _ h=>h.2) λw hm hS=>tP rfl (λw=>yF fo_49_1 rfl) (tP rfl (λw=>yF fo_51_1 rfl) (tP rfl (λw=>yF fo_44_2 rfl) (tP rfl (λw=>yF fo_44_2 rfl) (tP rfl (λw=>yM rfl) (tQ rfl hS (λw hm=>yL hm 14 isAgg46 rfl) (tQ rfl hS (λw hm=>yL hm 7 isAgg3 rfl) (tQ rfl hS (λw hm=>yL hm 3 isAgg42 rfl) (tQ rfl hS (λw hm=>yL hm 5 isAgg42 rfl) (tP rfl (λw=>yV st_42 rfl) (tP rfl (λw=>yS (by omega) (by omega) rfl) (gg λcb fj di=>?_)))))))))))
     obtain ⟨fk,fm,ja,he⟩:=idx_form' h2 di
     obtain ⟨rfl,_,rfl⟩:=sl3 he
     obtain ⟨jc,jd,je,fo,jf,jg,jh⟩:=rk_Block_ h2 di
     refine tP rfl (λw=>yI st_42 fj (idx_lt di) rfl) (tP rfl (λw=>yF fo_49_3 rfl) (tQ rfl hS (λw hm=>yL hm 9 isAgg3 rfl) (tO (tY rfl (yl isAgg3 ((fo.mono (Heap.le_trans cZ hm.lez)).cell (j:=3) rfl) rfl) (tAs hS (tP rfl (λw=>yB rfl) (tO (tf rfl rfl (λa hf=>e_build (vs:=#[(0,(nV (w64 (cb.on+c_.regs))))]) (cs:=[nV (w64 (cb.on+c_.regs))]) et_47 hf hm rfl rfl (by kernel_rfl) rfl rfl) ?_))))))))
     rintro _ w ⟨cN,rfl,hm⟩
     replace hm:=hm.lit (xs:=([w64 (cb.on+c_.regs)]:List Int)) 0 rfl rfl rfl rfl
     refine tAk hm [1,2,3,4,5,6,7,8,9,10,11,12,13,14,15,16] rfl λhS=>tP rfl (λw=>yG rfl (y_build (vs:=[(0,(nV 2)),(1,(nV aB.to)),(2,(sV cN 0 1 1))]) (cs:=#[nV 2,nV aB.to,sV cN 0 1 1,nV 0]) rfl rfl (by kernel_rfl))) (tO (tf rfl rfl (λa hf=>e_build (vs:=#[(0,(.agg #[nV 2,nV aB.to,sV cN 0 1 1,nV 0]))]) (cs:=[nV 2,nV aB.to,sV cN 0 1 1,nV 0]) et_46 hf hm rfl rfl (by kernel_rfl) rfl rfl) ?_))
     rintro _ w ⟨fp,rfl,hm⟩
     replace hm:=hm.els_nil (α:=Ins_)
     replace hm:Mem w0 aq _ [els [] ([]:List Ins_),blk fp [nV 2,nV aB.to,sV cN 0 1 1,nV 0] 51,ow [nV 2,nV aB.to,sV cN 0 1 1,nV 0] ((⟨2,aB.to,([w64 (cb.on+c_.regs)]:List Int),0⟩:Ins_):Ins_),ow [.slice bD aD.next_.length bE] bB.next_,ow [.slice bF aD.ins.length bG] bB.ins,ow [.slice ax aD.phis.length ay] bB.phis,blk aV [nV f.params,nV f.regs,sV fk fm f.blocks.length aZ] 44,blk aI [nV 0,nV 0,.slice none 0 0] 44,blk aJ [nV aC.params,nV (w64 (aC.regs+f.regs)),.slice bH ak.length bJ] 44,ow [.slice bH ak.length bJ] ak,blk aW [nV aB.op,nV aB.to,.slice aX aB.args.length aQ,nV aB.n_] 51,ow [.slice aX aB.args.length aQ] aB.args,blk aT [nV c_.regs] 3,ow [.slice ab aF.length aR] aF,blk aY [.slice none 0 0,.slice aM aE.length aN,nV aA.jump,nV aA.on,.slice aG aA.next_.length aH] 49,ow [.slice aM aE.length aN] aE,ow [.slice aG aA.next_.length aH] aA.next_,blk bZ [.slice ax aD.phis.length ay,.slice bF aD.ins.length bG,nV aD.jump,nV aD.on,.slice bD aD.next_.length bE] 49,drnS (sV bR bS af.blocks.length bO) (af.blocks:List Block_) (bP)]:=mk_Ins_ 2 aB.to 0 hm 2 rfl
     replace hm:=(hm.els_cons 0 2 (by decide) rfl rfl).pk (L':=[_,_,_,_,_,_,_,_,_,_,_,_,_,_,_,_,_,_]) [0,1,3,4,5,6,7,8,9,10,11,12,13,14,15,16,17,18] rfl rfl
     replace hm:=(hm.lit_els 1 0 (by decide) rfl rfl rfl rfl).pk (L':=[_,_,_,_,_,_,_,_,_,_,_,_,_,_,_,_,_]) [1,2,3,4,5,6,7,8,9,10,11,12,13,14,15,16,17] rfl rfl
     refine tAk hm [1,2,3,4,5,6,7,8,9,10,11,12,13,14,15,16] rfl λhS=>tO (gb λji fq=>?_)
     obtain ⟨fr,ft⟩:=appM_some.1 fq
     replace hm:=(hm.both 2 0 (by decide) rfl rfl).pk (L':=[_,_,_,_,_,_,_,_,_,_,_,_,_,_,_,_]) [1,2,3,4,5,6,7,8,9,10,11,12,13,14,15,16] rfl rfl
     refine tf rfl rfl (λa hf=>e_appendD (xs:=bB.ins) (ys:=([(⟨2,aB.to,([w64 (cb.on+c_.regs)]:List Int),0⟩:Ins_)]:List Ins_)) 1 et_46 hf hm rfl rfl rfl rfl fr) ?_
     rintro fu w hm
     rw [ft] at hm
     refine tAn rfl (tP rfl (λw=>yF fo_49_1 rfl) (tO (tf0 rfl rfl (λa hf=>e_store1 14 hf hm rfl sizeOf46 rfl rfl rfl (rep_one (hm.ow_rep 1 rfl)) rfl) ?_)))
     rintro _ w hm
     refine tAn rfl (tE (gR (gM rfl (gf rfl (λa hf=>e_build (vs:=#[(0,(nV (((c_.blocks.length:Int))+((f.blocks.length:Int)))))]) (cs:=[nV (((c_.blocks.length:Int))+((f.blocks.length:Int)))]) et_47 hf hm rfl rfl (by kernel_rfl) rfl rfl) ?_))))
     rintro _ w ⟨fw,rfl,hm⟩
     replace hm:=hm.lit (xs:=([((c_.blocks.length:Int))+((f.blocks.length:Int))]:List Int)) 0 rfl rfl rfl rfl
     exact gF fo_49_2 rfl (gS1 hm 15 sizeOf3 rfl rfl λw hm=>gF fo_49_3 rfl (gS1 hm 15 sizeOf3 rfl rfl λw hm=>gF fo_49_4 rfl (gS1 hm 15 sizeOf47 rfl rfl λw hm=>gE (gZ λa hf=>⟨fu,sV fw 0 1 1,hf.sb rfl,hm.pk [4,5,6,7,8,9,10,11,12,13,14,15,3,2,0,16] rfl rfl⟩))))
    refine gcf rfl (gS (gR (gF fo_49_2 rfl (gL hm 14 isAgg3 rfl (gB rfl (gE (gJ hm (λcy=>[(2,(nV b_)),(5,(pV aV)),(8,(pV aI)),(9,(pV aJ)),(10,(pV aW)),(11,(pV aT)),(12,(nV ((c_.blocks.length:Int)))),(13,(nV (((c_.blocks.length:Int))+((f.blocks.length:Int))))),(14,(.slice ab aF.length aR)),(16,(pV aY)),(22,(pV bZ)),(164,(sV bR bS af.blocks.length bO)),(165,(nV ((af.blocks.length:Int)))),(166,(nV bP))]) (λcy=>[blk aV [nV f.params,nV f.regs,.slice aa f.blocks.length aZ] 44,blk aI [nV 0,nV 0,.slice none 0 0] 44,blk aJ [nV aC.params,nV (w64 (aC.regs+f.regs)),.slice bH ak.length bJ] 44,ow [.slice bH ak.length bJ] ak,blk aW [nV aB.op,nV aB.to,.slice aX aB.args.length aQ,nV aB.n_] 51,ow [.slice aX aB.args.length aQ] aB.args,blk aT [nV c_.regs] 3,ow [.slice ab aF.length aR] aF,blk aY [.slice none 0 0,.slice aM aE.length aN,nV aA.jump,nV aA.on,.slice aG aA.next_.length aH] 49,ow [.slice aM aE.length aN] aE,ow [.slice aG aA.next_.length aH] aA.next_,blk bZ [.slice ax aD.phis.length ay,.slice bF aD.ins.length bG,nV aD.jump,nV cy,.slice bD aD.next_.length bE] 49,ow [.slice ax aD.phis.length ay] bB.phis,ow [.slice bF aD.ins.length bG] bB.ins,ow [.slice bD aD.next_.length bE] bB.next_,drnS (sV bR bS af.blocks.length bO) (af.blocks:List Block_) (bP)]) (λcy=>?_) ?_)))))))
    ·refine gsd 221 rfl (fun fx => ?_) fun fx => ?_
     ·refine gct rfl ?_
      replace hm:Mem w0 aq _ [ow [.slice bD aD.next_.length bE] bB.next_,ow [.slice bF aD.ins.length bG] bB.ins,ow [.slice ax aD.phis.length ay] bB.phis,blk aV [nV f.params,nV f.regs,.slice aa f.blocks.length aZ] 44,blk aI [nV 0,nV 0,.slice none 0 0] 44,blk aJ [nV aC.params,nV (w64 (aC.regs+f.regs)),.slice bH ak.length bJ] 44,ow [.slice bH ak.length bJ] ak,blk aW [nV aB.op,nV aB.to,.slice aX aB.args.length aQ,nV aB.n_] 51,ow [.slice aX aB.args.length aQ] aB.args,blk aT [nV c_.regs] 3,ow [.slice ab aF.length aR] aF,blk aY [.slice none 0 0,.slice aM aE.length aN,nV aA.jump,nV aA.on,.slice aG aA.next_.length aH] 49,ow [.slice aM aE.length aN] aE,ow [.slice aG aA.next_.length aH] aA.next_,blk bZ [.slice ax aD.phis.length ay,.slice bF aD.ins.length bG,nV aD.jump,nV aD.on,.slice bD aD.next_.length bE] 49,drnS (sV bR bS af.blocks.length bO) (af.blocks:List Block_) (bP)]:=hm
      refine gW (.p 0 (.p 2 (.p 5 (.q 1 (.q 3 (.p 4 (.p 6 (.p 7 (.p 8 (.q 10 (.e 9 (.p 11 (.p 12 (.e 13 .fin .nil))) .nil))))))))))) [1,3,9,10] [0,2,4,5,6,7,8,11,12] hm [0,1,2,3,4,5,6,7,8,9,10,11,12,13,14,15] [ow [.slice bD aD.next_.length bE] bB.next_,ow [.slice bF aD.ins.length bG] bB.ins,ow [.slice ax aD.phis.length ay] bB.phis,blk aV [nV f.params,nV f.regs,.slice aa f.blocks.length aZ] 44,blk aI [nV 0,nV 0,.slice none 0 0] 44,blk aJ [nV aC.params,nV (w64 (aC.regs+f.regs)),.slice bH ak.length bJ] 44,ow [.slice bH ak.length bJ] ak,blk aW [nV aB.op,nV aB.to,.slice aX aB.args.length aQ,nV aB.n_] 51,ow [.slice aX aB.args.length aQ] aB.args,blk aT [nV c_.regs] 3,ow [.slice ab aF.length aR] aF,blk aY [.slice none 0 0,.slice aM aE.length aN,nV aA.jump,nV aA.on,.slice aG aA.next_.length aH] 49,ow [.slice aM aE.length aN] aE,ow [.slice aG aA.next_.length aH] aA.next_,blk bZ [.slice ax aD.phis.length ay,.slice bF aD.ins.length bG,nV aD.jump,nV aD.on,.slice bD aD.next_.length bE] 49,drnS (sV bR bS af.blocks.length bO) (af.blocks:List Block_) (bP)] rfl mxo (by kernel_rfl) (λ_ _ _ h=>h.2) λw hm hS=>tP rfl (λw=>yF fo_44_2 rfl) (tP rfl (λw=>yF fo_44_2 rfl) (tP rfl (λw=>yM rfl) (tQ rfl hS (λw hm=>yL hm 3 isAgg42 rfl) (tQ rfl hS (λw hm=>yL hm 5 isAgg42 rfl) (tP rfl (λw=>yV st_42 rfl) (tP rfl (λw=>yS (by omega) (by omega) rfl) (gg λjj fy dk=>?_)))))))
      obtain ⟨jk,jl,jm,he⟩:=idx_form' h2 dk
      obtain ⟨rfl,_,rfl⟩:=sl3 he
      obtain ⟨jn,jo,jp,gD,jq,jr,jt⟩:=rk_Block_ h2 dk
      refine tP rfl (λw=>yI st_42 fy (idx_lt dk) rfl) (tP rfl (λw=>yF fo_49_3 rfl) (tQ rfl hS (λw hm=>yL hm 9 isAgg3 rfl) (tO (tY rfl (yl isAgg3 ((gD.mono (Heap.le_trans cZ hm.lez)).cell (j:=3) rfl) rfl) (tAs hS (tP rfl (λw=>yB rfl) (tP rfl (λw=>yF fo_49_3 rfl) (tO (tf0 rfl rfl (λa hf=>e_store1 14 hf hm rfl sizeOf3 rfl rfl rfl rfl rfl) ?_)))))))))
      rintro _ w hm
      exact tAn rfl (tE (gz hm [3,4,5,6,7,8,9,10,11,12,13,14,2,1,0,15] rfl))
     exact gcf rfl (gSk (gz hm [3,4,5,6,7,8,9,10,11,12,13,14,2,1,0,15] rfl))
    repeat clear hm
    intro cy w hm
    exact gZ λa hf=>⟨.slice bF aD.ins.length bG,.slice bD aD.next_.length bE,hf.sb rfl,hm.pk [0,1,2,3,4,5,6,7,8,9,10,11,12,13,14,15] rfl rfl⟩
   repeat clear hm
   rintro bK a w ⟨cL,cM,hf,hm⟩
   refine gv hf (gR (gF fo_44_2 rfl (gL hm 2 isAgg42 rfl (gY (yn (hm.blk_at 11 rfl) isAgg49 sizeOf49 rfl) (gf rfl (λa hf=>e_build (vs:=#[(0,(.agg #[.slice ax aD.phis.length ay,cL,nV bK.2.1,nV bK.2.2.1,cM]))]) (cs:=[.slice ax aD.phis.length ay,cL,nV bK.2.1,nV bK.2.2.1,cM]) et_42 hf hm rfl rfl (by kernel_rfl) rfl rfl) ?_)))))
   rintro _ w ⟨gG,rfl,hm⟩
   have ju:CellsAt (hp _) gG 0 [.slice ax aD.phis.length ay,cL,nV bK.2.1,nV bK.2.2.1,cM]:=hm.blk_part (i:=0) 0 rfl rfl
   have jv:=isSl (hm.ow_rep 13 rfl)
   have jw:=isSl (hm.ow_rep 14 rfl)
   have jx:=isSl (hm.ow_rep 15 rfl)
   replace hm:=hm.els_nil (α:=Block_)
   replace hm:=(mk_Block_ bK.2.1 bK.2.2.1 hm 14 15 16 rfl).pk (L':=[_,_,_,_,_,_,_,_,_,_,_,_,_,_,_,_]) [0,1,2,3,4,5,6,7,8,9,10,11,12,13,14,17] rfl rfl
   replace hm:=(hm.els_cons 0 14 (by decide) rfl rfl).pk (L':=[_,_,_,_,_,_,_,_,_,_,_,_,_,_,_]) [0,1,2,3,4,5,6,7,8,9,10,11,12,13,15] rfl rfl
   replace hm:=(hm.lit_els 1 0 (by decide) rfl rfl rfl rfl).pk (L':=[_,_,_,_,_,_,_,_,_,_,_,_,_,_]) [1,2,3,4,5,6,7,8,9,10,11,12,13,14] rfl rfl
   refine gb λjy gH=>?_
   obtain ⟨gK,gQ⟩:=appM_some.1 gH
   replace hm:=(hm.both 4 0 (by decide) rfl rfl).pk (L':=[_,_,_,_,_,_,_,_,_,_,_,_,_]) [1,2,3,4,5,6,7,8,9,10,11,12,13] rfl rfl
   refine gf rfl (λa hf=>e_appendD (xs:=ak) (ys:=([(⟨bB.phis,bK.1,bK.2.1,bK.2.2.1,bK.2.2.2⟩:Block_)]:List Block_)) 3 et_42 hf hm rfl rfl rfl rfl gK) ?_
   rintro gT w hm
   rw [gQ] at hm
   refine gF fo_44_2 rfl (gS1 hm 2 sizeOf42 (rep_one (hm.ow_rep 3 rfl)) rfl λw hm=>gE (gR (gP (by omega) (by omega) rfl (gM rfl (gE ?_)))))
   replace hm:=hm.drnS_next 12 rfl
   exact gZe λa hf=>⟨gT,hf.sb rfl,hm.pk [0,1,2,3,4,5,6,7,8,9,10,12] rfl rfl⟩
  repeat clear hm
  rintro gU eV a w ⟨gV,hf,hm⟩ jz kA
  refine gv hf (gS (gR (gB rfl (gE (gS (go _ 167 rfl (decide_eq_false (by omega)) (gcf rfl (gXt (gHh (gS (gR (gF fo_44_2 rfl (gL hm 2 isAgg42 rfl (gY (yn (hm.blk_at 8 rfl) isAgg49 sizeOf49 rfl) (gf rfl (λa hf=>e_build (vs:=#[(0,(.agg #[.slice none 0 0,.slice aM aE.length aN,nV aA.jump,nV aA.on,.slice aG aA.next_.length aH]))]) (cs:=[.slice none 0 0,.slice aM aE.length aN,nV aA.jump,nV aA.on,.slice aG aA.next_.length aH]) et_42 hf hm rfl rfl (by kernel_rfl) rfl rfl) ?_)))))))))))))))
  rintro _ w ⟨kB,rfl,hm⟩
  refine gb λac g9=>?_
  obtain ⟨ga,eW⟩:=appM_some.1 g9
  have gc:∀ u∈([.slice none 0 0,.slice aM aE.length aN,nV aA.jump,nV aA.on,.slice aG aA.next_.length aH]:List Value),u.oneCell'=true:=(one_cons rfl (one_cons rfl (one_cons rfl (one_cons rfl (one_cons rfl one_nil)))))
  replace hm:=(hm.both 4 0 (by decide) rfl rfl).pk (L':=[_,_,_,_,_,_,_,_,_,_,_,_]) [1,2,3,4,5,6,7,8,9,10,11,12] rfl rfl
  refine gf rfl (λa hf=>e_appendP (xs:=eV) ((⟨[],aE,aA.jump,aA.on,aA.next_⟩:Block_):Block_) 3 et_42 hf hm rfl rfl gc rfl rfl rfl ga eW) ?_
  rintro _ w ⟨ah,ai,aj,rfl,hm⟩
  have ge:=snoc_at eW
  replace hm:Mem w0 aq _ [blk aV [nV f.params,nV f.regs,.slice aa f.blocks.length aZ] 44,blk aI [nV 0,nV 0,.slice none 0 0] 44,blk aJ [nV aC.params,nV (w64 (aC.regs+f.regs)),gV] 44,holeE ah ai ac.length aj (ac:List Block_) ((eV.length:Int)).toNat [.slice none 0 0,.slice aM aE.length aN,nV aA.jump,nV aA.on,.slice aG aA.next_.length aH],blk aW [nV aB.op,nV aB.to,.slice aX aB.args.length aQ,nV aB.n_] 51,ow [.slice aX aB.args.length aQ] aB.args,blk aT [nV c_.regs] 3,ow [.slice ab aF.length aR] aF,blk aY [.slice none 0 0,.slice aM aE.length aN,nV aA.jump,nV aA.on,.slice aG aA.next_.length aH] 49,ow [.slice aM aE.length aN] aE,ow [.slice aG aA.next_.length aH] aA.next_,drnV (.slice df af.blocks.length bO) (af.blocks:List Block_) (gU)]:=hm
  refine gF fo_44_2 rfl (gS1 hm 2 sizeOf42 rfl rfl λw hm=>gE (gS (gS (gR (gF fo_49_4 rfl (gL hm 8 isAgg47 rfl (gCg rfl call59 (impl_once_ok _ aA.next_ (.slice aG aA.next_.length aH) (hm.ow_rep 10 rfl)) ?_)))))))
  rintro b6 kC kD w ⟨_,rfl,hB⟩
  replace hm:=hm.give hB;clear hB
  obtain ⟨eX,cO,rfl,kE⟩:=ro_slice (hm.ow_rep 0 rfl)
  refine gY (yV st_47 rfl) (gM rfl (gE (gBk ?_)))
  replace hm:=hm.nilow (α:=Phi_)
  replace hm:=(mk_Block_ aA.jump aA.on hm 0 11 12 rfl).pk (L':=[_,_,_,_,_,_,_,_,_,_,_,_]) [0,1,2,3,4,5,6,7,8,9,10,13] rfl rfl
  replace hm:=(hm.shutE (y:=((⟨[],aE,aA.jump,aA.on,aA.next_⟩:Block_):Block_)) 5 0 (by decide) rfl rfl).pk (L':=[_,_,_,_,_,_,_,_,_,_,_]) [1,2,3,4,5,6,7,8,9,10,11] rfl rfl
  rw [set_same ge] at hm
  refine gNf hm (λcz cP=>[(2,(nV b_)),(8,(pV aI)),(9,(pV aJ)),(12,(nV ((c_.blocks.length:Int)))),(13,(nV (((c_.blocks.length:Int))+((f.blocks.length:Int))))),(14,(.slice ab aF.length aR)),(250,(.slice eX b6.length cO)),(251,(nV ((b6.length:Int)))),(252,(nV cz))]) (λcz cP=>[blk aI [nV 0,nV 0,.slice none 0 0] 44,blk aJ [nV aC.params,nV (w64 (aC.regs+f.regs)),sV ah ai ac.length aj] 44,ow [sV ah ai ac.length aj] ac,ow [.slice ab aF.length aR] cP,ow [.slice eX b6.length cO] b6]) [2,3,4,8,0] rfl ?_ ?_
  ·repeat clear hm
   intro _ _ cz cP w hm kF kG kH _
   refine gS (gR (gB rfl (gE (gS (go _ 253 rfl (decide_eq_true (by omega)) (gct rfl (gSk (gS (gBk (gS (gR (gg λcd gh dl=>?_))))))))))))
   obtain ⟨dA,dB,kI,he⟩:=idx_form (hm.ow_rep 4 rfl) dl
   obtain ⟨rfl,_,rfl⟩:=sl3 he
   refine gI st_47 gh (idx_lt dl) rfl (gY (yl isAgg3 ((flat_cells (cs:=[nV cd]) (hm.ow_rep 4 rfl) dl rfl).cell (j:=0) rfl) rfl) (gA rfl (gE (gS (gR (gM rfl (gM rfl (gg λbf gi ce=>?_))))))))
   obtain ⟨cf,cg,kJ,he⟩:=idx_form' (hm.ow_rep 3 rfl) ce
   obtain ⟨rfl,_,rfl⟩:=sl3 he
   obtain ⟨_,_,eY,gj⟩:=ro_get' (hm.ow_rep 3 rfl) ce
   have dm:=gj
   obtain ⟨eZ,rfl,-⟩:=id dm
   replace dm:GT.rep (hp _) [eZ] bf:=dm
   replace eY:CellsAt (hp _) cf (cg+(cd).toNat*1) [eZ]:=eY
   have hL1_2:=rep_slice_len (hm.ow_rep 3 rfl)
   refine gI st_82 gi (idx_lt2 ce hL1_2) rfl ?_
   obtain ⟨_,gk,hm⟩:=hm.openE 3 rfl ce
   have gm:=hm.ow_rep 0 rfl
   have dC:=gm
   obtain ⟨dp,rfl,-⟩:=id dC
   replace dC:GT.rep (hp _) [dp] bf:=dC
   clear gk dC
   replace hm:Mem w0 aq _ [ow [dp] (bf:List (MapS Int)),blk aI [nV 0,nV 0,.slice none 0 0] 44,blk aJ [nV aC.params,nV (w64 (aC.regs+f.regs)),sV ah ai ac.length aj] 44,ow [sV ah ai ac.length aj] ac,holeE cf cg aF.length aR (cP:List (List (MapS Int))) (cd).toNat [dp],ow [sV dA dB b6.length cO] b6]:=hm
   replace hm:=hm.pk (L':=[_,_,_,_,_,_]) [0,1,2,3,4,5] rfl rfl
   refine gY (yl isAgg99 ((hm.holeE_at 4 rfl).cell (j:=0) rfl) rfl) ?_
   obtain ⟨dD,cQ,rfl,kK⟩:=ro_slice (hm.ow_rep 0 rfl)
   refine gY (yV st_99 rfl) (gM rfl (gE (gBk (gNf hm (λci dE=>[(2,(nV b_)),(8,(pV aI)),(9,(pV aJ)),(12,(nV ((c_.blocks.length:Int)))),(13,(nV (((c_.blocks.length:Int))+((f.blocks.length:Int))))),(14,(sV cf cg aF.length aR)),(250,(sV dA dB b6.length cO)),(251,(nV ((b6.length:Int)))),(252,(nV cz)),(259,(.slice dD bf.length cQ)),(260,(nV ((bf.length:Int)))),(261,(nV ci))]) (λci dE=>[blk aI [nV 0,nV 0,.slice none 0 0] 44,blk aJ [nV aC.params,nV (w64 (aC.regs+f.regs)),sV ah ai ac.length aj] 44,ow [sV ah ai ac.length aj] ac,holeE cf cg aF.length aR (cP:List (List (MapS Int))) (cd).toNat [.slice dD bf.length cQ],ow [.slice dD bf.length cQ] dE,ow [sV dA dB b6.length cO] b6]) [1,2,3,4,0,5] rfl ?_ ?_))))
   ·repeat clear hm
    intro _ _ ci dE w hm kL kM kN _
    refine gS (gR (gB rfl (gE (gS (go _ 262 rfl (decide_eq_true (by omega)) (gct rfl (gSk (gS (gBk (gS (gR (gg λbT gp cj=>?_))))))))))))
    obtain ⟨dq,dr,kO,he⟩:=idx_form' (hm.ow_rep 4 rfl) cj
    obtain ⟨rfl,_,rfl⟩:=sl3 he
    obtain ⟨_,_,ea,gq⟩:=ro_get' (hm.ow_rep 4 rfl) cj
    have dt:=gq
    obtain ⟨eb,rfl,-⟩:=id dt
    replace dt:GT.rep (hp _) [eb] bT:=dt
    replace ea:CellsAt (hp _) dq (dr+(ci).toNat*1) [eb]:=ea
    have hL2_3:=rep_slice_len (hm.ow_rep 4 rfl)
    refine gI st_99 gp (idx_lt2 cj hL2_3) rfl ?_
    obtain ⟨_,gt,hm⟩:=hm.openE 4 rfl cj
    have gu:=hm.ow_rep 0 rfl
    have dF:=gu
    obtain ⟨ck,rfl,-⟩:=id dF
    replace dF:GT.rep (hp _) [ck] bT:=dF
    clear gt dF
    replace hm:Mem w0 aq _ [ow [ck] (bT:MapS Int),blk aI [nV 0,nV 0,.slice none 0 0] 44,blk aJ [nV aC.params,nV (w64 (aC.regs+f.regs)),sV ah ai ac.length aj] 44,ow [sV ah ai ac.length aj] ac,holeE cf cg aF.length aR (cP:List (List (MapS Int))) (cd).toNat [sV dq dr bf.length cQ],holeE dq dr bf.length cQ (dE:List (MapS Int)) (ci).toNat [ck],ow [sV dA dB b6.length cO] b6]:=hm
    replace hm:=hm.pk (L':=[_,_,_,_,_,_,_]) [0,1,2,3,4,5,6] rfl rfl
    refine gY (yl isAgg100 ((hm.holeE_at 5 rfl).cell (j:=0) rfl) rfl) (gA rfl (gE (gS (gR (gM rfl (gM rfl (gM rfl (gM rfl (gY (yG rfl (y_lookI (key:=b_) (m:=(bT:MapS Int)) underlying3 underlying100 zeroValue3 (hm.ow_rep 0 rfl) rfl rfl rfl)) (gb λkP gw=>?_))))))))))
    replace hm:=hm.ow_owm 0 rfl gw
    refine gf0 rfl (λa hf=>e_insM (β:=Int) (key:=(((c_.blocks.length:Int))+((f.blocks.length:Int)))) (u:=((MapS.get bT b_).getD 0)) (b:=false) 0 underlying3 underlying100 hf hm rfl rfl rfl rfl rfl) ?_
    rintro _ w hm
    refine gE (gR (gM rfl (gM rfl (gf0 rfl (λa hf=>e_delM (β:=Int) (key:=b_) 0 underlying3 underlying100 hf hm rfl rfl rfl rfl rfl) ?_))))
    rintro _ w hm
    refine gE ?_
    have kQ:=owm_cells hm 0 rfl
    replace hm:=hm.imp (c':=ow [ck] ((MapS.del (MapS.ins bT (((c_.blocks.length:Int))+((f.blocks.length:Int))) ((MapS.get bT b_).getD 0)) b_):MapS Int)) 0 rfl (λF h0=>own_owm h0)
    replace hm:=hm.imp (c':=ow [ck] ((MapS.del (MapS.ins bT (((c_.blocks.length:Int))+((f.blocks.length:Int))) ((MapS.get bT b_).getD 0)) b_):MapS Int)) 0 rfl (λF h0=>h0)
    replace hm:=(hm.shutE (y:=((MapS.del (MapS.ins bT (((c_.blocks.length:Int))+((f.blocks.length:Int))) ((MapS.get bT b_).getD 0)) b_):MapS Int)) 5 0 (by decide) rfl rfl).pk (L':=[_,_,_,_,_,_]) [1,2,3,4,5,6] rfl rfl
    have kR:=List.getElem?_set_self (a:=((MapS.del (MapS.ins bT (((c_.blocks.length:Int))+((f.blocks.length:Int))) ((MapS.get bT b_).getD 0)) b_):MapS Int)) (idx_lt cj)
    exact gR (gP (by omega) (by omega) rfl (gM rfl (gE (gze hm [0,1,2,3,4,5] rfl))))
   repeat clear hm
   intro kS du w hm kT kU
   refine gS (gR (gB rfl (gE (gS (go _ 262 rfl (decide_eq_false (by omega)) (gcf rfl (gXt (gHh ?_))))))))
   replace hm:=hm.imp (c':=ow [.slice dD bf.length cQ] (du:List (MapS Int))) 4 rfl (λF h0=>h0)
   replace hm:=(hm.shutE (y:=(du:List (MapS Int))) 3 4 (by decide) rfl rfl).pk (L':=[_,_,_,_,_]) [0,1,2,3,5] rfl rfl
   have kV:=List.getElem?_set_self (a:=(du:List (MapS Int))) (idx_lt ce)
   exact gR (gP (by omega) (by omega) rfl (gM rfl (gE (gze hm [0,1,2,3,4] rfl))))
  repeat clear hm
  intro kW bc w hm kX kY
  refine gS (gR (gB rfl (gE (gS (go _ 253 rfl (decide_eq_false (by omega)) (gcf rfl (gXt (gHh (gS (gS (gR (gM rfl (gM rfl (gE (gBk (gNf hm (λau cl=>[(8,(pV aI)),(9,(pV aJ)),(14,(.slice ab aF.length aR)),(274,(nV ((c_.blocks.length:Int)))),(275,(nV au))]) (λau cl=>[blk aI [nV 0,nV 0,.slice none 0 0] 44,blk aJ [nV aC.params,nV (w64 (aC.regs+f.regs)),sV ah ai ac.length aj] 44,ow [sV ah ai ac.length aj] cl,ow [.slice ab aF.length aR] bc]) [0,1,2,3] rfl ?_ ?_))))))))))))))))
  ·repeat clear hm
   intro _ _ au cl w hm kZ k5 k6 _
   refine gS (gR (gB rfl (gE (gS (go _ 276 rfl (decide_eq_true (by omega)) (gct rfl (gSk (gS (gBk (gS (gR (gM rfl (gA rfl (gE (gS (gR (gY (yn (hm.blk_at 1 rfl) isAgg44 sizeOf44 rfl) (gM rfl (gCg rfl call60 (impl_PredsOf_ok _ (⟨aC.params,w64 (aC.regs+f.regs),cl⟩:Code_) (sV ah ai ac.length aj) (hm.ow_rep 2 rfl) au) ?_)))))))))))))))))))
   rintro av k7 gx w ⟨_,rfl,hB⟩
   replace hm:=hm.give hB;clear hB
   refine gA rfl (gE (gS (gR (gM rfl (gM rfl (gg λae gy cm=>?_))))))
   obtain ⟨bU,bV,k8,he⟩:=idx_form' (hm.ow_rep 4 rfl) cm
   obtain ⟨rfl,_,rfl⟩:=sl3 he
   obtain ⟨_,_,ec,hD⟩:=ro_get' (hm.ow_rep 4 rfl) cm
   have dv:=hD
   obtain ⟨ed,rfl,-⟩:=id dv
   replace dv:GT.rep (hp _) [ed] ae:=dv
   replace ec:CellsAt (hp _) bU (bV+(au).toNat*1) [ed]:=ec
   have hL1_3:=rep_slice_len (hm.ow_rep 4 rfl)
   refine gI st_82 gy (idx_lt2 cm hL1_3) rfl ?_
   obtain ⟨_,hO,hm⟩:=hm.openE 4 rfl cm
   have hU:=hm.ow_rep 0 rfl
   have dG:=hU
   obtain ⟨dw,rfl,-⟩:=id dG
   replace dG:GT.rep (hp _) [dw] ae:=dG
   clear hO dG
   replace hm:Mem w0 aq _ [ow [dw] (ae:List (MapS Int)),ow [gx] av,blk aI [nV 0,nV 0,.slice none 0 0] 44,blk aJ [nV aC.params,nV (w64 (aC.regs+f.regs)),sV ah ai ac.length aj] 44,ow [sV ah ai ac.length aj] cl,holeE bU bV aF.length aR (bc:List (List (MapS Int))) (au).toNat [dw]]:=hm
   replace hm:=hm.pk (L':=[_,_,_,_,_,_]) [0,1,2,3,4,5] rfl rfl
   refine gY (yl isAgg99 ((hm.holeE_at 5 rfl).cell (j:=0) rfl) rfl) ?_
   obtain ⟨dH,bC,rfl,k9⟩:=ro_slice (hm.ow_rep 0 rfl)
   refine gY (yV st_99 rfl) (gM rfl (gE ?_))
   obtain ⟨bW,bX,rfl,ka⟩:=ro_slice (hm.ow_rep 1 rfl)
   refine gBk (gNf hm (λaz bj=>[(8,(pV aI)),(9,(pV aJ)),(14,(sV bU bV aF.length aR)),(28,(nV au)),(29,(.slice bW av.length bX)),(274,(nV ((c_.blocks.length:Int)))),(275,(nV au)),(284,(.slice dH ae.length bC)),(285,(nV ((ae.length:Int)))),(286,(nV az))]) (λaz bj=>[blk aI [nV 0,nV 0,.slice none 0 0] 44,blk aJ [nV aC.params,nV (w64 (aC.regs+f.regs)),sV ah ai ac.length aj] 44,ow [sV ah ai ac.length aj] bj,holeE bU bV aF.length aR (bc:List (List (MapS Int))) (au).toNat [.slice dH ae.length bC],ow [.slice dH ae.length bC] ae,ow [.slice bW av.length bX] av]) [2,3,4,5,0,1] rfl ?_ ?_)
   ·repeat clear hm
    intro _ _ az bj w hm kb kd ke _
    refine gS (gR (gB rfl (gE (gS (go _ 287 rfl (decide_eq_true (by omega)) (gct rfl (gSk (gS (gBk (gS (gR (gM rfl (gg λbN hZ cR=>?_)))))))))))))
    obtain ⟨bL,bM,kf,he⟩:=idx_form' (hm.ow_rep 4 rfl) cR
    obtain ⟨rfl,_,rfl⟩:=sl3 he
    obtain ⟨_,_,ee,h9⟩:=ro_get' (hm.ow_rep 4 rfl) cR
    have dx:=h9
    obtain ⟨ef,rfl,-⟩:=id dx
    replace dx:GT.rep (hp _) [ef] bN:=dx
    replace ee:CellsAt (hp _) bL (bM+(az).toNat*1) [ef]:=ee
    refine gI st_99 hZ (idx_lt cR) rfl ?_
    obtain ⟨_,iA,hm⟩:=hm.openE 4 rfl cR
    have iB:=hm.ow_rep 0 rfl
    have dI:=iB
    obtain ⟨aw,rfl,-⟩:=id dI
    replace dI:GT.rep (hp _) [aw] bN:=dI
    clear iA dI
    replace hm:Mem w0 aq _ [ow [aw] (bN:MapS Int),blk aI [nV 0,nV 0,.slice none 0 0] 44,blk aJ [nV aC.params,nV (w64 (aC.regs+f.regs)),sV ah ai ac.length aj] 44,ow [sV ah ai ac.length aj] bj,holeE bU bV aF.length aR (bc:List (List (MapS Int))) (au).toNat [sV bL bM ae.length bC],holeE bL bM ae.length bC (ae:List (MapS Int)) (az).toNat [aw],ow [.slice bW av.length bX] av]:=hm
    replace hm:=hm.pk (L':=[_,_,_,_,_,_,_]) [0,1,2,3,4,5,6] rfl rfl
    refine gY (yl isAgg100 ((hm.holeE_at 5 rfl).cell (j:=0) rfl) rfl) (gAl hm zeroValue100 rfl λb7 w hm=>gA rfl (gS1 hm 0 sizeOf100 (rep_oneM (hm.ow_rep 1 rfl)) rfl λw hm=>gE (gJ hm (λdJ=>[(8,(pV aI)),(9,(pV aJ)),(14,(sV bU bV aF.length aR)),(28,(nV au)),(29,(.slice bW av.length bX)),(274,(nV ((c_.blocks.length:Int)))),(275,(nV au)),(284,(sV bL bM ae.length bC)),(285,(nV ((ae.length:Int)))),(286,(nV az))]) (λdJ=>[blk aI [nV 0,nV 0,.slice none 0 0] 44,blk aJ [nV aC.params,nV (w64 (aC.regs+f.regs)),sV ah ai ac.length aj] 44,ow [sV ah ai ac.length aj] dJ,holeE bU bV aF.length aR (bc:List (List (MapS Int))) (au).toNat [sV bL bM ae.length bC],ow [sV bL bM ae.length bC] ae,ow [.slice bW av.length bX] av]) (λdJ=>?_) ?_)))
    ·replace hm : Mem w0 aq _ [blk b7 [aw] 100, ow [aw] bN, blk aI [nV 0, nV 0, .slice none 0 0] 44, blk aJ [nV aC.params, nV (w64 (aC.regs + f.regs)), sV ah ai ac.length aj] 44, ow [sV ah ai ac.length aj] bj, holeE bU bV aF.length aR (bc : List (List (MapS Int))) (au).toNat [sV bL bM ae.length bC], holeE bL bM ae.length bC (ae : List (MapS Int)) (az).toNat [aw], ow [.slice bW av.length bX] av] := hm
     refine gW (.p 0 (.p 2 (.p 6 (.p 7 (.p 8 (.q 1 (.p 3 (.p 4 (.e 5 (.e 9 (.p 10 (.p 11 (.e 12 .fin .nil))) .nil) (.e 9 (.e 5 (.p 10 (.p 11 (.e 12 .fin .nil))) .nil) .nil)))))))))) [9] [0,2,3,4,6,7,8,10,11] hm [0,1,2,3,5,6,7] [blk b7 [aw] 100,ow [aw] bN,blk aI [nV 0,nV 0,.slice none 0 0] 44,blk aJ [nV aC.params,nV (w64 (aC.regs+f.regs)),sV ah ai ac.length aj] 44,holeE bU bV aF.length aR (bc:List (List (MapS Int))) (au).toNat [sV bL bM ae.length bC],holeE bL bM ae.length bC (ae:List (MapS Int)) (az).toNat [aw],ow [.slice bW av.length bX] av] rfl mxo (by kernel_rfl) (λ_ _ _ h=>h.2) λw hm hS=>tP rfl (λw=>yF fo_44_2 rfl) (tP rfl (λw=>yM rfl) (tP rfl (λw=>yM rfl) (tP rfl (λw=>yM rfl) (tP rfl (λw=>yU rfl) (tQ rfl hS (λw hm=>yL hm 3 isAgg42 rfl) (gg λaS iC bs=>?_))))))
     obtain ⟨kg,ki,kj,kn,ko,kp,kq⟩:=rk_Block_ (hm.ow_rep 4 rfl) bs
     have hL3_1:=rep_slice_len (hm.ow_rep 4 rfl)
     refine tP rfl (λw=>yI st_42 iC (idx_lt2 bs hL3_1) rfl) (tP rfl (λw=>yF fo_49_0 rfl) (gb λb8 eg=>gb λbA eh=>tMo ?_ ?_))
     ·obtain ⟨kr, dK, dL, hm⟩ := pin_Block_ hm 4 rfl bs
      have ku:(au).toNat<ac.length:=(idx_lt2 bs (hm.holeE_len 7 rfl))
      refine tY rfl (yl isAgg45 ((hm.holeE_at 7 rfl).cell (j:=0) rfl) rfl) (tAn rfl (tO (tf rfl rfl (λa hf=>e_call hf rfl call61 rfl (impl_mapped_int_int_ok _ av (.slice bW av.length bX) (hm.ow_rep 10 rfl) (λy0=>impl_inlined_2 y0 bN) (.func (.func 62) #[] #[(pV b7)]) (λw y0 r hB hq=>⟨62,[(pV b7)],rfl,call62,impl_inlined_2_ok w y0 bN aw (rep_later (hm.ow_rep 4 rfl) hB) b7 (hm.blk_later 3 rfl hB) r hq⟩) _ eg)) ?_)))
      rintro cS w ⟨_,rfl,hB⟩
      replace hm:=hm.give hB;clear hB
      refine tAk hm [4,5,6,7,9,10,11] rfl λhS=>?_
      obtain ⟨iD,cT⟩:=getI_some.1 eh
      obtain ⟨dM,dN,dO,he⟩:=idx_form' (hm.ow_rep 3 rfl) cT
      subst he
      obtain ⟨kv,kw,kx⟩:=rk_Phi_ (hm.ow_rep 3 rfl) cT
      refine tP rfl (λw=>yI st_45 iD (idx_lt cT) rfl) (tP rfl (λw=>yF fo_105_1 rfl) (tO ?_))
      obtain ⟨ei,hm⟩:=pin_Phi_ hm 3 rfl cT
      have ky:(az).toNat<aS.phis.length:=(idx_lt cT)
      have ej:∀ u∈([cS]:List Value),u.oneCell'=true:=(one_cons (rep_one (hm.ow_rep 1 rfl)) one_nil)
      refine tf0 rfl rfl (λa hf=>e_storeH (j:=1) (vs:=[cS]) 4 hf hm rfl rfl rfl sizeOf47 rfl rfl (cells_one (ej _ (List.mem_singleton.2 rfl))) ej rfl) ?_
      rintro _ w hm
      replace hm:Mem w0 aq _ [ow [ei] bA.args,ow [cS] b8,ow [dL] aS.next_,ow [dK] aS.ins,holeE dM dN aS.phis.length dO (aS.phis:List Phi_) (az).toNat [nV bA.to,cS],blk b7 [aw] 100,ow [aw] bN,blk aI [nV 0,nV 0,.slice none 0 0] 44,blk aJ [nV aC.params,nV (w64 (aC.regs+f.regs)),sV ah ai ac.length aj] 44,holeE ah ai ac.length aj (bj:List Block_) (au).toNat [sV dM dN aS.phis.length dO,dK,nV aS.jump,nV aS.on,dL],holeE bU bV aF.length aR (bc:List (List (MapS Int))) (au).toNat [sV bL bM ae.length bC],holeE bL bM ae.length bC (ae:List (MapS Int)) (az).toNat [aw],ow [.slice bW av.length bX] av]:=hm
      refine tAn rfl (tE ?_)
      replace hm:Mem w0 aq _ [ow [ei] bA.args,ow [nV bA.to,cS] ((⟨bA.to,b8⟩:Phi_):Phi_),ow [dL] aS.next_,ow [dK] aS.ins,holeE dM dN aS.phis.length dO (aS.phis:List Phi_) (az).toNat [nV bA.to,cS],blk b7 [aw] 100,ow [aw] bN,blk aI [nV 0,nV 0,.slice none 0 0] 44,blk aJ [nV aC.params,nV (w64 (aC.regs+f.regs)),sV ah ai ac.length aj] 44,holeE ah ai ac.length aj (bj:List Block_) (au).toNat [sV dM dN aS.phis.length dO,dK,nV aS.jump,nV aS.on,dL],holeE bU bV aF.length aR (bc:List (List (MapS Int))) (au).toNat [sV bL bM ae.length bC],holeE bL bM ae.length bC (ae:List (MapS Int)) (az).toNat [aw],ow [.slice bW av.length bX] av]:=mk_Phi_ bA.to hm 1 rfl
      replace hm:=(hm.shutE (y:=((⟨bA.to,b8⟩:Phi_):Phi_)) 4 1 (by decide) rfl rfl).pk (L':=[_,_,_,_,_,_,_,_,_,_,_,_]) [0,2,3,4,5,6,7,8,9,10,11,12] rfl rfl
      have kz:=List.getElem?_set_self (a:=((⟨bA.to,b8⟩:Phi_):Phi_)) (idx_lt cT)
      replace hm:=(mk_Block_ aS.jump aS.on hm 3 2 1 rfl).pk (L':=[_,_,_,_,_,_,_,_,_,_]) [0,3,4,5,6,7,8,9,10,11] rfl rfl
      replace hm:=(hm.shutE (y:=((⟨(aS.phis.set (az).toNat (⟨bA.to,b8⟩:Phi_)),aS.ins,aS.jump,aS.on,aS.next_⟩:Block_):Block_)) 6 1 (by decide) rfl rfl).pk (L':=[_,_,_,_,_,_,_,_,_]) [0,2,3,4,5,6,7,8,9] rfl rfl
      have lA:=List.getElem?_set_self (a:=((⟨(aS.phis.set (az).toNat (⟨bA.to,b8⟩:Phi_)),aS.ins,aS.jump,aS.on,aS.next_⟩:Block_):Block_)) (idx_lt bs)
      replace hm:=hm.imp (c':=ow [aw] (bN:MapS Int)) 2 rfl (λF h0=>h0)
      replace hm:=(hm.shutE (y:=(bN:MapS Int)) 7 2 (by decide) rfl rfl).pk (L':=[_,_,_,_,_,_,_,_]) [0,1,3,4,5,6,7,8] rfl rfl
      rw [set_same cR] at hm
      exact gz hm [2,3,4,5,6,7] rfl
     refine tO (tf rfl rfl (λa hf=>e_call hf rfl call61 rfl (impl_mapped_int_int_ok _ av (.slice bW av.length bX) (hm.ow_rep 7 rfl) (λy0=>impl_inlined_2 y0 bN) (.func (.func 62) #[] #[(pV b7)]) (λw y0 r hB hq=>⟨62,[(pV b7)],rfl,call62,impl_inlined_2_ok w y0 bN aw (rep_later (hm.ow_rep 1 rfl) hB) b7 (hm.blk_later 0 rfl hB) r hq⟩) _ eg)) ?_)
     rintro cU w ⟨_,rfl,hB⟩
     replace hm:=hm.give hB;clear hB
     refine tAk hm [1,2,3,4,6,7,8] rfl λhS=>tO ?_
     obtain ⟨lB,dP,dQ,hm⟩:=pin_Block_ hm 5 rfl bs
     have lC:(au).toNat<ac.length:=(idx_lt2 bs (hm.holeE_len 8 rfl))
     refine tY rfl (yl isAgg45 ((hm.holeE_at 8 rfl).cell (j:=0) rfl) rfl) (tAn rfl ?_)
     obtain ⟨iE,cV⟩:=getI_some.1 eh
     obtain ⟨dR,dS,dT,he⟩:=idx_form' (hm.ow_rep 2 rfl) cV
     subst he
     obtain ⟨lD,lE,lF⟩:=rk_Phi_ (hm.ow_rep 2 rfl) cV
     refine tP rfl (λw=>yI st_45 iE (idx_lt cV) rfl) (tP rfl (λw=>yF fo_105_1 rfl) (tO ?_))
     obtain ⟨ek,hm⟩:=pin_Phi_ hm 2 rfl cV
     have lG:(az).toNat<aS.phis.length:=(idx_lt cV)
     have em:∀ u∈([cU]:List Value),u.oneCell'=true:=(one_cons (rep_one (hm.ow_rep 4 rfl)) one_nil)
     refine tf0 rfl rfl (λa hf=>e_storeH (j:=1) (vs:=[cU]) 3 hf hm rfl rfl rfl sizeOf47 rfl rfl (cells_one (em _ (List.mem_singleton.2 rfl))) em rfl) ?_
     rintro _ w hm
     replace hm:Mem w0 aq _ [ow [ek] bA.args,ow [dQ] aS.next_,ow [dP] aS.ins,holeE dR dS aS.phis.length dT (aS.phis:List Phi_) (az).toNat [nV bA.to,cU],ow [cU] b8,blk b7 [aw] 100,ow [aw] bN,blk aI [nV 0,nV 0,.slice none 0 0] 44,blk aJ [nV aC.params,nV (w64 (aC.regs+f.regs)),sV ah ai ac.length aj] 44,holeE ah ai ac.length aj (bj:List Block_) (au).toNat [sV dR dS aS.phis.length dT,dP,nV aS.jump,nV aS.on,dQ],holeE bU bV aF.length aR (bc:List (List (MapS Int))) (au).toNat [sV bL bM ae.length bC],holeE bL bM ae.length bC (ae:List (MapS Int)) (az).toNat [aw],ow [.slice bW av.length bX] av]:=hm
     refine tAn rfl (tE ?_)
     replace hm:Mem w0 aq _ [ow [ek] bA.args,ow [dQ] aS.next_,ow [dP] aS.ins,holeE dR dS aS.phis.length dT (aS.phis:List Phi_) (az).toNat [nV bA.to,cU],ow [nV bA.to,cU] ((⟨bA.to,b8⟩:Phi_):Phi_),blk b7 [aw] 100,ow [aw] bN,blk aI [nV 0,nV 0,.slice none 0 0] 44,blk aJ [nV aC.params,nV (w64 (aC.regs+f.regs)),sV ah ai ac.length aj] 44,holeE ah ai ac.length aj (bj:List Block_) (au).toNat [sV dR dS aS.phis.length dT,dP,nV aS.jump,nV aS.on,dQ],holeE bU bV aF.length aR (bc:List (List (MapS Int))) (au).toNat [sV bL bM ae.length bC],holeE bL bM ae.length bC (ae:List (MapS Int)) (az).toNat [aw],ow [.slice bW av.length bX] av]:=mk_Phi_ bA.to hm 4 rfl
     replace hm:=(hm.shutE (y:=((⟨bA.to,b8⟩:Phi_):Phi_)) 3 4 (by decide) rfl rfl).pk (L':=[_,_,_,_,_,_,_,_,_,_,_,_]) [0,1,2,3,5,6,7,8,9,10,11,12] rfl rfl
     have lH:=List.getElem?_set_self (a:=((⟨bA.to,b8⟩:Phi_):Phi_)) (idx_lt cV)
     replace hm:=(mk_Block_ aS.jump aS.on hm 3 2 1 rfl).pk (L':=[_,_,_,_,_,_,_,_,_,_]) [0,3,4,5,6,7,8,9,10,11] rfl rfl
     replace hm:=(hm.shutE (y:=((⟨(aS.phis.set (az).toNat (⟨bA.to,b8⟩:Phi_)),aS.ins,aS.jump,aS.on,aS.next_⟩:Block_):Block_)) 6 1 (by decide) rfl rfl).pk (L':=[_,_,_,_,_,_,_,_,_]) [0,2,3,4,5,6,7,8,9] rfl rfl
     have lI:=List.getElem?_set_self (a:=((⟨(aS.phis.set (az).toNat (⟨bA.to,b8⟩:Phi_)),aS.ins,aS.jump,aS.on,aS.next_⟩:Block_):Block_)) (idx_lt bs)
     replace hm:=hm.imp (c':=ow [aw] (bN:MapS Int)) 2 rfl (λF h0=>h0)
     replace hm:=(hm.shutE (y:=(bN:MapS Int)) 7 2 (by decide) rfl rfl).pk (L':=[_,_,_,_,_,_,_,_]) [0,1,3,4,5,6,7,8] rfl rfl
     rw [set_same cR] at hm
     exact gz hm [2,3,4,5,6,7] rfl
    repeat clear hm
    intro dJ w hm
    exact gR (gP (by omega) (by omega) rfl (gM rfl (gE (gze hm [0,1,2,3,4,5] rfl))))
   repeat clear hm
   intro lJ lK w hm lL lM
   refine gS (gR (gB rfl (gE (gS (go _ 287 rfl (decide_eq_false (by omega)) (gcf rfl (gXt (gHh ?_))))))))
   replace hm:=hm.imp (c':=ow [.slice dH ae.length bC] (ae:List (MapS Int))) 4 rfl (λF h0=>h0)
   replace hm:=(hm.shutE (y:=(ae:List (MapS Int))) 3 4 (by decide) rfl rfl).pk (L':=[_,_,_,_,_]) [0,1,2,3,5] rfl rfl
   rw [set_same cm] at hm
   exact gR (gP (by omega) (by omega) rfl (gM rfl (gE (gze hm [0,1,2,3] rfl))))
  repeat clear hm
  intro lN lO w hm lP lQ
  refine gS (gR (gB rfl (gE (gS (go _ 276 rfl (decide_eq_false (by omega)) (gcf rfl (gXt (gHh (gS (gR (gY (yn (hm.blk_at 1 rfl) isAgg44 sizeOf44 rfl) (gSN hm 0 sizeOf44 (one_cons rfl (one_cons rfl (one_cons rfl one_nil))) rfl λw hm=>gE (gRt ?_)))))))))))))
  replace hm:=hm.thaw cZ
  exact grc 0 results27 hm rfl isAgg44 sizeOf44 ⟨sV ah ai ac.length aj,rfl,hm.pk [2] rfl rfl⟩
theorem impl_onlyValid_ok (w0 : World) (hz : Heap) (u : Unit_) (v1 : Value) (ok : Bool) (hm0 : Mem w0 hz w0 [ow [v1] u.codes]) :
    ConM Tryz.prog 28 [(.agg #[v1]),(.bool (ok))] w0 (impl_onlyValid u ok) λr v w'=>∃ (x1:Value),v=(.tuple #[(.agg #[x1]),(.bool (r.2))])∧Mem w0 hz w' [ow [x1] r.1.codes]:=by
  unfold impl_onlyValid
  refine gcon func28 rfl λr=>?_
  have hm:=hm0
  refine gS (gR (gBx hm rfl λaB w hm=>gAl hm zeroValue28 rfl λaC w hm=>gA rfl (gE (gS (gS (gJ hm (λaA=>[(2,(pV aB)),(4,(pV aC)),(12,(.bool (aA)))]) (λaA=>[blk aB [v1] 28,ow [v1] u.codes,blk aC [.slice none 0 0] 28]) (λaA=>?_) ?_))))))
  ·refine gR (gM rfl (gN rfl (gM rfl (gsn 8 rfl (fun aD => ?_) fun aD => ?_))))
   ·exact gO rfl (gO rfl (gO rfl (gKt rfl (gE (gz hm [1,2,0] rfl)))))
   exact gY (yn (hm.blk_at 1 rfl) isAgg28 sizeOf28 rfl) (gC hm rfl call34 (impl_UnitValid_ok _ u v1 (hm.ow_rep 2 rfl)) λaF aG w hm=>gN rfl (gKf rfl (gE (gz hm [1,2,0] rfl))))
  repeat clear hm
  intro aA w hm
  refine gs 12 rfl (λaE=>?_) λaE=>?_
  ·refine gct rfl (gS (gR (gY (yG rfl (y_build (vs := []) (cs := #[.slice none 0 0]) rfl rfl (by kernel_rfl))) (gSN hm 2 sizeOf28 (one_cons rfl one_nil) rfl fun w hm => gA rfl (gE (gRt ?_))))))
   replace hm:=hm.nilow (α:=Code_)
   exact grct 3 results28 hm rfl isAgg28 sizeOf28 ⟨.slice none 0 0,rfl,hm.pk [0] rfl rfl⟩
  exact gcf rfl (gSk (gS (gR (gY (yn (hm.blk_at 0 rfl) isAgg28 sizeOf28 rfl) (gSN hm 2 sizeOf28 (one_cons (rep_one (hm.ow_rep 1 rfl)) one_nil) rfl λw hm=>gA rfl (gE (gRt (grct 2 results28 hm rfl isAgg28 sizeOf28 ⟨v1,rfl,hm.pk [1] rfl rfl⟩))))))))
end Go.Proofs.YthikiocjbepfnaaGreat
