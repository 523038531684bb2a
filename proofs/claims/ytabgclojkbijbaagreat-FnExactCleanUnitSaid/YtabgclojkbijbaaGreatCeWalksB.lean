/- A part of the proof of FnExactCleanUnitSaid. -/
import Derived.Test.YtabgclojkbijbaaGreatCeWalksA
namespace Go.Proofs.YtabgclojkbijbaaGreat
open Go Go.Wk Go.RowKit
set_option maxRecDepth 4000
set_option maxHeartbeats 4000000
open Tryz
theorem spec_l18One_ok (w0 : World) (c_ : Code_) (v1 : Value) (h1 : GT.rep (hp w0) [v1] c_.blocks) (b_ : Int) (n_ : Int) :
    ConM Tryz.prog 271 [(.agg #[nV c_.params, nV c_.regs, v1]), nV b_, nV n_] w0 (spec_l18One c_ b_ n_) fun r v w' => ∃ (x1 : Value), v = (.agg #[nV r.params, nV r.regs, x1]) ∧ Mem w0 (hp w0) w' [ow [x1] r.blocks] := by
  unfold spec_l18One
  refine gcon func271 rfl fun r => ?_
  have hm := Mem.start w0
  refine gS (gR (gBx hm rfl fun aI w hm => gAl hm zeroValue49 rfl fun aG w hm => gE (gS (gR (gY (yn (hm.blk_at 1 rfl) isAgg49 sizeOf49 rfl) (gCg rfl call106 (spec_l7Copy_ok _ c_ v1 (hm.now h1)) ?_))))))
  rintro aA cX cY w ⟨cZ, rfl, hB⟩
  replace hm := hm.give hB; clear hB
  refine gAl hm zeroValue49 rfl fun aH w hm => gSN hm 0 sizeOf49 (one_cons rfl (one_cons rfl (one_cons (rep_one (hm.ow_rep 1 rfl)) one_nil))) rfl fun w hm => gE (gS (gR (gF fo_49_2 rfl (gL hm 0 isAgg47 rfl (gM rfl (gg fun aJ bc bA => ?_))))))
  obtain ⟨aB, aC, aE, he⟩ := idx_form' (hm.ow_rep 1 rfl) bA
  subst he
  obtain ⟨c4, c5, c6, c7, c8, c9, ca⟩ := rk_Block_ (hm.ow_rep 1 rfl) bA
  refine gI st_47 bc (idx_lt bA) rfl (gA rfl (gE ?_))
  obtain ⟨aP, bF, aT, hm⟩ := pin_Block_ hm 1 rfl bA
  refine gS (gg fun aD ar au => gb fun cb bG => ?_)
  replace bG := neI_some bG bc ar
  obtain ⟨aS, aj, aN, hm⟩ := pinb_Block_ hm 4 rfl au bG
  refine gW (.p 0 (.p 1 (.p 2 (.p 3 (.p 5 (.p 7 (.q 4 (.e 6 (.p 8 (.p 9 (.e 10 (.e 11 (.p 12 (.p 13 (.e 14 .fin .nil))) .nil) .nil))) .nil)))))))) [6, 10] [0, 1, 2, 3, 5, 7, 8, 9, 12, 13] hm [0, 1, 2, 3, 4, 5, 6, 7, 8, 9] [ow [aN] aD.next_, ow [aj] aD.ins, ow [aS] aD.phis, ow [aT] aJ.next_, ow [bF] aJ.ins, ow [aP] aJ.phis, blk aH [nV aA.params, nV aA.regs, sV aB aC aA.blocks.length aE] 49, hole2E aB aC aA.blocks.length aE (aA.blocks : List Block_) (b_).toNat [aP, bF, nV aJ.jump, nV aJ.on, aT] (n_).toNat [aS, aj, nV aD.jump, nV aD.on, aN], blk aG [nV 0, nV 0, .slice none 0 0] 49, blk aI [nV c_.params, nV c_.regs, v1] 49] rfl mxo (by kernel_rfl) (fun _ _ _ h => h.2) fun w hm hS => tP rfl (fun w => yM rfl) (tP rfl (fun w => yM rfl) (tP rfl (fun w => yG rfl (y_nilptr rfl rfl)) (tP rfl (fun w => yF fo_63_1 rfl) (tP rfl (fun w => yF fo_49_2 rfl) (tP rfl (fun w => yM rfl) (tQ rfl hS (fun w hm => yl isAgg61 ((hm.hole2E_at 7 rfl).cell (j := 1) rfl) rfl) (tO (tY rfl (yL hm 6 isAgg47 rfl) (tAs hS ?_)))))))))
  have hL0_1 := hm.hole2E_len 7 rfl
  refine tP rfl (fun w => yI st_47 ar (idx_lt2 au hL0_1) rfl) (tP rfl (fun w => yF fo_63_1 rfl) (tO (tY rfl (yl isAgg61 ((hm.hole2E_at2 7 rfl).cell (j := 1) rfl) rfl) (tAs hS (tO (gb fun ab bk => ?_))))))
  obtain ⟨bl, bm⟩ := appM_some.1 bk
  replace hm := (hm.both 4 1 (by decide) rfl rfl).pk (L' := [ow [aN] aD.next_, ow [aS] aD.phis, ow [aT] aJ.next_, both (ow [bF] aJ.ins) (ow [aj] aD.ins), ow [aP] aJ.phis, blk aH [nV aA.params, nV aA.regs, sV aB aC aA.blocks.length aE] 49, hole2E aB aC aA.blocks.length aE (aA.blocks : List Block_) (b_).toNat [aP, bF, nV aJ.jump, nV aJ.on, aT] (n_).toNat [aS, aj, nV aD.jump, nV aD.on, aN], blk aG [nV 0, nV 0, .slice none 0 0] 49, blk aI [nV c_.params, nV c_.regs, v1] 49]) [0, 2, 3, 4, 5, 6, 7, 8, 9] rfl rfl
  refine tf rfl rfl (fun a hf => e_appendD (xs := aJ.ins) (ys := aD.ins) 3 et_61 hf hm rfl rfl rfl rfl bl) ?_
  rintro aQ w hm
  rw [bm] at hm
  refine tAn rfl (tP rfl (fun w => yG rfl (y_nilptr rfl rfl)) (tP rfl (fun w => yF fo_63_1 rfl) (tO ?_)))
  have bd : ∀ u ∈ ([aQ] : List Value), u.oneCell' = true := (one_cons (rep_one (hm.ow_rep 3 rfl)) one_nil)
  refine tf0 rfl rfl (fun a hf => e_storeH2 (j := 1) (vs := [aQ]) 6 hf hm rfl rfl rfl sizeOf61 rfl rfl (cells_one (bd _ (List.mem_singleton.2 rfl))) bd rfl) ?_
  rintro _ w hm
  replace hm : Mem w0 (hp w0) _ [ow [aN] aD.next_, ow [aS] aD.phis, ow [aT] aJ.next_, ow [aQ] ab, ow [aP] aJ.phis, blk aH [nV aA.params, nV aA.regs, sV aB aC aA.blocks.length aE] 49, hole2E aB aC aA.blocks.length aE (aA.blocks : List Block_) (b_).toNat [aP, aQ, nV aJ.jump, nV aJ.on, aT] (n_).toNat [aS, aj, nV aD.jump, nV aD.on, aN], blk aG [nV 0, nV 0, .slice none 0 0] 49, blk aI [nV c_.params, nV c_.regs, v1] 49] := hm
  refine tAn rfl (tE (gS (gR (gM rfl (gF fo_49_2 rfl (gL hm 5 isAgg47 rfl (gM rfl ?_)))))))
  have hL0_2 := hm.hole2E_len 6 rfl
  refine gI st_47 ar (idx_lt2 au hL0_2) rfl (gF fo_63_2 rfl (gY (yl isAgg3 ((hm.hole2E_at2 6 rfl).cell (j := 2) rfl) rfl) (gY (yG rfl (y_nilptr rfl rfl)) (gF fo_63_2 rfl ?_))))
  have bo : ∀ u ∈ ([nV aD.jump] : List Value), u.oneCell' = true := (one_cons rfl one_nil)
  refine gf0 rfl (fun a hf => e_storeH2 (j := 2) (vs := [nV aD.jump]) 6 hf hm rfl rfl rfl sizeOf3 rfl rfl rfl bo rfl) ?_
  rintro _ w hm
  replace hm : Mem w0 (hp w0) _ [ow [aN] aD.next_, ow [aS] aD.phis, ow [aT] aJ.next_, ow [aQ] ab, ow [aP] aJ.phis, blk aH [nV aA.params, nV aA.regs, sV aB aC aA.blocks.length aE] 49, hole2E aB aC aA.blocks.length aE (aA.blocks : List Block_) (b_).toNat [aP, aQ, nV aD.jump, nV aJ.on, aT] (n_).toNat [aS, aj, nV aD.jump, nV aD.on, aN], blk aG [nV 0, nV 0, .slice none 0 0] 49, blk aI [nV c_.params, nV c_.regs, v1] 49] := hm
  refine gE (gS (gR (gM rfl (gF fo_49_2 rfl (gL hm 5 isAgg47 rfl (gM rfl ?_))))))
  have hL0_3 := hm.hole2E_len 6 rfl
  refine gI st_47 ar (idx_lt2 au hL0_3) rfl (gF fo_63_3 rfl (gY (yl isAgg3 ((hm.hole2E_at2 6 rfl).cell (j := 3) rfl) rfl) (gY (yG rfl (y_nilptr rfl rfl)) (gF fo_63_3 rfl ?_))))
  have bp : ∀ u ∈ ([nV aD.on] : List Value), u.oneCell' = true := (one_cons rfl one_nil)
  refine gf0 rfl (fun a hf => e_storeH2 (j := 3) (vs := [nV aD.on]) 6 hf hm rfl rfl rfl sizeOf3 rfl rfl rfl bp rfl) ?_
  rintro _ w hm
  replace hm : Mem w0 (hp w0) _ [ow [aN] aD.next_, ow [aS] aD.phis, ow [aT] aJ.next_, ow [aQ] ab, ow [aP] aJ.phis, blk aH [nV aA.params, nV aA.regs, sV aB aC aA.blocks.length aE] 49, hole2E aB aC aA.blocks.length aE (aA.blocks : List Block_) (b_).toNat [aP, aQ, nV aD.jump, nV aD.on, aT] (n_).toNat [aS, aj, nV aD.jump, nV aD.on, aN], blk aG [nV 0, nV 0, .slice none 0 0] 49, blk aI [nV c_.params, nV c_.regs, v1] 49] := hm
  refine gE (gS (gR (gM rfl (gF fo_49_2 rfl (gL hm 5 isAgg47 rfl (gM rfl ?_))))))
  have hL0_4 := hm.hole2E_len 6 rfl
  refine gI st_47 ar (idx_lt2 au hL0_4) rfl (gF fo_63_4 rfl (gY (yl isAgg43 ((hm.hole2E_at2 6 rfl).cell (j := 4) rfl) rfl) (gY (yG rfl (y_nilptr rfl rfl)) (gF fo_63_4 rfl ?_))))
  have be : ∀ u ∈ ([aN] : List Value), u.oneCell' = true := (one_cons (rep_one (hm.ow_rep 0 rfl)) one_nil)
  refine gf0 rfl (fun a hf => e_storeH2 (j := 4) (vs := [aN]) 6 hf hm rfl rfl rfl sizeOf43 rfl rfl (cells_one (be _ (List.mem_singleton.2 rfl))) be rfl) ?_
  rintro _ w hm
  replace hm : Mem w0 (hp w0) _ [ow [aN] aD.next_, ow [aS] aD.phis, ow [aT] aJ.next_, ow [aQ] ab, ow [aP] aJ.phis, blk aH [nV aA.params, nV aA.regs, sV aB aC aA.blocks.length aE] 49, hole2E aB aC aA.blocks.length aE (aA.blocks : List Block_) (b_).toNat [aP, aQ, nV aD.jump, nV aD.on, aN] (n_).toNat [aS, aj, nV aD.jump, nV aD.on, aN], blk aG [nV 0, nV 0, .slice none 0 0] 49, blk aI [nV c_.params, nV c_.regs, v1] 49] := hm
  refine gE (gS (gR (gF fo_49_2 rfl (gL hm 5 isAgg47 rfl (gM rfl (gf rfl (fun a hf => e_build0 (α := Phi_) et_60 hm rfl) ?_))))))
  rintro cc w hm
  refine gf rfl (fun a hf => e_build0 (α := Ins_) et_61 hm rfl) ?_
  rintro cd w hm
  refine gM rfl (gf rfl (fun a hf => e_build (vs := #[(0, (nV n_))]) (cs := [nV n_]) et_43 hf hm rfl rfl (by kernel_rfl) rfl rfl) ?_)
  rintro _ w ⟨ae, rfl, hm⟩
  replace hm := hm.lit (xs := ([n_] : List Int)) 0 rfl rfl rfl rfl
  obtain ⟨af, ag, rfl, ce⟩ := ro_slice (hm.ow_rep 2 rfl)
  obtain ⟨ah, ai, rfl, cf⟩ := ro_slice (hm.ow_rep 1 rfl)
  refine gY (yG rfl (y_build (vs := [(0, (.slice af ([] : List Phi_).length ag)), (1, (.slice ah ([] : List Ins_).length ai)), (2, (nV 1)), (4, (sV ae 0 1 1))]) (cs := #[.slice af ([] : List Phi_).length ag, .slice ah ([] : List Ins_).length ai, nV 1, nV 0, sV ae 0 1 1]) rfl rfl (by kernel_rfl))) ?_
  have hL0_5 := hm.hole2E_len 9 rfl
  refine gI st_47 ar (idx_lt2 au hL0_5) rfl ?_
  have bq : ∀ u ∈ ([.slice af ([] : List Phi_).length ag, .slice ah ([] : List Ins_).length ai, nV 1, nV 0, sV ae 0 1 1] : List Value), u.oneCell' = true := (one_cons rfl (one_cons rfl (one_cons rfl (one_cons rfl (one_cons rfl one_nil)))))
  replace hm : Mem w0 (hp w0) _ [ow [sV ae 0 1 1] ([n_] : List Int), ow [.slice ah ([] : List Ins_).length ai] ([] : List Ins_), ow [.slice af ([] : List Phi_).length ag] ([] : List Phi_), ow [aN] aD.next_, ow [aS] aD.phis, ow [aT] aJ.next_, ow [aQ] ab, ow [aP] aJ.phis, blk aH [nV aA.params, nV aA.regs, sV aB aC aA.blocks.length aE] 49, hole2E aB aC aA.blocks.length aE (aA.blocks : List Block_) (n_).toNat [aS, aj, nV aD.jump, nV aD.on, aN] (b_).toNat [aP, aQ, nV aD.jump, nV aD.on, aN], blk aG [nV 0, nV 0, .slice none 0 0] 49, blk aI [nV c_.params, nV c_.regs, v1] 49] := hm.hole2E_swap 9 rfl
  refine gf0 rfl (fun a hf => e_storeH2 (j := 0) (vs := [.slice af ([] : List Phi_).length ag, .slice ah ([] : List Ins_).length ai, nV 1, nV 0, sV ae 0 1 1]) 9 hf hm rfl rfl rfl sizeOf63 rfl rfl rfl bq rfl) ?_
  rintro _ w hm
  replace hm : Mem w0 (hp w0) _ [ow [sV ae 0 1 1] ([n_] : List Int), ow [.slice ah ([] : List Ins_).length ai] ([] : List Ins_), ow [.slice af ([] : List Phi_).length ag] ([] : List Phi_), ow [aN] aD.next_, ow [aS] aD.phis, ow [aT] aJ.next_, ow [aQ] ab, ow [aP] aJ.phis, blk aH [nV aA.params, nV aA.regs, sV aB aC aA.blocks.length aE] 49, hole2E aB aC aA.blocks.length aE (aA.blocks : List Block_) (n_).toNat [.slice af ([] : List Phi_).length ag, .slice ah ([] : List Ins_).length ai, nV 1, nV 0, sV ae 0 1 1] (b_).toNat [aP, aQ, nV aD.jump, nV aD.on, aN], blk aG [nV 0, nV 0, .slice none 0 0] 49, blk aI [nV c_.params, nV c_.regs, v1] 49] := hm
  refine gE (gS (gS ?_))
  replace hm : Mem w0 (hp w0) _ [ow [sV ae 0 1 1] ([n_] : List Int), ow [.slice ah ([] : List Ins_).length ai] ([] : List Ins_), ow [.slice af ([] : List Phi_).length ag] ([] : List Phi_), ow [aN] aD.next_, ow [aS] aD.phis, ow [aT] aJ.next_, ow [aQ] ab, ow [aP] aJ.phis, blk aH [nV aA.params, nV aA.regs, sV aB aC aA.blocks.length aE] 49, hole2E aB aC aA.blocks.length aE (aA.blocks : List Block_) (b_).toNat [aP, aQ, nV aD.jump, nV aD.on, aN] (n_).toNat [.slice af ([] : List Phi_).length ag, .slice ah ([] : List Ins_).length ai, nV 1, nV 0, sV ae 0 1 1], blk aG [nV 0, nV 0, .slice none 0 0] 49, blk aI [nV c_.params, nV c_.regs, v1] 49] := hm.hole2E_swap 9 rfl
  replace hm := (mk_Block_ 1 0 hm 2 1 0 rfl).pk (L' := [ow [.slice af ([] : List Phi_).length ag, .slice ah ([] : List Ins_).length ai, nV 1, nV 0, sV ae 0 1 1] ((⟨([] : List Phi_), ([] : List Ins_), 1, 0, ([n_] : List Int)⟩ : Block_) : Block_), ow [aN] aD.next_, ow [aS] aD.phis, ow [aT] aJ.next_, ow [aQ] ab, ow [aP] aJ.phis, blk aH [nV aA.params, nV aA.regs, sV aB aC aA.blocks.length aE] 49, hole2E aB aC aA.blocks.length aE (aA.blocks : List Block_) (b_).toNat [aP, aQ, nV aD.jump, nV aD.on, aN] (n_).toNat [.slice af ([] : List Phi_).length ag, .slice ah ([] : List Ins_).length ai, nV 1, nV 0, sV ae 0 1 1], blk aG [nV 0, nV 0, .slice none 0 0] 49, blk aI [nV c_.params, nV c_.regs, v1] 49]) [2, 3, 4, 5, 6, 7, 8, 9, 10, 11] rfl rfl
  replace hm := (hm.shut2E (y := ((⟨([] : List Phi_), ([] : List Ins_), 1, 0, ([n_] : List Int)⟩ : Block_) : Block_)) 7 0 (by decide) rfl rfl).pk (L' := [ow [aN] aD.next_, ow [aS] aD.phis, ow [aT] aJ.next_, ow [aQ] ab, ow [aP] aJ.phis, blk aH [nV aA.params, nV aA.regs, sV aB aC aA.blocks.length aE] 49, holeE aB aC aA.blocks.length aE ((aA.blocks.set (n_).toNat (⟨([] : List Phi_), ([] : List Ins_), 1, 0, ([n_] : List Int)⟩ : Block_)) : List Block_) (b_).toNat [aP, aQ, nV aD.jump, nV aD.on, aN], blk aG [nV 0, nV 0, .slice none 0 0] 49, blk aI [nV c_.params, nV c_.regs, v1] 49]) [1, 2, 3, 4, 5, 6, 7, 8, 9] rfl rfl
  have br : ((aA.blocks.set (n_).toNat (⟨([] : List Phi_), ([] : List Ins_), 1, 0, ([n_] : List Int)⟩ : Block_)) : List Block_)[(b_).toNat]? = some aJ := (List.getElem?_set_ne (Ne.symm (Ne.symm (Ne.symm bG)))).trans bA
  refine gR (gA rfl (gE (gJ hm (fun bH => [(6, (pV aG)), (7, (pV aH))]) (fun bH => [blk aG [nV 0, nV 0, .slice none 0 0] 49, blk aH [nV aA.params, nV aA.regs, sV aB aC aA.blocks.length aE] 49, ow [sV aB aC aA.blocks.length aE] bH]) (fun bH => ?_) ?_)))
  ·refine gBk ?_
   replace hm := (mk_Block_ aD.jump aD.on hm 4 3 0 rfl).pk (L' := [ow [aS] aD.phis, ow [aT] aJ.next_, ow [aP, aQ, nV aD.jump, nV aD.on, aN] ((⟨aJ.phis, ab, aD.jump, aD.on, aD.next_⟩ : Block_) : Block_), blk aH [nV aA.params, nV aA.regs, sV aB aC aA.blocks.length aE] 49, holeE aB aC aA.blocks.length aE ((aA.blocks.set (n_).toNat (⟨([] : List Phi_), ([] : List Ins_), 1, 0, ([n_] : List Int)⟩ : Block_)) : List Block_) (b_).toNat [aP, aQ, nV aD.jump, nV aD.on, aN], blk aG [nV 0, nV 0, .slice none 0 0] 49, blk aI [nV c_.params, nV c_.regs, v1] 49]) [1, 2, 4, 5, 6, 7, 8] rfl rfl
   replace hm := (hm.shutE (y := ((⟨aJ.phis, ab, aD.jump, aD.on, aD.next_⟩ : Block_) : Block_)) 4 2 (by decide) rfl rfl).pk (L' := [ow [aS] aD.phis, ow [aT] aJ.next_, blk aH [nV aA.params, nV aA.regs, sV aB aC aA.blocks.length aE] 49, ow [sV aB aC aA.blocks.length aE] ((aA.blocks.set (n_).toNat (⟨([] : List Phi_), ([] : List Ins_), 1, 0, ([n_] : List Int)⟩ : Block_)).set (b_).toNat (⟨aJ.phis, ab, aD.jump, aD.on, aD.next_⟩ : Block_)), blk aG [nV 0, nV 0, .slice none 0 0] 49, blk aI [nV c_.params, nV c_.regs, v1] 49]) [0, 1, 3, 4, 5, 6] rfl rfl
   have cg := List.getElem?_set_self (a := ((⟨aJ.phis, ab, aD.jump, aD.on, aD.next_⟩ : Block_) : Block_)) (idx_lt br)
   refine gMf hm (fun aV => [(1, (nV b_)), (2, (nV n_)), (3, (pV aI)), (6, (pV aG)), (7, (pV aH)), (8, (.pointer (some ⟨aB, aC + (b_).toNat * 5, none⟩))), (9, (nV aV.2))]) (fun aV => [blk aI [nV c_.params, nV c_.regs, v1] 49, blk aG [nV 0, nV 0, .slice none 0 0] 49, blk aH [nV aA.params, nV aA.regs, sV aB aC aA.blocks.length aE] 49, ow [sV aB aC aA.blocks.length aE] aV.1]) [5, 4, 2, 3] rfl ?_
   repeat clear hm
   intro ci bt aV w hm cj bu
   refine gS (gS (gg fun aK cl bJ => ?_))
   obtain ⟨av, aw, cm, hm⟩ := pin_Block_ hm 3 rfl bJ
   refine gR (gM rfl (gM rfl (gY (yG rfl (y_nilptr rfl rfl)) (gF fo_63_4 rfl (gY (yl isAgg43 ((hm.holeE_at 6 rfl).cell (j := 4) rfl) rfl) ?_)))))
   obtain ⟨bf, ax, rfl, cn⟩ := ro_slice (hm.ow_rep 0 rfl)
   refine gY (yV st_43 rfl) (gB rfl (gE (gsd 79 rfl (fun bv => ?_) fun bv => ?_)))
   ·refine gct rfl (gSk (gS (gJ hm (fun bK => [(1, (nV b_)), (2, (nV n_)), (3, (pV aI)), (6, (pV aG)), (7, (pV aH)), (8, (.pointer (some ⟨aB, aC + (b_).toNat * 5, none⟩))), (9, (nV aV.2))]) (fun bK => [blk aI [nV c_.params, nV c_.regs, v1] 49, blk aG [nV 0, nV 0, .slice none 0 0] 49, blk aH [nV aA.params, nV aA.regs, sV aB aC aA.blocks.length aE] 49, ow [sV aB aC aA.blocks.length aE] bK]) (fun bK => ?_) ?_)))
    ·refine gBk (gS (gR (gM rfl (gY (yG rfl (y_nilptr rfl rfl)) (gF fo_63_4 rfl (gY (yl isAgg43 ((hm.holeE_at 6 rfl).cell (j := 4) rfl) rfl) (gM rfl (gg fun aZ bw bW => ?_))))))))
     obtain ⟨bL, bM, co, he⟩ := idx_form (hm.ow_rep 0 rfl) bW
     obtain ⟨rfl, _, rfl⟩ := sl3 he
     refine gI st_43 bw (idx_lt bW) rfl (gY (yl isAgg3 ((flat_cells (cs := [nV aZ]) (hm.ow_rep 0 rfl) bW rfl).cell (j := 0) rfl) rfl) (gA rfl (gE (gS (gS (gJ hm (fun bN => [(1, (nV b_)), (2, (nV n_)), (3, (pV aI)), (6, (pV aG)), (7, (pV aH)), (8, (.pointer (some ⟨aB, aC + (b_).toNat * 5, none⟩))), (9, (nV aV.2)), (10, (nV aZ)), (100, (.bool (bN)))]) (fun bN => [blk aI [nV c_.params, nV c_.regs, v1] 49, blk aG [nV 0, nV 0, .slice none 0 0] 49, blk aH [nV aA.params, nV aA.regs, sV aB aC aA.blocks.length aE] 49, ow [sV aB aC aA.blocks.length aE] aV.1]) (fun bN => ?_) ?_))))))
     ·refine gR (gM rfl (gB rfl (gM rfl (gsd 91 rfl (fun bx => ?_) fun bx => ?_))))
      ·refine gM rfl (gM rfl (gY (yG rfl (y_nilptr rfl rfl)) (gF fo_63_4 rfl (gY (yl isAgg43 ((hm.holeE_at 6 rfl).cell (j := 4) rfl) rfl) (gg fun bz cA bg => gI st_43 cA (idx_lt bg) rfl (gY (yl isAgg3 ((flat_cells (cs := [nV bz]) (hm.ow_rep 0 rfl) bg rfl).cell (j := 0) rfl) rfl) (gB rfl (gKt rfl (gE ?_)))))))))
       replace hm := (mk_Block_ aK.jump aK.on hm 2 1 0 rfl).pk (L' := [ow [av, aw, nV aK.jump, nV aK.on, sV bL bM aK.next_.length ax] (aK : Block_), blk aI [nV c_.params, nV c_.regs, v1] 49, blk aG [nV 0, nV 0, .slice none 0 0] 49, blk aH [nV aA.params, nV aA.regs, sV aB aC aA.blocks.length aE] 49, holeE aB aC aA.blocks.length aE (aV.1 : List Block_) (b_).toNat [av, aw, nV aK.jump, nV aK.on, sV bL bM aK.next_.length ax]]) [2, 3, 4, 5, 6] rfl rfl
       replace hm := (hm.shutE (y := (aK : Block_)) 4 0 (by decide) rfl rfl).pk (L' := [blk aI [nV c_.params, nV c_.regs, v1] 49, blk aG [nV 0, nV 0, .slice none 0 0] 49, blk aH [nV aA.params, nV aA.regs, sV aB aC aA.blocks.length aE] 49, ow [sV aB aC aA.blocks.length aE] (aV.1.set (b_).toNat aK)]) [1, 2, 3, 4] rfl rfl
       rw [set_same bJ] at hm
       exact gz hm [0, 1, 2, 3] rfl
      refine gO rfl (gO rfl (gO rfl (gO rfl (gO rfl (gO rfl (gO rfl (gO rfl (gKf rfl (gE ?_)))))))))
      replace hm := (mk_Block_ aK.jump aK.on hm 2 1 0 rfl).pk (L' := [ow [av, aw, nV aK.jump, nV aK.on, sV bL bM aK.next_.length ax] (aK : Block_), blk aI [nV c_.params, nV c_.regs, v1] 49, blk aG [nV 0, nV 0, .slice none 0 0] 49, blk aH [nV aA.params, nV aA.regs, sV aB aC aA.blocks.length aE] 49, holeE aB aC aA.blocks.length aE (aV.1 : List Block_) (b_).toNat [av, aw, nV aK.jump, nV aK.on, sV bL bM aK.next_.length ax]]) [2, 3, 4, 5, 6] rfl rfl
      replace hm := (hm.shutE (y := (aK : Block_)) 4 0 (by decide) rfl rfl).pk (L' := [blk aI [nV c_.params, nV c_.regs, v1] 49, blk aG [nV 0, nV 0, .slice none 0 0] 49, blk aH [nV aA.params, nV aA.regs, sV aB aC aA.blocks.length aE] 49, ow [sV aB aC aA.blocks.length aE] (aV.1.set (b_).toNat aK)]) [1, 2, 3, 4] rfl rfl
      rw [set_same bJ] at hm
      exact gz hm [0, 1, 2, 3] rfl
     repeat clear hm
     intro bN w hm
     refine gs 100 rfl (fun cB => ?_) fun cB => ?_
     ·exact gct rfl (gXt (gHh (gz hm [0, 1, 2, 3] rfl)))
     refine gcf rfl (gSk (gS (gR (gY (yn (hm.blk_at 0 rfl) isAgg49 sizeOf49 rfl) (gM rfl (gCg rfl call129 (spec_l7Preds_ok _ c_ v1 (hm.now h1) aZ) ?_))))))
     rintro aL cq cr w ⟨_, rfl, hB⟩
     replace hm := hm.give hB; clear hB
     refine gA rfl (gE (gS (gR (gY (yn (hm.blk_at 3 rfl) isAgg49 sizeOf49 rfl) (gM rfl (gCg rfl call129 (spec_l7Preds_ok _ (⟨aA.params, aA.regs, aV.1⟩ : Code_) (sV aB aC aA.blocks.length aE) (hm.ow_rep 4 rfl) aZ) ?_))))))
     rintro aM ct cu w ⟨_, rfl, hB⟩
     replace hm := hm.give hB; clear hB
     refine gA rfl (gE (gS (gR (gA rfl (gE ?_)))))
     obtain ⟨aW, aX, rfl, cv⟩ := ro_slice (hm.ow_rep 1 rfl)
     obtain ⟨ac, aa, rfl, cw⟩ := ro_slice (hm.ow_rep 0 rfl)
     refine gJ hm (fun bO => [(1, (nV b_)), (2, (nV n_)), (3, (pV aI)), (6, (pV aG)), (7, (pV aH)), (8, (.pointer (some ⟨aB, aC + (b_).toNat * 5, none⟩))), (9, (nV aV.2))]) (fun bO => [blk aI [nV c_.params, nV c_.regs, v1] 49, blk aG [nV 0, nV 0, .slice none 0 0] 49, blk aH [nV aA.params, nV aA.regs, sV aB aC aA.blocks.length aE] 49, ow [sV aB aC aA.blocks.length aE] bO]) (fun bO => ?_) ?_
     ·refine gBk (gMf hm (fun aO => [(1, (nV b_)), (2, (nV n_)), (3, (pV aI)), (6, (pV aG)), (7, (pV aH)), (8, (.pointer (some ⟨aB, aC + (b_).toNat * 5, none⟩))), (9, (nV aV.2)), (10, (nV aZ)), (11, (.slice aW aL.length aX)), (12, (.slice ac aM.length aa)), (13, (nV aO.2))]) (fun aO => [blk aI [nV c_.params, nV c_.regs, v1] 49, blk aG [nV 0, nV 0, .slice none 0 0] 49, blk aH [nV aA.params, nV aA.regs, sV aB aC aA.blocks.length aE] 49, ow [sV aB aC aA.blocks.length aE] aO.1, ow [.slice aW aL.length aX] aL, ow [.slice ac aM.length aa] aM]) [2, 3, 4, 5, 1, 0] rfl ?_)
      repeat clear hm
      intro cx cC aO w hm cy cD
      refine gS (gS (gR (gM rfl (gF fo_49_2 rfl (gL hm 2 isAgg47 rfl (gM rfl (gg fun aR cE bB => ?_)))))))
      obtain ⟨cz, dA, dB, dC, dD, dE, dF⟩ := rk_Block_ (hm.ow_rep 3 rfl) bB
      have hL5_1 := rep_slice_len (hm.ow_rep 3 rfl)
      refine gI st_47 cE (idx_lt2 bB hL5_1) rfl (gF fo_63_0 rfl ?_)
      obtain ⟨dG, bP, bQ, hm⟩ := pin_Block_ hm 3 rfl bB
      refine gY (yl isAgg60 ((hm.holeE_at 6 rfl).cell (j := 0) rfl) rfl) ?_
      obtain ⟨bR, bS, rfl, dH⟩ := ro_slice (hm.ow_rep 2 rfl)
      refine gY (yV st_60 rfl) (gB rfl (gE (gsd 115 rfl (fun cF => ?_) fun cF => ?_)))
      ·refine gct rfl (gSk (gS (gBk (gS ?_))))
       replace hm := (mk_Block_ aR.jump aR.on hm 2 1 0 rfl).pk (L' := [ow [.slice bR aR.phis.length bS, bP, nV aR.jump, nV aR.on, bQ] (aR : Block_), blk aI [nV c_.params, nV c_.regs, v1] 49, blk aG [nV 0, nV 0, .slice none 0 0] 49, blk aH [nV aA.params, nV aA.regs, sV aB aC aA.blocks.length aE] 49, holeE aB aC aA.blocks.length aE (aO.1 : List Block_) (aZ).toNat [.slice bR aR.phis.length bS, bP, nV aR.jump, nV aR.on, bQ], ow [.slice aW aL.length aX] aL, ow [.slice ac aM.length aa] aM]) [2, 3, 4, 5, 6, 7, 8] rfl rfl
       replace hm := (hm.shutE (y := (aR : Block_)) 4 0 (by decide) rfl rfl).pk (L' := [blk aI [nV c_.params, nV c_.regs, v1] 49, blk aG [nV 0, nV 0, .slice none 0 0] 49, blk aH [nV aA.params, nV aA.regs, sV aB aC aA.blocks.length aE] 49, ow [sV aB aC aA.blocks.length aE] (aO.1.set (aZ).toNat aR), ow [.slice aW aL.length aX] aL, ow [.slice ac aM.length aa] aM]) [1, 2, 3, 4, 5, 6] rfl rfl
       rw [set_same bB] at hm
       refine gR (gf rfl (fun a hf => e_build0 (α := Int) et_43 hm rfl) ?_)
       rintro dI w hm
       refine gA rfl (gE (gS (gS (gR (gA rfl (gE ?_))))))
       obtain ⟨cG, cH, rfl, dJ⟩ := ro_slice (hm.ow_rep 0 rfl)
       refine gBk (gNg (fun bX bT a w => ∃ (ay : Value), St 162 [(1, (nV b_)), (2, (nV n_)), (3, (pV aI)), (6, (pV aG)), (7, (pV aH)), (8, (.pointer (some ⟨aB, aC + (b_).toNat * 5, none⟩))), (9, (nV aV.2)), (10, (nV aZ)), (11, (.slice aW aL.length aX)), (12, (.slice ac aM.length aa)), (13, (nV aO.2)), (14, ay), (15, (nV bX))] w0 (hp w0) [blk aI [nV c_.params, nV c_.regs, v1] 49, blk aG [nV 0, nV 0, .slice none 0 0] 49, blk aH [nV aA.params, nV aA.regs, sV aB aC aA.blocks.length aE] 49, ow [sV aB aC aA.blocks.length aE] aO.1, ow [.slice aW aL.length aX] aL, ow [.slice ac aM.length aa] aM, ow [ay] bT] a w) (fun a hf => ⟨.slice cG ([] : List Int).length cH, hf.sb rfl, hm.pk [1, 2, 3, 4, 5, 6, 0] rfl rfl⟩) ?_ ?_)
       ·repeat clear hm
        rintro _ _ bX bT a w ⟨ay, hf, hm⟩ dK dL dM _
        refine gv hf (gS (gS (gR (gM rfl (gM rfl (gY (yV st_43 rfl) (gB rfl (gE (go _ 122 rfl (decide_eq_true (by omega)) (gct rfl (gSk (gS (gBk (gS (gR (gM rfl (gM rfl (gg fun cI cJ bY => ?_))))))))))))))))))
        obtain ⟨bZ, b8, dN, he⟩ := idx_form (hm.ow_rep 5 rfl) bY
        obtain ⟨rfl, _, rfl⟩ := sl3 he
        refine gI st_43 cJ (idx_lt bY) rfl (gY (yl isAgg3 ((flat_cells (cs := [nV cI]) (hm.ow_rep 5 rfl) bY rfl).cell (j := 0) rfl) rfl) (gA rfl (gE (gS (gS (gR (gM rfl (gM rfl (gB rfl (gE (gJ hm (fun bC => [(1, (nV b_)), (2, (nV n_)), (3, (pV aI)), (6, (pV aG)), (7, (pV aH)), (8, (.pointer (some ⟨aB, aC + (b_).toNat * 5, none⟩))), (9, (nV aV.2)), (10, (nV aZ)), (11, (.slice aW aL.length aX)), (12, (sV bZ b8 aM.length aa)), (13, (nV aO.2)), (14, ay), (15, (nV bX)), (16, (nV bC))]) (fun bC => [blk aI [nV c_.params, nV c_.regs, v1] 49, blk aG [nV 0, nV 0, .slice none 0 0] 49, blk aH [nV aA.params, nV aA.regs, sV aB aC aA.blocks.length aE] 49, ow [sV aB aC aA.blocks.length aE] aO.1, ow [.slice aW aL.length aX] aL, ow [sV bZ b8 aM.length aa] aM, ow [ay] bT]) (fun bC => ?_) ?_)))))))))))
        ·refine gsd 131 rfl (fun cK => ?_) fun cK => ?_
         ·exact gct rfl (gR (gM rfl (gA rfl (gE (gz hm [0, 1, 2, 3, 4, 5, 6] rfl)))))
         exact gcf rfl (gSk (gz hm [0, 1, 2, 3, 4, 5, 6] rfl))
        repeat clear hm
        intro bC w hm
        refine gW (.p 0 (.p 1 (.p 3 (.p 7 (.p 11 (.p 12 (.q 2 (.p 4 (.p 5 (.q 6 (.p 8 (.p 9 (.q 10 (.e 13 (.p 14 (.e 15 (.e 16 (.e 17 (.p 18 .fin) .nil) .nil) .nil)) .nil)))))))))))))) [13] [0, 1, 3, 4, 5, 7, 8, 9, 11, 12, 14, 18] hm [0, 1, 2, 3, 4, 5, 6] [blk aI [nV c_.params, nV c_.regs, v1] 49, blk aG [nV 0, nV 0, .slice none 0 0] 49, blk aH [nV aA.params, nV aA.regs, sV aB aC aA.blocks.length aE] 49, ow [sV aB aC aA.blocks.length aE] aO.1, ow [.slice aW aL.length aX] aL, ow [sV bZ b8 aM.length aa] aM, ow [ay] bT] rfl mxo (by kernel_rfl) (fun _ _ _ h => h.2) fun w hm hS => tP rfl (fun w => yM rfl) (tP rfl (fun w => yF fo_49_2 rfl) (tP rfl (fun w => yM rfl) (tP rfl (fun w => yM rfl) (tP rfl (fun w => yM rfl) (tP rfl (fun w => yM rfl) (tQ rfl hS (fun w hm => yL hm 0 isAgg47 rfl) (gg fun dO cL b9 => ?_)))))))
        obtain ⟨dP, dQ, dR, he⟩ := idx_form' h1 b9
        subst he
        obtain ⟨dS, dT, dU, cM, bh, dV, dW⟩ := rk_Block_ h1 b9
        refine tP rfl (fun w => yI st_47 cL (idx_lt b9) rfl) (tP rfl (fun w => yF fo_63_0 rfl) (tQ rfl hS (fun w hm => yl isAgg60 ((cM.mono hm.lez).cell (j := 0) rfl) rfl) (gg fun dX cN ba => ?_)))
        obtain ⟨dY, dZ, d7, he⟩ := idx_form' bh ba
        subst he
        obtain ⟨d8, cO, bi⟩ := rk_Phi_ bh ba
        refine tP rfl (fun w => yI st_60 cN (idx_lt ba) rfl) (tP rfl (fun w => yF fo_127_1 rfl) (tQ rfl hS (fun w hm => yl isAgg43 ((cO.mono hm.lez).cell (j := 1) rfl) rfl) (tO (gb fun d9 cP => tf rfl rfl (fun a hf => e_call hf rfl call176 rfl (spec_l10At_ok _ aL (.slice aW aL.length aX) (hm.ow_rep 4 rfl) bC _ cP)) ?_))))
        rintro da w ⟨rfl, hB⟩
        replace hm := hm.below' hB; clear hB
        refine tAk hm [0, 1, 2, 3, 4, 5, 6] rfl fun hS => gg fun bU cQ bb => ?_
        obtain ⟨db, dc, dd, he⟩ := idx_form bi bb
        subst he
        refine tP rfl (fun w => yI st_43 cQ (idx_lt bb) rfl) (tO (tY rfl (yl isAgg3 ((flat_cells (cs := [nV bU]) (hm.now bi) bb rfl).cell (j := 0) rfl) rfl) (tAn rfl (tO (tf rfl rfl (fun a hf => e_build (vs := #[(0, (nV bU))]) (cs := [nV bU]) et_43 hf hm rfl rfl (by kernel_rfl) rfl rfl) ?_)))))
        rintro _ w ⟨de, rfl, hm⟩
        replace hm := hm.lit (xs := ([bU] : List Int)) 0 rfl rfl rfl rfl
        refine tAn rfl (tO (gb fun df cR => ?_))
        obtain ⟨cS, cT⟩ := appM_some.1 cR
        refine tf rfl rfl (fun a hf => e_append 7 et_43 hf hm rfl (hm.ow_rep 0 rfl) rfl rfl rfl cS) ?_
        rintro cU w hm
        rw [cT] at hm
        exact tAn rfl (tP rfl (fun w => yA rfl) (tE (gR (gM rfl (gP (by omega) (by omega) rfl (gA rfl (gE (gZe fun a hf => ⟨cU, hf.sb rfl, hm.pk [1, 2, 3, 4, 5, 6, 7] rfl rfl⟩))))))))
       repeat clear hm
       rintro dg ak a w ⟨az, hf, hm⟩ dh di
       refine gv hf (gS (gS (gR (gM rfl (gM rfl (gY (yV st_43 rfl) (gB rfl (gE (go _ 122 rfl (decide_eq_false (by omega)) (gcf rfl (gXt (gHh (gR (gF fo_49_2 rfl (gL hm 2 isAgg47 rfl (gM rfl (gg fun aF cV bV => ?_)))))))))))))))))
       obtain ⟨dk, dl, dm, dp, dq, dr, dt⟩ := rk_Block_ (hm.ow_rep 3 rfl) bV
       have hL5_2 := rep_slice_len (hm.ow_rep 3 rfl)
       refine gI st_47 cV (idx_lt2 bV hL5_2) rfl (gF fo_63_0 rfl ?_)
       obtain ⟨du, am, an, hm⟩ := pin_Block_ hm 3 rfl bV
       refine gY (yl isAgg60 ((hm.holeE_at 6 rfl).cell (j := 0) rfl) rfl) (gM rfl (gM rfl (gg fun aY cW bD => ?_)))
       obtain ⟨ao, ap, aq, he⟩ := idx_form' (hm.ow_rep 2 rfl) bD
       subst he
       obtain ⟨dv, dw, dx⟩ := rk_Phi_ (hm.ow_rep 2 rfl) bD
       refine gI st_60 cW (idx_lt bD) rfl (gF fo_127_1 rfl ?_)
       obtain ⟨bE, hm⟩ := pin_Phi_ hm 2 rfl bD
       have bj : ∀ u ∈ ([az] : List Value), u.oneCell' = true := (one_cons (rep_one (hm.ow_rep 10 rfl)) one_nil)
       refine gf0 rfl (fun a hf => e_storeH (j := 1) (vs := [az]) 3 hf hm rfl rfl rfl sizeOf43 rfl rfl (cells_one (bj _ (List.mem_singleton.2 rfl))) bj rfl) ?_
       rintro _ w hm
       replace hm : Mem w0 (hp w0) _ [ow [bE] aY.args, ow [an] aF.next_, ow [am] aF.ins, holeE ao ap aF.phis.length aq (aF.phis : List Phi_) (aO.2).toNat [nV aY.to, az], blk aI [nV c_.params, nV c_.regs, v1] 49, blk aG [nV 0, nV 0, .slice none 0 0] 49, blk aH [nV aA.params, nV aA.regs, sV aB aC aA.blocks.length aE] 49, holeE aB aC aA.blocks.length aE (aO.1 : List Block_) (aZ).toNat [sV ao ap aF.phis.length aq, am, nV aF.jump, nV aF.on, an], ow [.slice aW aL.length aX] aL, ow [.slice ac aM.length aa] aM, ow [az] ak] := hm
       refine gE ?_
       replace hm : Mem w0 (hp w0) _ [ow [bE] aY.args, ow [an] aF.next_, ow [am] aF.ins, holeE ao ap aF.phis.length aq (aF.phis : List Phi_) (aO.2).toNat [nV aY.to, az], blk aI [nV c_.params, nV c_.regs, v1] 49, blk aG [nV 0, nV 0, .slice none 0 0] 49, blk aH [nV aA.params, nV aA.regs, sV aB aC aA.blocks.length aE] 49, holeE aB aC aA.blocks.length aE (aO.1 : List Block_) (aZ).toNat [sV ao ap aF.phis.length aq, am, nV aF.jump, nV aF.on, an], ow [.slice aW aL.length aX] aL, ow [.slice ac aM.length aa] aM, ow [nV aY.to, az] ((⟨aY.to, ak⟩ : Phi_) : Phi_)] := mk_Phi_ aY.to hm 10 rfl
       replace hm := (hm.shutE (y := ((⟨aY.to, ak⟩ : Phi_) : Phi_)) 3 10 (by decide) rfl rfl).pk (L' := [ow [bE] aY.args, ow [an] aF.next_, ow [am] aF.ins, ow [sV ao ap aF.phis.length aq] (aF.phis.set (aO.2).toNat (⟨aY.to, ak⟩ : Phi_)), blk aI [nV c_.params, nV c_.regs, v1] 49, blk aG [nV 0, nV 0, .slice none 0 0] 49, blk aH [nV aA.params, nV aA.regs, sV aB aC aA.blocks.length aE] 49, holeE aB aC aA.blocks.length aE (aO.1 : List Block_) (aZ).toNat [sV ao ap aF.phis.length aq, am, nV aF.jump, nV aF.on, an], ow [.slice aW aL.length aX] aL, ow [.slice ac aM.length aa] aM]) [0, 1, 2, 3, 4, 5, 6, 7, 8, 9] rfl rfl
       have dy := List.getElem?_set_self (a := ((⟨aY.to, ak⟩ : Phi_) : Phi_)) (idx_lt bD)
       replace hm := (mk_Block_ aF.jump aF.on hm 3 2 1 rfl).pk (L' := [ow [bE] aY.args, ow [sV ao ap aF.phis.length aq, am, nV aF.jump, nV aF.on, an] ((⟨(aF.phis.set (aO.2).toNat (⟨aY.to, ak⟩ : Phi_)), aF.ins, aF.jump, aF.on, aF.next_⟩ : Block_) : Block_), blk aI [nV c_.params, nV c_.regs, v1] 49, blk aG [nV 0, nV 0, .slice none 0 0] 49, blk aH [nV aA.params, nV aA.regs, sV aB aC aA.blocks.length aE] 49, holeE aB aC aA.blocks.length aE (aO.1 : List Block_) (aZ).toNat [sV ao ap aF.phis.length aq, am, nV aF.jump, nV aF.on, an], ow [.slice aW aL.length aX] aL, ow [.slice ac aM.length aa] aM]) [0, 3, 4, 5, 6, 7, 8, 9] rfl rfl
       replace hm := (hm.shutE (y := ((⟨(aF.phis.set (aO.2).toNat (⟨aY.to, ak⟩ : Phi_)), aF.ins, aF.jump, aF.on, aF.next_⟩ : Block_) : Block_)) 5 1 (by decide) rfl rfl).pk (L' := [ow [bE] aY.args, blk aI [nV c_.params, nV c_.regs, v1] 49, blk aG [nV 0, nV 0, .slice none 0 0] 49, blk aH [nV aA.params, nV aA.regs, sV aB aC aA.blocks.length aE] 49, ow [sV aB aC aA.blocks.length aE] (aO.1.set (aZ).toNat (⟨(aF.phis.set (aO.2).toNat (⟨aY.to, ak⟩ : Phi_)), aF.ins, aF.jump, aF.on, aF.next_⟩ : Block_)), ow [.slice aW aL.length aX] aL, ow [.slice ac aM.length aa] aM]) [0, 2, 3, 4, 5, 6, 7] rfl rfl
       have dz := List.getElem?_set_self (a := ((⟨(aF.phis.set (aO.2).toNat (⟨aY.to, ak⟩ : Phi_)), aF.ins, aF.jump, aF.on, aF.next_⟩ : Block_) : Block_)) (idx_lt bV)
       exact gR (gM rfl (gB rfl (gA rfl (gE (gze hm [1, 2, 3, 4, 5, 6] rfl)))))
      refine gcf rfl (gXt (gHh ?_))
      replace hm := (mk_Block_ aR.jump aR.on hm 2 1 0 rfl).pk (L' := [ow [.slice bR aR.phis.length bS, bP, nV aR.jump, nV aR.on, bQ] (aR : Block_), blk aI [nV c_.params, nV c_.regs, v1] 49, blk aG [nV 0, nV 0, .slice none 0 0] 49, blk aH [nV aA.params, nV aA.regs, sV aB aC aA.blocks.length aE] 49, holeE aB aC aA.blocks.length aE (aO.1 : List Block_) (aZ).toNat [.slice bR aR.phis.length bS, bP, nV aR.jump, nV aR.on, bQ], ow [.slice aW aL.length aX] aL, ow [.slice ac aM.length aa] aM]) [2, 3, 4, 5, 6, 7, 8] rfl rfl
      replace hm := (hm.shutE (y := (aR : Block_)) 4 0 (by decide) rfl rfl).pk (L' := [blk aI [nV c_.params, nV c_.regs, v1] 49, blk aG [nV 0, nV 0, .slice none 0 0] 49, blk aH [nV aA.params, nV aA.regs, sV aB aC aA.blocks.length aE] 49, ow [sV aB aC aA.blocks.length aE] (aO.1.set (aZ).toNat aR), ow [.slice aW aL.length aX] aL, ow [.slice ac aM.length aa] aM]) [1, 2, 3, 4, 5, 6] rfl rfl
      rw [set_same bB] at hm
      exact gLp cD cC (gz hm [0, 1, 2, 3] rfl)
     repeat clear hm
     intro bO w hm
     exact gz hm [0, 1, 2, 3] rfl
    repeat clear hm
    intro bK w hm
    exact gR (gM rfl (gB rfl (gA rfl (gE (gze hm [0, 1, 2, 3] rfl)))))
   refine gcf rfl (gXt (gHh ?_))
   replace hm := (mk_Block_ aK.jump aK.on hm 2 1 0 rfl).pk (L' := [ow [av, aw, nV aK.jump, nV aK.on, .slice bf aK.next_.length ax] (aK : Block_), blk aI [nV c_.params, nV c_.regs, v1] 49, blk aG [nV 0, nV 0, .slice none 0 0] 49, blk aH [nV aA.params, nV aA.regs, sV aB aC aA.blocks.length aE] 49, holeE aB aC aA.blocks.length aE (aV.1 : List Block_) (b_).toNat [av, aw, nV aK.jump, nV aK.on, .slice bf aK.next_.length ax]]) [2, 3, 4, 5, 6] rfl rfl
   replace hm := (hm.shutE (y := (aK : Block_)) 4 0 (by decide) rfl rfl).pk (L' := [blk aI [nV c_.params, nV c_.regs, v1] 49, blk aG [nV 0, nV 0, .slice none 0 0] 49, blk aH [nV aA.params, nV aA.regs, sV aB aC aA.blocks.length aE] 49, ow [sV aB aC aA.blocks.length aE] (aV.1.set (b_).toNat aK)]) [1, 2, 3, 4] rfl rfl
   rw [set_same bJ] at hm
   exact gLp bu bt (gz hm [1, 2, 3] rfl)
  repeat clear hm
  intro bH w hm
  exact gS (gR (gY (yn (hm.blk_at 1 rfl) isAgg49 sizeOf49 rfl) (gSN hm 0 sizeOf49 (one_cons rfl (one_cons rfl (one_cons rfl one_nil))) rfl fun w hm => gE (gRt (grc 0 results271 hm rfl isAgg49 sizeOf49 ⟨sV aB aC aA.blocks.length aE, rfl, hm.pk [2] rfl rfl⟩)))))
theorem spec_l18Join_ok (w0 : World) (c_ : Code_) (v1 : Value) (h1 : GT.rep (hp w0) [v1] c_.blocks) :
    ConM Tryz.prog 197 [(.agg #[nV c_.params, nV c_.regs, v1])] w0 (spec_l18Join c_) fun r v w' => ∃ (x1 : Value), v = (.agg #[nV r.params, nV r.regs, x1]) ∧ Mem w0 (hp w0) w' [ow [x1] r.blocks] := by
  unfold spec_l18Join
  refine gcon func197 rfl fun r => ?_
  have hm := Mem.start w0
  refine gS (gR (gBx hm rfl fun aX w hm => gAl hm zeroValue49 rfl fun aB w hm => gE (gS (gR (gY (yn (hm.blk_at 1 rfl) isAgg49 sizeOf49 rfl) (gCg rfl call187 (spec_l10Drop_ok _ c_ v1 (hm.now h1)) ?_))))))
  rintro aM aY aZ w ⟨aa, rfl, hB⟩
  replace hm := hm.give hB; clear hB
  refine gAl hm zeroValue49 rfl fun aC w hm => gSN hm 0 sizeOf49 (one_cons rfl (one_cons rfl (one_cons (rep_one (hm.ow_rep 1 rfl)) one_nil))) rfl fun w hm => gE (gS (gS (gR (gA rfl (gE ?_)))))
  obtain ⟨aN, aO, rfl, ab⟩ := ro_slice (hm.ow_rep 1 rfl)
  refine gJg (fun aD a w => ∃ (aG : Value), St 26 [(2, (pV aB)), (3, (pV aC))] w0 (hp w0) [blk aB [nV 0, nV 0, .slice none 0 0] 49, blk aC [nV aD.1, nV aD.2.1, aG] 49, ow [aG] aD.2.2] a w) (fun aD => ?_) ?_
  ·refine gBk (gMg (fun aA a w => ∃ (aL : Value), St 26 [(2, (pV aB)), (3, (pV aC)), (4, (nV aA.2.2.2))] w0 (hp w0) [blk aB [nV 0, nV 0, .slice none 0 0] 49, blk aC [nV aA.1, nV aA.2.1, aL] 49, ow [aL] aA.2.2.1] a w) (fun a hf => ⟨.slice aN aM.blocks.length aO, hf.sb rfl, hm.pk [2, 0, 1] rfl rfl⟩) ?_)
   repeat clear hm
   rintro ac aP aA a w ⟨aL, hf, hm⟩ ae aQ
   refine gv hf (gS (gS (gR (gM rfl (gF fo_49_2 rfl (gL hm 1 isAgg47 rfl ?_))))))
   obtain ⟨aH, aI, rfl, af⟩ := ro_slice (hm.ow_rep 2 rfl)
   refine gY (yV st_47 rfl) (gB rfl (gE (gsd 12 rfl (fun aR => ?_) fun aR => ?_)))
   ·refine gct rfl (gSk (gS (gJg (fun aE a w => ∃ (aJ : Value), St 26 [(2, (pV aB)), (3, (pV aC)), (4, (nV aE.2.2.2))] w0 (hp w0) [blk aB [nV 0, nV 0, .slice none 0 0] 49, blk aC [nV aE.1, nV aE.2.1, aJ] 49, ow [aJ] aE.2.2.1] a w) (fun aE => ?_) ?_)))
    ·refine gBk (gS (gR (gY (yn (hm.blk_at 1 rfl) isAgg49 sizeOf49 rfl) (gM rfl (gC hm rfl call270 (spec_l18Next_ok _ (⟨aA.1, aA.2.1, aA.2.2.1⟩ : Code_) (.slice aH aA.2.2.1.length aI) (hm.ow_rep 2 rfl) aA.2.2.2) fun aS ag w hm => gA rfl (gE (gS (gR (gM rfl (gB rfl (gE (gJg (fun aF a w => ∃ (aK : Value), St 26 [(2, (pV aB)), (3, (pV aC)), (4, (nV aF.2.2.2))] w0 (hp w0) [blk aB [nV 0, nV 0, .slice none 0 0] 49, blk aC [nV aF.1, nV aF.2.1, aK] 49, ow [aK] aF.2.2.1] a w) (fun aF => ?_) ?_))))))))))))
     ·refine gsd 19 rfl (fun aT => ?_) fun aT => ?_
      ·refine gct rfl (gS (gR (gY (yn (hm.blk_at 1 rfl) isAgg49 sizeOf49 rfl) (gM rfl (gM rfl (gCg rfl call271 (spec_l18One_ok _ (⟨aA.1, aA.2.1, aA.2.2.1⟩ : Code_) (.slice aH aA.2.2.1.length aI) (hm.ow_rep 2 rfl) aA.2.2.2 aS) ?_))))))
       rintro ah ai aj w ⟨aV, rfl, hB⟩
       replace hm := hm.give hB; clear hB
       exact gSN hm 2 sizeOf49 (one_cons rfl (one_cons rfl (one_cons (rep_one (hm.ow_rep 0 rfl)) one_nil))) rfl fun w hm => gE (gR (gA rfl (gE (gZ fun a hf => ⟨aV, hf.sb rfl, hm.pk [1, 2, 0] rfl rfl⟩))))
      exact gcf rfl (gSk (gZ fun a hf => ⟨.slice aH aA.2.2.1.length aI, hf.sb rfl, hm.pk [0, 1, 2] rfl rfl⟩))
     repeat clear hm
     rintro aF a w ⟨aK, hf, hm⟩
     exact gv hf (gZ fun a hf => ⟨aK, hf.sb rfl, hm.pk [0, 1, 2] rfl rfl⟩)
    repeat clear hm
    rintro aE a w ⟨aJ, hf, hm⟩
    exact gv hf (gR (gM rfl (gB rfl (gA rfl (gE (gZe fun a hf => ⟨aJ, hf.sb rfl, hm.pk [0, 1, 2] rfl rfl⟩))))))
   exact gcf rfl (gXt (gHh (gLp aQ aP (gZ fun a hf => ⟨.slice aH aA.2.2.1.length aI, hf.sb rfl, hm.pk [0, 1, 2] rfl rfl⟩))))
  repeat clear hm
  rintro aD a w ⟨aG, hf, hm⟩
  refine gv hf (gS (gR (gY (yn (hm.blk_at 1 rfl) isAgg49 sizeOf49 rfl) (gCg rfl call187 (spec_l10Drop_ok _ (⟨aD.1, aD.2.1, aD.2.2⟩ : Code_) aG (hm.ow_rep 2 rfl)) ?_))))
  rintro ak am an w ⟨aW, rfl, hB⟩
  replace hm := hm.give hB; clear hB
  exact gSN hm 1 sizeOf49 (one_cons rfl (one_cons rfl (one_cons (rep_one (hm.ow_rep 0 rfl)) one_nil))) rfl fun w hm => gE (gRt (grc 1 results197 hm rfl isAgg49 sizeOf49 ⟨aW, rfl, hm.pk [0] rfl rfl⟩))
theorem spec_l5Ints_ok (w0 : World) (a_ : List Int) (v1 : Value) (h1 : GT.rep (hp w0) [v1] a_) (b_ : List Int) (v2 : Value) (h2 : GT.rep (hp w0) [v2] b_) :
    ConM Tryz.prog 354 [v1, v2] w0 (spec_l5Ints a_ b_) fun r v w' => v = (.bool (r)) ∧ Below w0.heap.size w0 w' := by
  unfold spec_l5Ints
  refine gcon func354 rfl fun r => ?_
  have hm := Mem.start w0
  refine gS (gR (gA rfl (gE (gS (gS (gR (gM rfl ?_)))))))
  obtain ⟨aE, aF, rfl, aQ⟩ := ro_slice h1
  refine gY (yV st_43 rfl) (gM rfl ?_)
  obtain ⟨aG, aH, rfl, aR⟩ := ro_slice h2
  refine gY (yV st_43 rfl) (gB rfl (gE (gsd 10 rfl (fun aI => ?_) fun aI => ?_)))
  ·exact gct rfl (gS (gR (gA rfl (gE (gRt (gr1 results354 rfl ⟨rfl, hm.below⟩))))))
  refine gcf rfl (gSk (gS (gS (gR (gA rfl (gE (gBk (gNf hm (fun aA aD => [(0, (.slice aE a_.length aF)), (1, (.slice aG b_.length aH)), (5, (nV aA))]) (fun aA aD => []) [] rfl ?_ ?_))))))))
  ·repeat clear hm
   intro aS aJ aA aD w hm aT aV aW aK
   refine gS (gS (gR (gM rfl (gM rfl (gY (yV st_43 rfl) (gB rfl (gE (go _ 14 rfl (decide_eq_true (by omega)) (gct rfl (gSk (gS (gBk (gS (gW (.p 0 (.p 1 (.p 2 (.p 4 (.p 5 (.p 6 (.q 3 (.e 7 (.p 8 .fin) .nil)))))))) [7] [0, 1, 2, 4, 5, 6, 8] hm [] [] rfl mxo (by kernel_rfl) (fun _ _ _ h => h.2) fun w hm hS => tP rfl (fun w => yM rfl) (tP rfl (fun w => yM rfl) (gg fun aL aM aB => ?_))))))))))))))))
   obtain ⟨aX, aY, aZ, he⟩ := idx_form h1 aB
   obtain ⟨rfl, _, rfl⟩ := sl3 he
   refine tP rfl (fun w => yI st_43 aM (idx_lt aB) rfl) (tP rfl (fun w => yM rfl) (tP rfl (fun w => yM rfl) (gg fun aN aO aC => ?_)))
   obtain ⟨aa, ab, ac, he⟩ := idx_form h2 aC
   obtain ⟨rfl, _, rfl⟩ := sl3 he
   refine tP rfl (fun w => yI st_43 aO (idx_lt aC) rfl) (tQ rfl hS (fun w hm => yl isAgg3 ((flat_cells (cs := [nV aL]) (hm.now h1) aB rfl).cell (j := 0) rfl) rfl) (tO (tY rfl (yl isAgg3 ((flat_cells (cs := [nV aN]) (hm.now h2) aC rfl).cell (j := 0) rfl) rfl) (tAs hS (tP rfl (fun w => yB rfl) (tE (gsd 25 rfl (fun aP => ?_) fun aP => ?_)))))))
   ·exact gct rfl (gS (gR (gA rfl (gE (gRt (gLr aK aJ (gr1 results354 rfl ⟨rfl, hm.below⟩)))))))
   exact gcf rfl (gSk (gR (gM rfl (gP (by omega) (by omega) rfl (gA rfl (gE (gze hm [] rfl)))))))
  repeat clear hm
  intro ae af w hm ag ah
  exact gS (gS (gR (gM rfl (gM rfl (gY (yV st_43 rfl) (gB rfl (gE (go _ 14 rfl (decide_eq_false (by omega)) (gcf rfl (gXt (gHh (gS (gR (gA rfl (gE (gRt (gr1 results354 rfl ⟨rfl, hm.below⟩)))))))))))))))))
theorem spec_l7SameBlock_ok (w0 : World) (a_ : Block_) (v1 : Value) (h1 : GT.rep (hp w0) [v1] a_.phis) (v2 : Value) (h2 : GT.rep (hp w0) [v2] a_.ins) (v3 : Value) (h3 : GT.rep (hp w0) [v3] a_.next_) (b_ : Block_) (v4 : Value) (h4 : GT.rep (hp w0) [v4] b_.phis) (v5 : Value) (h5 : GT.rep (hp w0) [v5] b_.ins) (v6 : Value) (h6 : GT.rep (hp w0) [v6] b_.next_) :
    ConM Tryz.prog 328 [(.agg #[v1, v2, nV a_.jump, nV a_.on, v3]), (.agg #[v4, v5, nV b_.jump, nV b_.on, v6])] w0 (spec_l7SameBlock a_ b_) fun r v w' => v = (.bool (r)) ∧ Below w0.heap.size w0 w' := by
  unfold spec_l7SameBlock
  refine gcon func328 rfl fun r => ?_
  have hm := Mem.start w0
  refine gS (gR (gBx hm rfl fun aA w hm => gBx hm rfl fun aB w hm => gA rfl (gE (gS (gS (gJ hm (fun aC => [(2, (pV aA)), (3, (pV aB)), (46, (.bool (aC)))]) (fun aC => [blk aA [v1, v2, nV a_.jump, nV a_.on, v3] 63, blk aB [v4, v5, nV b_.jump, nV b_.on, v6] 63]) (fun aC => ?_) ?_))))))
  ·refine gR (gF fo_63_0 rfl (gL hm 1 isAgg60 rfl ?_))
   obtain ⟨bN, bO, rfl, bP⟩ := ro_slice h1
   refine gY (yV st_60 rfl) (gF fo_63_0 rfl (gL hm 0 isAgg60 rfl ?_))
   obtain ⟨bQ, bR, rfl, bS⟩ := ro_slice h4
   refine gY (yV st_60 rfl) (gB rfl (gM rfl (gsd 16 rfl (fun aY => ?_) fun aY => ?_)))
   ·refine gO rfl (gO rfl (gO rfl (gO rfl (gO rfl (gO rfl (gO rfl (gKt rfl (gM rfl (gO rfl (gO rfl (gO rfl (gO rfl (gO rfl (gKt rfl (gM rfl (gO rfl (gO rfl (gO rfl (gO rfl (gO rfl (gKt rfl (gM rfl (gO rfl (gO rfl (gO rfl (gO rfl (gO rfl (gO rfl (gKt rfl (gE ?_))))))))))))))))))))))))))))))
    exact gz hm [1, 0] rfl
   refine gF fo_63_1 rfl (gL hm 1 isAgg61 rfl ?_)
   obtain ⟨bT, bU, rfl, bV⟩ := ro_slice h2
   refine gY (yV st_61 rfl) (gF fo_63_1 rfl (gL hm 0 isAgg61 rfl ?_))
   obtain ⟨bW, bX, rfl, bY⟩ := ro_slice h5
   refine gY (yV st_61 rfl) (gB rfl (gKf rfl (gM rfl (gsd 25 rfl (fun aZ => ?_) fun aZ => ?_))))
   ·exact gO rfl (gO rfl (gO rfl (gO rfl (gO rfl (gKt rfl (gM rfl (gO rfl (gO rfl (gO rfl (gO rfl (gO rfl (gKt rfl (gM rfl (gO rfl (gO rfl (gO rfl (gO rfl (gO rfl (gO rfl (gKt rfl (gE (gz hm [1, 0] rfl))))))))))))))))))))))
   refine gF fo_63_2 rfl (gL hm 1 isAgg3 rfl (gF fo_63_2 rfl (gL hm 0 isAgg3 rfl (gB rfl (gKf rfl (gM rfl (gsd 32 rfl (fun aa => ?_) fun aa => ?_)))))))
   ·exact gO rfl (gO rfl (gO rfl (gO rfl (gO rfl (gKt rfl (gM rfl (gO rfl (gO rfl (gO rfl (gO rfl (gO rfl (gO rfl (gKt rfl (gE (gz hm [1, 0] rfl)))))))))))))))
   refine gF fo_63_3 rfl (gL hm 1 isAgg3 rfl (gF fo_63_3 rfl (gL hm 0 isAgg3 rfl (gB rfl (gKf rfl (gM rfl (gsd 39 rfl (fun ab => ?_) fun ab => ?_)))))))
   ·exact gO rfl (gO rfl (gO rfl (gO rfl (gO rfl (gO rfl (gKt rfl (gE (gz hm [1, 0] rfl))))))))
   exact gF fo_63_4 rfl (gL hm 1 isAgg43 rfl (gF fo_63_4 rfl (gL hm 0 isAgg43 rfl (gC hm rfl call354 (spec_l5Ints_ok _ a_.next_ v3 (hm.now h3) b_.next_ v6 (hm.now h6)) fun bZ b8 w hm => gN rfl (gKf rfl (gE (gz hm [1, 0] rfl)))))))
  repeat clear hm
  intro aC w hm
  refine gs 46 rfl (fun ac => ?_) fun ac => ?_
  ·exact gct rfl (gS (gR (gA rfl (gE (gRt (gr1 results328 rfl ⟨rfl, hm.below⟩))))))
  refine gcf rfl (gSk (gS (gS (gR (gA rfl (gE (gBk (gNf hm (fun aD aL => [(2, (pV aA)), (3, (pV aB)), (5, (nV aD))]) (fun aD aL => [blk aA [v1, v2, nV a_.jump, nV a_.on, v3] 63, blk aB [v4, v5, nV b_.jump, nV b_.on, v6] 63]) [0, 1] rfl ?_ ?_))))))))
  ·repeat clear hm
   intro b9 ae aD aL w hm ba bb bc af
   refine gS (gS (gR (gM rfl (gF fo_63_0 rfl (gL hm 0 isAgg60 rfl ?_)))))
   obtain ⟨aM, aN, rfl, bd⟩ := ro_slice h1
   refine gY (yV st_60 rfl) (gB rfl (gE (go _ 51 rfl (decide_eq_true (by omega)) (gct rfl (gSk (gS (gBk (gS (gJ hm (fun aE => [(2, (pV aA)), (3, (pV aB)), (5, (nV aD)), (82, (.bool (aE)))]) (fun aE => [blk aA [.slice aM a_.phis.length aN, v2, nV a_.jump, nV a_.on, v3] 63, blk aB [v4, v5, nV b_.jump, nV b_.on, v6] 63]) (fun aE => ?_) ?_)))))))))
   ·refine gW (.p 0 (.p 2 (.p 6 (.p 8 (.q 1 (.p 3 (.p 4 (.q 5 (.e 7 (.p 9 (.p 10 (.e 11 (.p 12 (.p 13 (.p 14 (.p 16 (.p 20 (.p 22 (.q 15 (.p 17 (.p 18 (.q 19 (.e 21 (.p 23 (.p 24 (.e 25 (.e 26 (.p 27 (.p 28 .fin)) .nil) .nil))) .nil))))))))))) .nil))) .nil))))))))) [7, 11, 21, 25] [0, 2, 3, 4, 6, 8, 9, 10, 12, 13, 14, 16, 17, 18, 20, 22, 23, 24, 27, 28] hm [0, 1] [blk aA [.slice aM a_.phis.length aN, v2, nV a_.jump, nV a_.on, v3] 63, blk aB [v4, v5, nV b_.jump, nV b_.on, v6] 63] rfl mxo (by kernel_rfl) (fun _ _ _ h => h.2) fun w hm hS => tP rfl (fun w => yF fo_63_0 rfl) (tP rfl (fun w => yM rfl) (tP rfl (fun w => yF fo_63_0 rfl) (tP rfl (fun w => yM rfl) (tQ rfl hS (fun w hm => yL hm 0 isAgg60 rfl) (gg fun ag aO aF => ?_)))))
    obtain ⟨be, bf, bg, he⟩ := idx_form' h1 aF
    obtain ⟨rfl, _, rfl⟩ := sl3 he
    obtain ⟨ah, aP, ai⟩ := rk_Phi_ h1 aF
    refine tP rfl (fun w => yI st_60 aO (idx_lt aF) rfl) (tP rfl (fun w => yF fo_127_0 rfl) (tQ rfl hS (fun w hm => yl isAgg3 ((aP.mono hm.lez).cell (j := 0) rfl) rfl) (tO (tY rfl (yL hm 1 isAgg60 rfl) (tAs hS (gg fun aj aQ aG => ?_))))))
    obtain ⟨bh, bi, bj, he⟩ := idx_form' h4 aG
    subst he
    obtain ⟨ak, aR, am⟩ := rk_Phi_ h4 aG
    refine tP rfl (fun w => yI st_60 aQ (idx_lt aG) rfl) (tP rfl (fun w => yF fo_127_0 rfl) (tO (tY rfl (yl isAgg3 ((aR.mono hm.lez).cell (j := 0) rfl) rfl) (tAs hS (tP rfl (fun w => yB rfl) (tP rfl (fun w => yM rfl) (gsd 67 rfl (fun an => ?_) fun an => ?_)))))))
    ·exact tPo rfl rfl (tPo rfl rfl (tPo rfl rfl (tPo rfl rfl (tQo rfl hS rfl (tPo rfl rfl (tPo rfl rfl (tQo rfl hS rfl (tO (tEo rfl rfl (tAs hS (tPo rfl rfl (tPo rfl rfl (tO (tEo rfl rfl (tAs hS (tO (tEo rfl rfl (tAn rfl (tPo rfl rfl (tP rfl (fun w => yKt rfl) (tE (gz hm [0, 1] rfl))))))))))))))))))))))
    refine tP rfl (fun w => yF fo_63_0 rfl) (tP rfl (fun w => yM rfl) (tP rfl (fun w => yF fo_63_0 rfl) (tP rfl (fun w => yM rfl) (tQ rfl hS (fun w hm => yL hm 0 isAgg60 rfl) (tP rfl (fun w => yI st_60 aO (idx_lt aF) rfl) (tP rfl (fun w => yF fo_127_1 rfl) (tQ rfl hS (fun w hm => yl isAgg43 ((aP.mono hm.lez).cell (j := 1) rfl) rfl) (tO (tY rfl (yL hm 1 isAgg60 rfl) (tAs hS (tP rfl (fun w => yI st_60 aQ (idx_lt aG) rfl) (tP rfl (fun w => yF fo_127_1 rfl) (tO (tY rfl (yl isAgg43 ((aR.mono hm.lez).cell (j := 1) rfl) rfl) (tAs hS (tO (gb fun bk ao => tf rfl rfl (fun a hf => e_call hf rfl call354 rfl (spec_l5Ints_ok _ ag.args ah (hm.now ai) aj.args ak (hm.now am) _ ao)) ?_)))))))))))))))))
    rintro bl w ⟨rfl, hB⟩
    replace hm := hm.below' hB; clear hB
    exact tAn rfl (tP rfl (fun w => yN rfl) (tP rfl (fun w => yKf rfl) (tE (gz hm [0, 1] rfl))))
   repeat clear hm
   intro aE w hm
   refine gs 82 rfl (fun ap => ?_) fun ap => ?_
   ·exact gct rfl (gS (gR (gA rfl (gE (gRt (gLr af ae (gr1 results328 rfl ⟨rfl, hm.below⟩)))))))
   exact gcf rfl (gSk (gR (gM rfl (gP (by omega) (by omega) rfl (gA rfl (gE (gze hm [0, 1] rfl)))))))
  repeat clear hm
  intro bm bo w hm bp bq
  refine gS (gS (gR (gM rfl (gF fo_63_0 rfl (gL hm 0 isAgg60 rfl ?_)))))
  obtain ⟨aS, aT, rfl, br⟩ := ro_slice h1
  refine gY (yV st_60 rfl) (gB rfl (gE (go _ 51 rfl (decide_eq_false (by omega)) (gcf rfl (gXt (gHh (gS (gS (gR (gA rfl (gE (gBk (gNf hm (fun aH aV => [(2, (pV aA)), (3, (pV aB)), (6, (nV aH))]) (fun aH aV => [blk aA [.slice aS a_.phis.length aT, v2, nV a_.jump, nV a_.on, v3] 63, blk aB [v4, v5, nV b_.jump, nV b_.on, v6] 63]) [0, 1] rfl ?_ ?_)))))))))))))
  ·repeat clear hm
   intro bt aq aH aV w hm bu bv bw ar
   refine gS (gS (gR (gM rfl (gF fo_63_1 rfl (gL hm 0 isAgg61 rfl ?_)))))
   obtain ⟨bx, au, rfl, bz⟩ := ro_slice h2
   refine gY (yV st_61 rfl) (gB rfl (gE (go _ 87 rfl (decide_eq_true (by omega)) (gct rfl (gSk (gS (gBk (gS (gR (gF fo_63_1 rfl (gL hm 0 isAgg61 rfl (gM rfl (gg fun av aw aJ => ?_)))))))))))))
   obtain ⟨ax, ay, cA, he⟩ := idx_form' h2 aJ
   obtain ⟨rfl, _, rfl⟩ := sl3 he
   obtain ⟨az, bA, aW⟩ := rk_Ins_ h2 aJ
   refine gI st_61 aw (idx_lt aJ) rfl (gY (yn (bA.mono hm.lez) isAgg65 sizeOf65 rfl) (gAl hm zeroValue65 rfl fun cB w hm => gSN hm 0 sizeOf65 (one_cons rfl (one_cons rfl (one_cons (rep_one aW) (one_cons rfl one_nil)))) rfl fun w hm => gE (gS (gR (gF fo_63_1 rfl (gL hm 2 isAgg61 rfl (gM rfl (gg fun bB bC aK => ?_))))))))
   obtain ⟨bD, bE, bF, he⟩ := idx_form' h5 aK
   subst he
   obtain ⟨bG, bH, aX⟩ := rk_Ins_ h5 aK
   refine gI st_61 bC (idx_lt aK) rfl (gY (yn (bH.mono hm.lez) isAgg65 sizeOf65 rfl) (gAl hm zeroValue65 rfl fun cC w hm => gSN hm 0 sizeOf65 (one_cons rfl (one_cons rfl (one_cons (rep_one aX) (one_cons rfl one_nil)))) rfl fun w hm => gE (gS (gJ hm (fun aI => [(2, (pV aA)), (3, (pV aB)), (6, (nV aH)), (126, (.bool (aI)))]) (fun aI => [blk aA [.slice aS a_.phis.length aT, sV ax ay a_.ins.length au, nV a_.jump, nV a_.on, v3] 63, blk aB [v4, sV bD bE b_.ins.length bF, nV b_.jump, nV b_.on, v6] 63]) (fun aI => ?_) ?_))))
   ·refine gR (gF fo_65_0 rfl (gL hm 1 isAgg3 rfl (gF fo_65_0 rfl (gL hm 0 isAgg3 rfl (gB rfl (gM rfl (gsd 105 rfl (fun bJ => ?_) fun bJ => ?_)))))))
    ·exact gO rfl (gO rfl (gO rfl (gO rfl (gO rfl (gKt rfl (gM rfl (gO rfl (gO rfl (gO rfl (gO rfl (gO rfl (gKt rfl (gM rfl (gO rfl (gO rfl (gO rfl (gO rfl (gO rfl (gO rfl (gKt rfl (gE (gz hm [2, 3] rfl))))))))))))))))))))))
    refine gF fo_65_1 rfl (gL hm 1 isAgg3 rfl (gF fo_65_1 rfl (gL hm 0 isAgg3 rfl (gB rfl (gKf rfl (gM rfl (gsd 112 rfl (fun bK => ?_) fun bK => ?_)))))))
    ·exact gO rfl (gO rfl (gO rfl (gO rfl (gO rfl (gKt rfl (gM rfl (gO rfl (gO rfl (gO rfl (gO rfl (gO rfl (gO rfl (gKt rfl (gE (gz hm [2, 3] rfl)))))))))))))))
    refine gF fo_65_3 rfl (gL hm 1 isAgg3 rfl (gF fo_65_3 rfl (gL hm 0 isAgg3 rfl (gB rfl (gKf rfl (gM rfl (gsd 119 rfl (fun bL => ?_) fun bL => ?_)))))))
    ·exact gO rfl (gO rfl (gO rfl (gO rfl (gO rfl (gO rfl (gKt rfl (gE (gz hm [2, 3] rfl))))))))
    exact gF fo_65_2 rfl (gL hm 1 isAgg43 rfl (gF fo_65_2 rfl (gL hm 0 isAgg43 rfl (gC hm rfl call354 (spec_l5Ints_ok _ av.args az (hm.now aW) bB.args bG (hm.now aX)) fun cD cE w hm => gN rfl (gKf rfl (gE (gz hm [2, 3] rfl)))))))
   repeat clear hm
   intro aI w hm
   refine gs 126 rfl (fun bM => ?_) fun bM => ?_
   ·exact gct rfl (gS (gR (gA rfl (gE (gRt (gLr ar aq (gr1 results328 rfl ⟨rfl, hm.below⟩)))))))
   exact gcf rfl (gSk (gR (gM rfl (gP (by omega) (by omega) rfl (gA rfl (gE (gze hm [0, 1] rfl)))))))
  repeat clear hm
  intro cF cG w hm cH cI
  refine gS (gS (gR (gM rfl (gF fo_63_1 rfl (gL hm 0 isAgg61 rfl ?_)))))
  obtain ⟨cJ, cK, rfl, cL⟩ := ro_slice h2
  exact gY (yV st_61 rfl) (gB rfl (gE (go _ 87 rfl (decide_eq_false (by omega)) (gcf rfl (gXt (gHh (gS (gR (gA rfl (gE (gRt (gr1 results328 rfl ⟨rfl, hm.below⟩))))))))))))
theorem spec_l7SameCode_ok (w0 : World) (a_ : Code_) (v1 : Value) (h1 : GT.rep (hp w0) [v1] a_.blocks) (b_ : Code_) (v2 : Value) (h2 : GT.rep (hp w0) [v2] b_.blocks) :
    ConM Tryz.prog 272 [(.agg #[nV a_.params, nV a_.regs, v1]), (.agg #[nV b_.params, nV b_.regs, v2])] w0 (spec_l7SameCode a_ b_) fun r v w' => v = (.bool (r)) ∧ Below w0.heap.size w0 w' := by
  unfold spec_l7SameCode
  refine gcon func272 rfl fun r => ?_
  have hm := Mem.start w0
  refine gS (gR (gBx hm rfl fun aA w hm => gBx hm rfl fun aB w hm => gA rfl (gE (gS (gS (gJ hm (fun aC => [(2, (pV aA)), (3, (pV aB)), (26, (.bool (aC)))]) (fun aC => [blk aA [nV a_.params, nV a_.regs, v1] 49, blk aB [nV b_.params, nV b_.regs, v2] 49]) (fun aC => ?_) ?_))))))
  ·refine gR (gF fo_49_0 rfl (gL hm 1 isAgg3 rfl (gF fo_49_0 rfl (gL hm 0 isAgg3 rfl (gB rfl (gM rfl (gsd 11 rfl (fun aH => ?_) fun aH => ?_)))))))
   ·exact gO rfl (gO rfl (gO rfl (gO rfl (gO rfl (gKt rfl (gM rfl (gO rfl (gO rfl (gO rfl (gO rfl (gO rfl (gO rfl (gO rfl (gKt rfl (gE (gz hm [1, 0] rfl))))))))))))))))
   refine gF fo_49_1 rfl (gL hm 1 isAgg3 rfl (gF fo_49_1 rfl (gL hm 0 isAgg3 rfl (gB rfl (gKf rfl (gM rfl (gsd 18 rfl (fun aI => ?_) fun aI => ?_)))))))
   ·exact gO rfl (gO rfl (gO rfl (gO rfl (gO rfl (gO rfl (gO rfl (gKt rfl (gE (gz hm [1, 0] rfl)))))))))
   refine gF fo_49_2 rfl (gL hm 1 isAgg47 rfl ?_)
   obtain ⟨ak, am, rfl, an⟩ := ro_slice h1
   refine gY (yV st_47 rfl) (gF fo_49_2 rfl (gL hm 0 isAgg47 rfl ?_))
   obtain ⟨ao, ap, rfl, aq⟩ := ro_slice h2
   exact gY (yV st_47 rfl) (gB rfl (gKf rfl (gE (gz hm [1, 0] rfl))))
  repeat clear hm
  intro aC w hm
  refine gs 26 rfl (fun aJ => ?_) fun aJ => ?_
  ·exact gct rfl (gS (gR (gA rfl (gE (gRt (gr1 results272 rfl ⟨rfl, hm.below⟩))))))
  refine gcf rfl (gSk (gS (gS (gR (gA rfl (gE (gBk (gNf hm (fun aD aG => [(2, (pV aA)), (3, (pV aB)), (5, (nV aD))]) (fun aD aG => [blk aA [nV a_.params, nV a_.regs, v1] 49, blk aB [nV b_.params, nV b_.regs, v2] 49]) [0, 1] rfl ?_ ?_))))))))
  ·repeat clear hm
   intro ar aK aD aG w hm au av aw aL
   refine gS (gS (gR (gM rfl (gF fo_49_2 rfl (gL hm 0 isAgg47 rfl ?_)))))
   obtain ⟨aM, aN, rfl, ax⟩ := ro_slice h1
   refine gY (yV st_47 rfl) (gB rfl (gE (go _ 31 rfl (decide_eq_true (by omega)) (gct rfl (gSk (gS (gBk (gS (gW (.p 0 (.p 2 (.p 5 (.p 7 (.q 1 (.p 3 (.q 4 (.e 6 (.p 8 (.e 9 (.e 10 (.p 11 .fin) .nil) .nil)) .nil)))))))) [6, 9] [0, 2, 3, 5, 7, 8, 11] hm [0, 1] [blk aA [nV a_.params, nV a_.regs, .slice aM a_.blocks.length aN] 49, blk aB [nV b_.params, nV b_.regs, v2] 49] rfl mxo (by kernel_rfl) (fun _ _ _ h => h.2) fun w hm hS => tP rfl (fun w => yF fo_49_2 rfl) (tP rfl (fun w => yM rfl) (tP rfl (fun w => yF fo_49_2 rfl) (tP rfl (fun w => yM rfl) (tQ rfl hS (fun w hm => yL hm 0 isAgg47 rfl) (gg fun aO aP aE => ?_))))))))))))))
   obtain ⟨ay, az, bA, he⟩ := idx_form' h1 aE
   obtain ⟨rfl, _, rfl⟩ := sl3 he
   obtain ⟨aQ, aR, aS, aT, aV, aW, aX⟩ := rk_Block_ h1 aE
   refine tP rfl (fun w => yI st_47 aP (idx_lt aE) rfl) (tQ rfl hS (fun w hm => yn (aT.mono hm.lez) isAgg63 sizeOf63 rfl) (tO (tY rfl (yL hm 1 isAgg47 rfl) (tAs hS (gg fun aY aZ aF => ?_)))))
   obtain ⟨bB, bC, bD, he⟩ := idx_form' h2 aF
   subst he
   obtain ⟨aa, ab, ac, ae, af, ag, ah⟩ := rk_Block_ h2 aF
   refine tP rfl (fun w => yI st_47 aZ (idx_lt aF) rfl) (tO (tY rfl (yn (ae.mono hm.lez) isAgg63 sizeOf63 rfl) (tAs hS (tO (gb fun bE ai => tf rfl rfl (fun a hf => e_call hf rfl call328 rfl (spec_l7SameBlock_ok _ aO aQ (hm.now aV) aR (hm.now aW) aS (hm.now aX) aY aa (hm.now af) ab (hm.now ag) ac (hm.now ah) _ ai)) ?_)))))
   rintro bF w ⟨rfl, hB⟩
   replace hm := hm.below' hB; clear hB
   refine tAn rfl (tP rfl (fun w => yN rfl) (tE (gsn 45 rfl (fun aj => ?_) fun aj => ?_)))
   ·exact gct rfl (gS (gR (gA rfl (gE (gRt (gLr aL aK (gr1 results272 rfl ⟨rfl, hm.below⟩)))))))
   exact gcf rfl (gSk (gR (gM rfl (gP (by omega) (by omega) rfl (gA rfl (gE (gze hm [0, 1] rfl)))))))
  repeat clear hm
  intro bG bH w hm bJ bK
  refine gS (gS (gR (gM rfl (gF fo_49_2 rfl (gL hm 0 isAgg47 rfl ?_)))))
  obtain ⟨bL, bM, rfl, bN⟩ := ro_slice h1
  exact gY (yV st_47 rfl) (gB rfl (gE (go _ 31 rfl (decide_eq_false (by omega)) (gcf rfl (gXt (gHh (gS (gR (gA rfl (gE (gRt (gr1 results272 rfl ⟨rfl, hm.below⟩))))))))))))
theorem spec_l18Clean_ok (w0 : World) (c_ : Code_) (v1 : Value) (h1 : GT.rep (hp w0) [v1] c_.blocks) :
    ConM Tryz.prog 198 [(.agg #[nV c_.params, nV c_.regs, v1])] w0 (spec_l18Clean c_) fun r v w' => ∃ (x1 : Value), v = (.agg #[nV r.params, nV r.regs, x1]) ∧ Mem w0 (hp w0) w' [ow [x1] r.blocks] := by
  unfold spec_l18Clean
  refine gcon func198 rfl fun r => ?_
  have hm := Mem.start w0
  refine gS (gR (gBx hm rfl fun aI w hm => gAl hm zeroValue49 rfl fun aC w hm => gE (gS (gR (gY (yn (hm.blk_at 1 rfl) isAgg49 sizeOf49 rfl) (gCg rfl call187 (spec_l10Drop_ok _ c_ v1 (hm.now h1)) ?_))))))
  rintro aV am an w ⟨aW, rfl, hB⟩
  replace hm := hm.give hB; clear hB
  refine gCg rfl call195 (spec_l18Even_ok _ aV aW (hm.ow_rep 0 rfl)) ?_
  rintro aX ao ap w ⟨aY, rfl, hB⟩
  replace hm := hm.give hB; clear hB
  refine gCg rfl call196 (spec_l18Skip_ok _ aX aY (hm.ow_rep 0 rfl)) ?_
  rintro aZ aq ar w ⟨aa, rfl, hB⟩
  replace hm := hm.give hB; clear hB
  refine gCg rfl call197 (spec_l18Join_ok _ aZ aa (hm.ow_rep 0 rfl)) ?_
  rintro ab au av w ⟨aw, rfl, hB⟩
  replace hm := hm.give hB; clear hB
  refine gAl hm zeroValue49 rfl fun aD w hm => gSN hm 0 sizeOf49 (one_cons rfl (one_cons rfl (one_cons (rep_one (hm.ow_rep 1 rfl)) one_nil))) rfl fun w hm => gE (gS ?_)
  obtain ⟨ac, ae, rfl, ax⟩ := ro_slice (hm.ow_rep 1 rfl)
  refine gJg (fun aE a w => ∃ (aJ : Heap) (aG : Value), Heap.le (hp w0) aJ ∧ St 20 [(2, (pV aC)), (3, (pV aD))] w0 aJ [blk aC [nV 0, nV 0, .slice none 0 0] 49, blk aD [nV aE.1, nV aE.2.1, aG] 49, ow [aG] aE.2.2] a w) (fun aE => ?_) ?_
  ·refine gBk (gMg (fun aA a w => ∃ (aF : Heap) (aH aB : Value), Heap.le (hp w0) aF ∧ GT.rep aF [aH] (aA.2.2.1) ∧ St 20 [(1, (pV aI)), (2, (pV aC)), (3, (pV aD))] w0 aF [blk aI [nV aA.1, nV aA.2.1, aH] 49, blk aC [nV 0, nV 0, .slice none 0 0] 49, blk aD [nV aA.2.2.2.1, nV aA.2.2.2.2.1, aB] 49, ow [aB] aA.2.2.2.2.2] a w) (fun a hf => ⟨(hp w0), v1, .slice ac ab.blocks.length ae, (Heap.le_refl _), h1, hf.sb rfl, hm.pk [6, 5, 0, 1] rfl rfl⟩) ?_)
   repeat clear hm
   rintro ay af aA a w ⟨aF, aH, aB, aM, ag, hf, hm⟩ az ah
   refine gv hf (gS (gS (gR (gY (yn (hm.blk_at 2 rfl) isAgg49 sizeOf49 rfl) (gY (yn (hm.blk_at 0 rfl) isAgg49 sizeOf49 rfl) (gC hm rfl call272 (spec_l7SameCode_ok _ (⟨aA.2.2.2.1, aA.2.2.2.2.1, aA.2.2.2.2.2⟩ : Code_) aB (hm.ow_rep 3 rfl) (⟨aA.1, aA.2.1, aA.2.2.1⟩ : Code_) aH (hm.now ag)) fun bA bB w hm => gN rfl (gE (gsn 12 rfl (fun ai => ?_) fun ai => ?_))))))))
   ·refine gct rfl (gSk (gBk (gS (gR (gY (yn (hm.blk_at 2 rfl) isAgg49 sizeOf49 rfl) (gSN hm 0 sizeOf49 (one_cons rfl (one_cons rfl (one_cons (rep_one (hm.ow_rep 3 rfl)) one_nil))) rfl fun w hm => gE (gR (gY (yn (hm.blk_at 0 rfl) isAgg49 sizeOf49 rfl) (gCg rfl call187 (spec_l10Drop_ok _ (⟨aA.2.2.2.1, aA.2.2.2.2.1, aA.2.2.2.2.2⟩ : Code_) aB (hm.ow_rep 3 rfl)) ?_)))))))))
    rintro aN bC bD w ⟨aO, rfl, hB⟩
    replace hm := hm.give hB; clear hB
    refine gCg rfl call195 (spec_l18Even_ok _ aN aO (hm.ow_rep 0 rfl)) ?_
    rintro aP bE bF w ⟨aQ, rfl, hB⟩
    replace hm := hm.give hB; clear hB
    refine gCg rfl call196 (spec_l18Skip_ok _ aP aQ (hm.ow_rep 0 rfl)) ?_
    rintro aR bG bH w ⟨aS, rfl, hB⟩
    replace hm := hm.give hB; clear hB
    refine gCg rfl call197 (spec_l18Join_ok _ aR aS (hm.ow_rep 0 rfl)) ?_
    rintro aK bJ bK w ⟨aL, rfl, hB⟩
    replace hm := hm.give hB; clear hB
    refine gSN hm 6 sizeOf49 (one_cons rfl (one_cons rfl (one_cons (rep_one (hm.ow_rep 0 rfl)) one_nil))) rfl fun w hm => gE ?_
    obtain ⟨aT, aj, hz_r2_1, hmf⟩ := hm.freeze 7 rfl
    replace hm := hmf.pk (L' := [ow [aL] aK.blocks, ow [aS] aR.blocks, ow [aQ] aP.blocks, ow [aO] aN.blocks, blk aI [nV aA.2.2.2.1, nV aA.2.2.2.2.1, aB] 49, blk aC [nV 0, nV 0, .slice none 0 0] 49, blk aD [nV aK.params, nV aK.regs, aL] 49]) [0, 1, 2, 3, 4, 5, 6] rfl rfl
    clear hmf
    replace hz_r2_1 : GT.rep aT [aB] aA.2.2.2.2.2 := fz_ow hz_r2_1
    exact gZe fun a hf => ⟨aT, aB, aL, (Heap.le_trans aM aj), hz_r2_1, hf.sb rfl, hm.pk [4, 5, 6, 0] rfl rfl⟩
   exact gcf rfl (gXt (gHh (gLp ah af (gZ fun a hf => ⟨aF, aB, aM, hf.sb rfl, hm.pk [1, 2, 3] rfl rfl⟩))))
  repeat clear hm
  rintro aE a w ⟨aJ, aG, ak, hf, hm⟩
  refine gv hf (gS (gR (gY (yn (hm.blk_at 1 rfl) isAgg49 sizeOf49 rfl) (gSN hm 0 sizeOf49 (one_cons rfl (one_cons rfl (one_cons (rep_one (hm.ow_rep 2 rfl)) one_nil))) rfl fun w hm => gE (gRt ?_)))))
  replace hm := hm.thaw ak
  exact grc 0 results198 hm rfl isAgg49 sizeOf49 ⟨aG, rfl, hm.pk [2] rfl rfl⟩
theorem spec_l10Turn_ok (w0 : World) (c_ : Code_) (v1 : Value) (h1 : GT.rep (hp w0) [v1] c_.blocks) (pass : Str) :
    ConM Tryz.prog 117 [(.agg #[nV c_.params, nV c_.regs, v1]), (.string ⟨(pass).b.toArray⟩)] w0 (spec_l10Turn c_ pass) fun r v w' => ∃ (x1 : Value), v = (.agg #[nV r.params, nV r.regs, x1]) ∧ Mem w0 (hp w0) w' [ow [x1] r.blocks] := by
  unfold spec_l10Turn
  refine gcon func117 rfl fun r => ?_
  have hm := Mem.start w0
  refine gS (gR (gBx hm rfl fun aA w hm => gAl hm zeroValue49 rfl fun aB w hm => gE (gS (gS (gR (gM rfl (gE (gBk (gS (gR (gY (yG rfl (y_eqls (p := pass) (q := (mkS [114, 101, 97, 99, 104])) rfl rfl rfl)) (gA rfl (gE (gsd 6 rfl (fun aC => ?_) fun aC => ?_))))))))))))))
  ·refine gct rfl (gS (gR (gY (yn (hm.blk_at 1 rfl) isAgg49 sizeOf49 rfl) (gCg rfl call187 (spec_l10Drop_ok _ c_ v1 (hm.now h1)) ?_))))
   rintro aY aZ aa w ⟨aD, rfl, hB⟩
   replace hm := hm.give hB; clear hB
   exact gSN hm 1 sizeOf49 (one_cons rfl (one_cons rfl (one_cons (rep_one (hm.ow_rep 0 rfl)) one_nil))) rfl fun w hm => gE (gRt (grc 1 results117 hm rfl isAgg49 sizeOf49 ⟨aD, rfl, hm.pk [0] rfl rfl⟩))
  refine gcf rfl (gS (gR (gY (yG rfl (y_eqls (p := pass) (q := (mkS [111, 114, 100, 101, 114])) rfl rfl rfl)) (gA rfl (gE (gsd 10 rfl (fun aE => ?_) fun aE => ?_))))))
  ·refine gct rfl (gS (gW (.q 0 (.e 1 (.e 2 (.e 3 (.e 4 .fin .nil) .nil) .nil) .nil)) [1, 2] [] hm [0, 1] [blk aB [nV 0, nV 0, .slice none 0 0] 49, blk aA [nV c_.params, nV c_.regs, v1] 49] rfl mxo (by kernel_rfl) (fun _ _ _ h => h.2) fun w hm hS => tQ rfl hS (fun w hm => yn (hm.blk_at 1 rfl) isAgg49 sizeOf49 rfl) (tO (tY rfl (yn (hm.blk_at 1 rfl) isAgg49 sizeOf49 rfl) (tAs hS (tO (gb fun aF aG => tf rfl rfl (fun a hf => e_call hf rfl call189 rfl (spec_l10Order_ok _ c_ v1 (hm.now h1) _ aG)) ?_)))))))
   rintro aH w ⟨_, rfl, hB⟩
   replace hm := hm.give hB; clear hB
   refine tAk hm [1, 2] rfl fun hS => tO (gb fun ab aI => tf rfl rfl (fun a hf => e_call hf rfl call188 rfl (spec_l10Pick_ok _ c_ v1 (hm.now h1) aF aH (hm.ow_rep 0 rfl) _ aI)) ?_)
   rintro ac w ⟨aJ, rfl, hB⟩
   replace hm := hm.give hB; clear hB
   refine tAn rfl (tO (tf0 rfl rfl (fun a hf => e_storeN 2 hf hm rfl sizeOf49 rfl rfl rfl (one_cons rfl (one_cons rfl (one_cons (rep_one (hm.ow_rep 0 rfl)) one_nil))) rfl rfl) ?_))
   rintro _ w hm
   exact tAn rfl (tE (gRt (grc 2 results117 hm rfl isAgg49 sizeOf49 ⟨aJ, rfl, hm.pk [0] rfl rfl⟩)))
  refine gcf rfl (gS (gR (gY (yG rfl (y_eqls (p := pass) (q := (mkS [115, 112, 108, 105, 116])) rfl rfl rfl)) (gA rfl (gE (gsd 16 rfl (fun aK => ?_) fun aK => ?_))))))
  ·exact gno
  refine gcf rfl (gS (gR (gY (yG rfl (y_eqls (p := pass) (q := (mkS [105, 100, 108, 101])) rfl rfl rfl)) (gA rfl (gE (gsd 20 rfl (fun aL => ?_) fun aL => ?_))))))
  ·exact gno
  refine gcf rfl (gS (gR (gY (yG rfl (y_eqls (p := pass) (q := (mkS [115, 105, 110, 103, 108, 101])) rfl rfl rfl)) (gA rfl (gE (gsd 24 rfl (fun aM => ?_) fun aM => ?_))))))
  ·exact gno
  refine gcf rfl (gS (gR (gY (yG rfl (y_eqls (p := pass) (q := (mkS [107, 110, 111, 119, 110])) rfl rfl rfl)) (gA rfl (gE (gsd 28 rfl (fun aN => ?_) fun aN => ?_))))))
  ·exact gno
  refine gcf rfl (gS (gR (gY (yG rfl (y_eqls (p := pass) (q := (mkS [115, 104, 97, 114, 101])) rfl rfl rfl)) (gA rfl (gE (gsd 32 rfl (fun aO => ?_) fun aO => ?_))))))
  ·exact gno
  refine gcf rfl (gS (gR (gY (yG rfl (y_eqls (p := pass) (q := (mkS [104, 111, 105, 115, 116])) rfl rfl rfl)) (gA rfl (gE (gsd 36 rfl (fun aP => ?_) fun aP => ?_))))))
  ·exact gno
  refine gcf rfl (gS (gR (gY (yG rfl (y_eqls (p := pass) (q := (mkS [101, 118, 101, 110])) rfl rfl rfl)) (gA rfl (gE (gsd 40 rfl (fun aQ => ?_) fun aQ => ?_))))))
  ·refine gct rfl (gS (gR (gY (yn (hm.blk_at 1 rfl) isAgg49 sizeOf49 rfl) (gCg rfl call195 (spec_l18Even_ok _ c_ v1 (hm.now h1)) ?_))))
   rintro ae af ag w ⟨aR, rfl, hB⟩
   replace hm := hm.give hB; clear hB
   exact gSN hm 1 sizeOf49 (one_cons rfl (one_cons rfl (one_cons (rep_one (hm.ow_rep 0 rfl)) one_nil))) rfl fun w hm => gE (gRt (grc 1 results117 hm rfl isAgg49 sizeOf49 ⟨aR, rfl, hm.pk [0] rfl rfl⟩))
  refine gcf rfl (gS (gR (gY (yG rfl (y_eqls (p := pass) (q := (mkS [115, 107, 105, 112])) rfl rfl rfl)) (gA rfl (gE (gsd 44 rfl (fun aS => ?_) fun aS => ?_))))))
  ·refine gct rfl (gS (gR (gY (yn (hm.blk_at 1 rfl) isAgg49 sizeOf49 rfl) (gCg rfl call196 (spec_l18Skip_ok _ c_ v1 (hm.now h1)) ?_))))
   rintro ah ai aj w ⟨aT, rfl, hB⟩
   replace hm := hm.give hB; clear hB
   exact gSN hm 1 sizeOf49 (one_cons rfl (one_cons rfl (one_cons (rep_one (hm.ow_rep 0 rfl)) one_nil))) rfl fun w hm => gE (gRt (grc 1 results117 hm rfl isAgg49 sizeOf49 ⟨aT, rfl, hm.pk [0] rfl rfl⟩))
  refine gcf rfl (gS (gR (gY (yG rfl (y_eqls (p := pass) (q := (mkS [106, 111, 105, 110])) rfl rfl rfl)) (gA rfl (gE (gsd 48 rfl (fun aV => ?_) fun aV => ?_))))))
  ·refine gct rfl (gS (gR (gY (yn (hm.blk_at 1 rfl) isAgg49 sizeOf49 rfl) (gCg rfl call197 (spec_l18Join_ok _ c_ v1 (hm.now h1)) ?_))))
   rintro ak am an w ⟨aW, rfl, hB⟩
   replace hm := hm.give hB; clear hB
   exact gSN hm 1 sizeOf49 (one_cons rfl (one_cons rfl (one_cons (rep_one (hm.ow_rep 0 rfl)) one_nil))) rfl fun w hm => gE (gRt (grc 1 results117 hm rfl isAgg49 sizeOf49 ⟨aW, rfl, hm.pk [0] rfl rfl⟩))
  refine gcf rfl (gSk (gS (gR (gY (yn (hm.blk_at 1 rfl) isAgg49 sizeOf49 rfl) (gCg rfl call198 (spec_l18Clean_ok _ c_ v1 (hm.now h1)) ?_)))))
  rintro ao ap aq w ⟨aX, rfl, hB⟩
  replace hm := hm.give hB; clear hB
  exact gSN hm 1 sizeOf49 (one_cons rfl (one_cons rfl (one_cons (rep_one (hm.ow_rep 0 rfl)) one_nil))) rfl fun w hm => gE (gRt (grc 1 results117 hm rfl isAgg49 sizeOf49 ⟨aX, rfl, hm.pk [0] rfl rfl⟩))
theorem spec_l10Each_ok (w0 : World) (u : Unit_) (v1 : Value) (h1 : GT.rep (hp w0) [v1] u.codes) (pass : Str) :
    ConM Tryz.prog 68 [(.agg #[v1]), (.string ⟨(pass).b.toArray⟩)] w0 (spec_l10Each u pass) fun r v w' => ∃ (x1 : Value), v = (.tuple #[(.agg #[x1]), (.bool (r.2))]) ∧ Mem w0 (hp w0) w' [ow [x1] r.1.codes] := by
  unfold spec_l10Each
  refine gcon func68 rfl fun r => ?_
  have hm := Mem.start w0
  refine gS (gR (gBx hm rfl fun aD w hm => gAl hm zeroValue28 rfl fun aE w hm => gA rfl (gE (gS (gS (gR (gY (yn (hm.blk_at 1 rfl) isAgg28 sizeOf28 rfl) (gC hm rfl call39 (spec_UnitValid_ok _ u v1 (hm.now h1)) fun ae af w hm => gN rfl (gE (gsn 10 rfl (fun aO => ?_) fun aO => ?_))))))))))
  ·refine gct rfl (gS (gR (gY (yG rfl (y_build (vs := []) (cs := #[.slice none 0 0]) rfl rfl (by kernel_rfl))) (gSN hm 0 sizeOf28 (one_cons rfl one_nil) rfl fun w hm => gA rfl (gE (gRt ?_))))))
   replace hm := hm.nilow (α := Code_)
   exact grct 1 results68 hm rfl isAgg28 sizeOf28 ⟨.slice none 0 0, rfl, hm.pk [0] rfl rfl⟩
  refine gcf rfl (gSk (gS (gR (gY (yG rfl (y_build (vs := []) (cs := #[.slice none 0 0]) rfl rfl (by kernel_rfl))) (gAl hm zeroValue28 rfl fun aF w hm => gSN hm 0 sizeOf28 (one_cons rfl one_nil) rfl fun w hm => gE (gS (gS (gR (gA rfl (gE (gBk ?_)))))))))))
  replace hm := hm.nilow (α := Code_)
  refine gNg (fun aM aC a w => ∃ (aB : Value), St 37 [(1, (.string ⟨(pass).b.toArray⟩)), (2, (pV aD)), (4, (pV aE)), (6, (pV aF)), (7, (nV aM))] w0 (hp w0) [blk aD [v1] 28, blk aE [.slice none 0 0] 28, blk aF [aB] 28, ow [aB] aC] a w) (fun a hf => ⟨.slice none 0 0, hf.sb rfl, hm.pk [3, 2, 1, 0] rfl rfl⟩) ?_ ?_
  ·repeat clear hm
   rintro _ _ aM aC a w ⟨aB, hf, hm⟩ ag ah ai _
   refine gv hf (gS (gS (gR (gM rfl (gF fo_28_0 rfl (gL hm 0 isAgg26 rfl ?_))))))
   obtain ⟨aP, aH, rfl, aj⟩ := ro_slice h1
   refine gY (yV st_26 rfl) (gB rfl (gE (go _ 17 rfl (decide_eq_true (by omega)) (gct rfl (gSk (gS (gBk (gW (.p 0 (.p 2 (.p 4 (.p 7 (.q 1 (.e 3 (.p 5 (.e 6 (.e 8 (.e 9 (.e 10 (.p 11 (.e 12 .fin .nil)) .nil) .nil) .nil) .nil)) .nil)))))) [3, 6, 8, 9] [0, 2, 4, 5, 7, 11] hm [0, 1, 2, 3] [blk aD [.slice aP u.codes.length aH] 28, blk aE [.slice none 0 0] 28, blk aF [aB] 28, ow [aB] aC] rfl mxo (by kernel_rfl) (fun _ _ _ h => h.2) fun w hm hS => tP rfl (fun w => yF fo_28_0 rfl) (tP rfl (fun w => yF fo_28_0 rfl) (tP rfl (fun w => yM rfl) (tP rfl (fun w => yM rfl) (tQ rfl hS (fun w hm => yL hm 2 isAgg26 rfl) (tO (tY rfl (yL hm 0 isAgg26 rfl) (tAs hS (gg fun aQ aR aL => ?_))))))))))))))))
   obtain ⟨aI, aJ, ak, he⟩ := idx_form' h1 aL
   obtain ⟨rfl, _, rfl⟩ := sl3 he
   obtain ⟨aS, aT, aV⟩ := rk_Code_ h1 aL
   refine tP rfl (fun w => yI st_26 aR (idx_lt aL) rfl) (tO (tY rfl (yn (aT.mono hm.lez) isAgg49 sizeOf49 rfl) (tAs hS (tO (gb fun aA aW => tf rfl rfl (fun a hf => e_call hf rfl call117 rfl (spec_l10Turn_ok _ aQ aS (hm.now aV) pass _ aW)) ?_)))))
   rintro am w ⟨aG, rfl, hB⟩
   replace hm := hm.give hB; clear hB
   refine tAk hm [1, 2, 3, 4] rfl fun hS => tO (tf rfl rfl (fun a hf => e_build (vs := #[(0, (.agg #[nV aA.params, nV aA.regs, aG]))]) (cs := [nV aA.params, nV aA.regs, aG]) et_26 hf hm rfl rfl (by kernel_rfl) rfl rfl) ?_)
   rintro _ w ⟨aK, rfl, hm⟩
   replace hm := hm.els_nil (α := Code_)
   replace hm : Mem w0 (hp w0) _ [els [] ([] : List Code_), blk aK [nV aA.params, nV aA.regs, aG] 49, ow [nV aA.params, nV aA.regs, aG] (aA : Code_), blk aD [sV aI aJ u.codes.length aH] 28, blk aE [.slice none 0 0] 28, blk aF [aB] 28, ow [aB] aC] := mk_Code_ aA.params aA.regs hm 2 rfl
   replace hm := (hm.els_cons 0 2 (by decide) rfl rfl).pk (L' := [els [nV aA.params, nV aA.regs, aG] ([aA] : List Code_), blk aK [nV aA.params, nV aA.regs, aG] 49, blk aD [sV aI aJ u.codes.length aH] 28, blk aE [.slice none 0 0] 28, blk aF [aB] 28, ow [aB] aC]) [0, 1, 3, 4, 5, 6] rfl rfl
   replace hm := (hm.lit_els 1 0 (by decide) rfl rfl rfl rfl).pk (L' := [ow [sV aK 0 1 1] ([aA] : List Code_), blk aD [sV aI aJ u.codes.length aH] 28, blk aE [.slice none 0 0] 28, blk aF [aB] 28, ow [aB] aC]) [1, 2, 3, 4, 5] rfl rfl
   refine tAk hm [1, 2, 3, 4] rfl fun hS => tO (gb fun an aX => ?_)
   obtain ⟨aY, aZ⟩ := appM_some.1 aX
   replace hm := (hm.both 4 0 (by decide) rfl rfl).pk (L' := [blk aD [sV aI aJ u.codes.length aH] 28, blk aE [.slice none 0 0] 28, blk aF [aB] 28, both (ow [aB] aC) (ow [sV aK 0 1 1] ([aA] : List Code_))]) [1, 2, 3, 4] rfl rfl
   refine tf rfl rfl (fun a hf => e_appendD (xs := aC) (ys := ([aA] : List Code_)) 3 et_26 hf hm rfl rfl rfl rfl aY) ?_
   rintro aa w hm
   rw [aZ] at hm
   refine tAn rfl (tP rfl (fun w => yF fo_28_0 rfl) (tO (tf0 rfl rfl (fun a hf => e_store1 2 hf hm rfl sizeOf26 rfl rfl rfl (rep_one (hm.ow_rep 3 rfl)) rfl) ?_)))
   rintro _ w hm
   exact tAn rfl (tE (gR (gM rfl (gP (by omega) (by omega) rfl (gA rfl (gE (gZe fun a hf => ⟨aa, hf.sb rfl, hm.pk [0, 1, 2, 3] rfl rfl⟩)))))))
  repeat clear hm
  rintro ao ab a w ⟨aN, hf, hm⟩ ap aq
  refine gv hf (gS (gS (gR (gM rfl (gF fo_28_0 rfl (gL hm 0 isAgg26 rfl ?_))))))
  obtain ⟨ar, au, rfl, av⟩ := ro_slice h1
  refine gY (yV st_26 rfl) (gB rfl (gE (go _ 17 rfl (decide_eq_false (by omega)) (gcf rfl (gXt (gHh (gS (gS (gR (gY (yn (hm.blk_at 2 rfl) isAgg28 sizeOf28 rfl) (gC hm rfl call39 (spec_UnitValid_ok _ (⟨ab⟩ : Unit_) aN (hm.ow_rep 3 rfl)) fun aw ax w hm => gN rfl (gE (gsn 34 rfl (fun ac => ?_) fun ac => ?_)))))))))))))
  ·refine gct rfl (gS (gR (gY (yG rfl (y_build (vs := []) (cs := #[.slice none 0 0]) rfl rfl (by kernel_rfl))) (gSN hm 1 sizeOf28 (one_cons rfl one_nil) rfl fun w hm => gA rfl (gE (gRt ?_))))))
   replace hm := hm.nilow (α := Code_)
   exact grct 2 results68 hm rfl isAgg28 sizeOf28 ⟨.slice none 0 0, rfl, hm.pk [0] rfl rfl⟩
  exact gcf rfl (gSk (gS (gR (gY (yn (hm.blk_at 2 rfl) isAgg28 sizeOf28 rfl) (gSN hm 1 sizeOf28 (one_cons (rep_one (hm.ow_rep 3 rfl)) one_nil) rfl fun w hm => gA rfl (gE (gRt (grct 1 results68 hm rfl isAgg28 sizeOf28 ⟨aN, rfl, hm.pk [3] rfl rfl⟩))))))))
theorem impl_within_ok (w0 : World) (n_ : Int) (low : Int) (high : Int) :
    ConM Tryz.prog 47 [nV n_, nV low, nV high] w0 (impl_within n_ low high) fun r v w' => v = (.bool (r)) ∧ Below w0.heap.size w0 w' := by
  unfold impl_within
  refine gcon func47 rfl fun r => ?_
  have hm := Mem.start w0
  refine gS (gR (gA rfl (gE (gS (gJ hm (fun aA => [(6, (.bool (aA)))]) (fun aA => []) (fun aA => ?_) ?_)))))
  ·refine gR (gM rfl (gM rfl (gB rfl (gM rfl (gsd 10 rfl (fun aB => ?_) fun aB => ?_)))))
   ·exact gM rfl (gM rfl (gB rfl (gKt rfl (gA rfl (gE (gz hm [] rfl))))))
   exact gO rfl (gO rfl (gO rfl (gKf rfl (gA rfl (gE (gz hm [] rfl))))))
  repeat clear hm
  intro aA w hm
  exact gRt (gr1 results47 rfl ⟨rfl, hm.below⟩)
theorem impl_codeOk_1_ok (w0 : World) (r_ : Int) (c0_ : Code_) (v1 : Value) (h1 : GT.rep (hp w0) [v1] c0_.blocks) (bf0 : Nat) (hbf0 : w0.heap[bf0]? = some (.cells ([nV c0_.params, nV c0_.regs, v1] : List Value).toArray 49 (0, 0))) :
    ConM Tryz.prog 179 [nV r_, (pV bf0)] w0 (impl_codeOk_1 r_ c0_) fun r v w' => v = (.bool (r)) ∧ Below w0.heap.size w0 w' := by
  unfold impl_codeOk_1
  refine gcon func179 rfl fun r => ?_
  have hm := Mem.start w0
  exact gS (gR (gA rfl (gE (gS (gR (gM rfl (gF fo_49_1 rfl (gY (yl isAgg3 (hm.old_cell hbf0 rfl) rfl) (gB rfl (gC hm rfl call47 (impl_within_ok _ r_ 0 (w64 (c0_.regs - 1))) fun aA aB w hm => gA rfl (gE (gRt (gr1 results179 rfl ⟨rfl, hm.below⟩)))))))))))))
theorem impl_nextCount_ok (w0 : World) (jump : Int) :
    ConM Tryz.prog 180 [nV jump] w0 (impl_nextCount jump) fun r v w' => v = (nV r) ∧ Below w0.heap.size w0 w' := by
  unfold impl_nextCount
  refine gcon func180 rfl fun r => ?_
  have hm := Mem.start w0
  refine gS (gR (gA rfl (gE (gS (gS (gR (gM rfl (gE (gBk (gS (gR (gB rfl (gA rfl (gE (gsd 4 rfl (fun aA => ?_) fun aA => ?_)))))))))))))))
  ·exact gct rfl (gS (gR (gA rfl (gE (gRt (gr1 results180 rfl ⟨rfl, hm.below⟩))))))
  refine gcf rfl (gS (gR (gB rfl (gA rfl (gE (gsd 6 rfl (fun aB => ?_) fun aB => ?_))))))
  ·exact gct rfl (gS (gR (gA rfl (gE (gRt (gr1 results180 rfl ⟨rfl, hm.below⟩))))))
  refine gcf rfl (gS (gR (gB rfl (gA rfl (gE (gsd 8 rfl (fun aC => ?_) fun aC => ?_))))))
  ·exact gct rfl (gS (gR (gA rfl (gE (gRt (gr1 results180 rfl ⟨rfl, hm.below⟩))))))
  exact gcf rfl (gSk (gS (gR (gA rfl (gE (gRt (gr1 results180 rfl ⟨rfl, hm.below⟩)))))))
theorem impl_usesOn_ok (w0 : World) (jump : Int) :
    ConM Tryz.prog 166 [nV jump] w0 (impl_usesOn jump) fun r v w' => v = (.bool (r)) ∧ Below w0.heap.size w0 w' := by
  unfold impl_usesOn
  refine gcon func166 rfl fun r => ?_
  have hm := Mem.start w0
  refine gS (gR (gA rfl (gE (gS (gJ hm (fun aA => [(2, (.bool (aA)))]) (fun aA => []) (fun aA => ?_) ?_)))))
  ·refine gR (gM rfl (gB rfl (gM rfl (gsd 5 rfl (fun aB => ?_) fun aB => ?_))))
   ·exact gO rfl (gO rfl (gKt rfl (gA rfl (gE (gz hm [] rfl)))))
   exact gM rfl (gB rfl (gKf rfl (gA rfl (gE (gz hm [] rfl)))))
  repeat clear hm
  intro aA w hm
  exact gRt (gr1 results166 rfl ⟨rfl, hm.below⟩)
theorem impl_codeOk_2_ok (w0 : World) (n_ : Int) (c0_ : Code_) (v1 : Value) (h1 : GT.rep (hp w0) [v1] c0_.blocks) (bf0 : Nat) (hbf0 : w0.heap[bf0]? = some (.cells ([nV c0_.params, nV c0_.regs, v1] : List Value).toArray 49 (0, 0))) :
    ConM Tryz.prog 182 [nV n_, (pV bf0)] w0 (impl_codeOk_2 n_ c0_) fun r v w' => v = (.bool (r)) ∧ Below w0.heap.size w0 w' := by
  unfold impl_codeOk_2
  refine gcon func182 rfl fun r => ?_
  have hm := Mem.start w0
  refine gS (gR (gA rfl (gE (gS (gR (gM rfl (gF fo_49_2 rfl (gY (yl isAgg47 (hm.old_cell hbf0 rfl) rfl) ?_))))))))
  obtain ⟨aA, aB, rfl, aC⟩ := ro_slice h1
  exact gY (yV st_47 rfl) (gY (yS (by omega) (by omega) rfl) (gC hm rfl call47 (impl_within_ok _ n_ 1 (((c0_.blocks.length : Int)) - 1)) fun aD aE w hm => gN rfl (gA rfl (gE (gRt (gr1 results182 rfl ⟨rfl, hm.below⟩))))))
theorem slices_IndexFunc_S_int_int_ok (w0 : World) (s_ : List Int) (v1 : Value) (h1 : GT.rep (hp w0) [v1] s_) (f : Int → Option Bool) (fv1 : Value) (hfn1 : ∀ (w : World) (y0 : Int) (r : Bool), Below w0.heap.size w0 w → f y0 = some r → FnOk Tryz.prog fv1 [nV y0] w (fun v w' => v = (.bool (r)) ∧ Below w.heap.size w w')) :
    ConM Tryz.prog 247 [v1, fv1] w0 (slices_IndexFunc_S_int_int s_ f) fun r v w' => v = (nV r) ∧ Below w0.heap.size w0 w' := by
  unfold slices_IndexFunc_S_int_int
  refine gcon func247 rfl fun r => ?_
  have hm := Mem.start w0
  refine gS (gR (gA rfl (gE (gS (gS (gR (gM rfl ?_)))))))
  obtain ⟨aE, aF, rfl, aL⟩ := ro_slice h1
  refine gY (yV st_43 rfl) (gM rfl (gE (gBk (gNf hm (fun aA aC => [(0, (.slice aE s_.length aF)), (1, fv1), (7, (nV ((s_.length : Int)))), (8, (nV aA))]) (fun aA aC => []) [] rfl ?_ ?_))))
  ·repeat clear hm
   intro aM aG aA aC w hm aN aO aP aH
   refine gS (gR (gB rfl (gE (gS (go _ 9 rfl (decide_eq_true (by omega)) (gct rfl (gSk (gS (gBk (gS (gR (gM rfl (gA rfl (gE (gS (gR (gM rfl (gM rfl (gM rfl (gg fun aD aI aB => ?_))))))))))))))))))))
   obtain ⟨aQ, aR, aS, he⟩ := idx_form h1 aB
   obtain ⟨rfl, _, rfl⟩ := sl3 he
   refine gI st_43 aI (idx_lt aB) rfl (gY (yl isAgg3 ((flat_cells (cs := [nV aD]) (hm.now h1) aB rfl).cell (j := 0) rfl) rfl) (gb fun aT aJ => gf rfl (fun a hf => e_callv hf rfl rfl rfl (hfn1 _ aD _ hm.below aJ)) ?_))
   rintro aV w ⟨rfl, hB⟩
   replace hm := hm.below' hB; clear hB
   refine gE (gs 16 rfl (fun aK => ?_) fun aK => ?_)
   ·exact gct rfl (gS (gR (gM rfl (gA rfl (gE (gRt (gLr aH aG (gr1 results247 rfl ⟨rfl, hm.below⟩))))))))
   exact gcf rfl (gSk (gR (gP (by omega) (by omega) rfl (gM rfl (gE (gze hm [] rfl))))))
  repeat clear hm
  intro aW aX w hm aY aZ
  exact gS (gR (gB rfl (gE (gS (go _ 9 rfl (decide_eq_false (by omega)) (gcf rfl (gXt (gHh (gS (gR (gA rfl (gE (gRt (gr1 results247 rfl ⟨rfl, hm.below⟩))))))))))))))
theorem slices_ContainsFunc_S_int_int_ok (w0 : World) (s_ : List Int) (v1 : Value) (h1 : GT.rep (hp w0) [v1] s_) (f : Int → Option Bool) (fv1 : Value) (hfn1 : ∀ (w : World) (y0 : Int) (r : Bool), Below w0.heap.size w0 w → f y0 = some r → FnOk Tryz.prog fv1 [nV y0] w (fun v w' => v = (.bool (r)) ∧ Below w.heap.size w w')) :
    ConM Tryz.prog 181 [v1, fv1] w0 (slices_ContainsFunc_S_int_int s_ f) fun r v w' => v = (.bool (r)) ∧ Below w0.heap.size w0 w' := by
  unfold slices_ContainsFunc_S_int_int
  refine gcon func181 rfl fun r => ?_
  have hm := Mem.start w0
  exact gS (gR (gA rfl (gE (gS (gR (gM rfl (gM rfl (gC hm rfl call247 (slices_IndexFunc_S_int_int_ok _ s_ v1 (hm.now h1) f fv1 (fun w y0 r hB hq => hfn1 w y0 r (hm.below.trans (hB.mono hm.below.size)) hq)) fun aA aB w hm => gB rfl (gA rfl (gE (gRt (gr1 results181 rfl ⟨rfl, hm.below⟩))))))))))))
theorem impl_insOk_1_ok (w0 : World) (r_ : Int) (c0_ : Code_) (v1 : Value) (h1 : GT.rep (hp w0) [v1] c0_.blocks) (bf0 : Nat) (hbf0 : w0.heap[bf0]? = some (.cells ([nV c0_.params, nV c0_.regs, v1] : List Value).toArray 49 (0, 0))) :
    ConM Tryz.prog 249 [nV r_, (pV bf0)] w0 (impl_insOk_1 r_ c0_) fun r v w' => v = (.bool (r)) ∧ Below w0.heap.size w0 w' := by
  unfold impl_insOk_1
  refine gcon func249 rfl fun r => ?_
  have hm := Mem.start w0
  exact gS (gR (gA rfl (gE (gS (gR (gM rfl (gF fo_49_1 rfl (gY (yl isAgg3 (hm.old_cell hbf0 rfl) rfl) (gB rfl (gC hm rfl call47 (impl_within_ok _ r_ 0 (w64 (c0_.regs - 1))) fun aA aB w hm => gA rfl (gE (gRt (gr1 results249 rfl ⟨rfl, hm.below⟩)))))))))))))
theorem impl_isIns_ok (w0 : World) (op : Int) :
    ConM Tryz.prog 243 [nV op] w0 (impl_isIns op) fun r v w' => v = (.bool (r)) ∧ Below w0.heap.size w0 w' := by
  unfold impl_isIns
  refine gcon func243 rfl fun r => ?_
  have hm := Mem.start w0
  exact gS (gR (gA rfl (gE (gS (gR (gM rfl (gC hm rfl call47 (impl_within_ok _ op 1 14) fun aA aB w hm => gA rfl (gE (gRt (gr1 results243 rfl ⟨rfl, hm.below⟩))))))))))
theorem impl_insOk_2_ok (w0 : World) (r_ : Int) (c0_0_ : Code_) (v1 : Value) (h1 : GT.rep (hp w0) [v1] c0_0_.blocks) (aA : Nat) (aB : w0.heap[aA]? = some (.cells ([nV c0_0_.params, nV c0_0_.regs, v1] : List Value).toArray 49 (0, 0))) (bf0 : Nat) (hbf0 : w0.heap[bf0]? = some (.cells ([(.func (.func 249) #[] #[(pV aA)])] : List Value).toArray 95 (0, 0))) :
    ConM Tryz.prog 250 [nV r_, (pV bf0)] w0 (impl_insOk_2 r_ c0_0_) fun r v w' => v = (.bool (r)) ∧ Below w0.heap.size w0 w' := by
  unfold impl_insOk_2
  refine gcon func250 rfl fun r => ?_
  have hm := Mem.start w0
  refine gS (gR (gA rfl (gE (gS (gR (gY (yl isAgg95 (hm.old_cell hbf0 rfl) rfl) (gM rfl (gb fun aD aC => gf rfl (fun a hf => e_callv hf rfl rfl rfl ⟨249, [(pV aA)], rfl, call249, impl_insOk_1_ok _ r_ c0_0_ v1 (rep_later (hm.now h1) (Below.refl _ _)) aA (hm.old_later aB (Below.refl _ _)) _ aC⟩) ?_))))))))
  rintro aE w ⟨rfl, hB⟩
  replace hm := hm.below' hB; clear hB
  exact gN rfl (gA rfl (gE (gRt (gr1 results250 rfl ⟨rfl, hm.below⟩))))
theorem impl_sets_ok (w0 : World) (op : Int) :
    ConM Tryz.prog 165 [nV op] w0 (impl_sets op) fun r v w' => v = (.bool (r)) ∧ Below w0.heap.size w0 w' := by
  unfold impl_sets
  refine gcon func165 rfl fun r => ?_
  have hm := Mem.start w0
  refine gS (gR (gA rfl (gE (gS (gJ hm (fun aA => [(2, (.bool (aA)))]) (fun aA => []) (fun aA => ?_) ?_)))))
  ·refine gR (gM rfl (gC hm rfl call243 (impl_isIns_ok _ op) fun aD aE w hm => gM rfl (gs 5 rfl (fun aB => ?_) fun aB => ?_)))
   ·refine gM rfl (gB rfl (gKt rfl (gM rfl (gsd 9 rfl (fun aC => ?_) fun aC => ?_))))
    ·exact gM rfl (gB rfl (gKt rfl (gA rfl (gE (gz hm [] rfl)))))
    exact gO rfl (gO rfl (gKf rfl (gA rfl (gE (gz hm [] rfl)))))
   exact gO rfl (gO rfl (gKf rfl (gM rfl (gO rfl (gO rfl (gKf rfl (gA rfl (gE (gz hm [] rfl)))))))))
  repeat clear hm
  intro aA w hm
  exact gRt (gr1 results165 rfl ⟨rfl, hm.below⟩)
theorem impl_isByte_ok (w0 : World) (n_ : Int) :
    ConM Tryz.prog 251 [nV n_] w0 (impl_isByte n_) fun r v w' => v = (.bool (r)) ∧ Below w0.heap.size w0 w' := by
  unfold impl_isByte
  refine gcon func251 rfl fun r => ?_
  have hm := Mem.start w0
  exact gS (gR (gA rfl (gE (gS (gR (gM rfl (gC hm rfl call47 (impl_within_ok _ n_ 0 255) fun aA aB w hm => gA rfl (gE (gRt (gr1 results251 rfl ⟨rfl, hm.below⟩))))))))))
theorem impl_insArgs_ok (w0 : World) (op : Int) :
    ConM Tryz.prog 252 [nV op] w0 (impl_insArgs op) fun r v w' => v = (nV r) ∧ Below w0.heap.size w0 w' := by
  unfold impl_insArgs
  refine gcon func252 rfl fun r => ?_
  have hm := Mem.start w0
  refine gS (gR (gA rfl (gE (gS (gS (gR (gM rfl (gE (gBk (gS (gR (gB rfl (gA rfl (gE (gsd 4 rfl (fun aD => ?_) fun aD => ?_)))))))))))))))
  ·exact gct rfl (gS (gR (gA rfl (gE (gRt (gr1 results252 rfl ⟨rfl, hm.below⟩))))))
  refine gcf rfl (gS (gS (gR (gB rfl (gA rfl (gE (gJ hm (fun aA => [(6, (.bool (aA)))]) (fun aA => []) (fun aA => ?_) ?_)))))))
  ·refine gsd 6 rfl (fun aE => ?_) fun aE => ?_
   ·exact gct rfl (gSk (gz hm [] rfl))
   refine gcf rfl (gS (gR (gB rfl (gA rfl (gE (gJ hm (fun aB => [(6, (.bool (aB)))]) (fun aB => []) (fun aB => ?_) ?_))))))
   ·refine gsd 6 rfl (fun aF => ?_) fun aF => ?_
    ·exact gct rfl (gSk (gz hm [] rfl))
    refine gcf rfl (gS (gR (gB rfl (gA rfl (gE (gJ hm (fun aC => [(6, (.bool (aC)))]) (fun aC => []) (fun aC => ?_) ?_))))))
    ·refine gsd 6 rfl (fun aG => ?_) fun aG => ?_
     ·exact gct rfl (gSk (gz hm [] rfl))
     exact gcf rfl (gR (gB rfl (gA rfl (gE (gz hm [] rfl)))))
    repeat clear hm
    intro aC w hm
    exact gz hm [] rfl
   repeat clear hm
   intro aB w hm
   exact gz hm [] rfl
  repeat clear hm
  intro aA w hm
  refine gs 6 rfl (fun aH => ?_) fun aH => ?_
  ·exact gct rfl (gS (gR (gA rfl (gE (gRt (gr1 results252 rfl ⟨rfl, hm.below⟩))))))
  exact gcf rfl (gSk (gS (gR (gA rfl (gE (gRt (gr1 results252 rfl ⟨rfl, hm.below⟩)))))))
theorem impl_insOk_ok (w0 : World) (u : Unit_) (v1 : Value) (h1 : GT.rep (hp w0) [v1] u.codes) (k_ : Int) (x_ : Ins_) (v2 : Value) (h2 : GT.rep (hp w0) [v2] x_.args) :
    ConM Tryz.prog 185 [(.agg #[v1]), nV k_, (.agg #[nV x_.op, nV x_.to, v2, nV x_.n_])] w0 (impl_insOk u k_ x_) fun r v w' => v = (.bool (r)) ∧ Below w0.heap.size w0 w' := by
  unfold impl_insOk
  refine gcon func185 rfl fun r => ?_
  have hm := Mem.start w0
  refine gS (gR (gBx hm rfl fun aA w hm => gBx hm rfl fun aB w hm => gA rfl (gE (gS (gR (gF fo_28_0 rfl (gL hm 1 isAgg26 rfl (gM rfl (gg fun aC aR aN => ?_)))))))))
  obtain ⟨aF, aG, aH, he⟩ := idx_form' h1 aN
  subst he
  obtain ⟨aO, aS, aP⟩ := rk_Code_ h1 aN
  refine gI st_26 aR (idx_lt aN) rfl (gY (yn (aS.mono hm.lez) isAgg49 sizeOf49 rfl) (gAl hm zeroValue49 rfl fun aD w hm => gSN hm 0 sizeOf49 (one_cons rfl (one_cons rfl (one_cons (rep_one aP) one_nil))) rfl fun w hm => gE (gS (gR (gY (yU rfl) (gAl hm zeroValue95 rfl fun aE w hm => gS1 hm 0 sizeOf95 rfl rfl fun w hm => gE (gS (gS (gJ hm (fun aI => [(1, (nV k_)), (3, (pV aA)), (5, (pV aB)), (8, (pV aE)), (24, (.bool (aI)))]) (fun aI => [blk aA [sV aF aG u.codes.length aH] 28, blk aB [nV x_.op, nV x_.to, v2, nV x_.n_] 65, blk aE [(.func (.func 249) #[] #[(pV aD)])] 95, blk aD [nV aC.params, nV aC.regs, aO] 49]) (fun aI => ?_) ?_)))))))))
  ·refine gR (gF fo_65_0 rfl (gL hm 2 isAgg3 rfl (gC hm rfl call243 (impl_isIns_ok _ x_.op) fun an ao w hm => gN rfl (gM rfl (gsn 19 rfl (fun aT => ?_) fun aT => ?_)))))
   ·exact gO rfl (gO rfl (gO rfl (gO rfl (gKt rfl (gE (gz hm [3, 2, 0, 1] rfl))))))
   exact gF fo_65_2 rfl (gL hm 2 isAgg43 rfl (gY (yU rfl) (gC hm rfl call181 (slices_ContainsFunc_S_int_int_ok _ x_.args v2 (hm.now h2) (fun y0 => impl_insOk_2 y0 aC) (.func (.func 250) #[] #[(pV aE)]) (fun w y0 r hB hq => ⟨250, [(pV aE)], rfl, call250, impl_insOk_2_ok w y0 aC aO (rep_later (hm.now aP) hB) aD (hm.blk_later 1 rfl hB) aE (hm.blk_later 0 rfl hB) r hq⟩)) fun ap aq w hm => gKf rfl (gE (gz hm [3, 2, 0, 1] rfl)))))
  repeat clear hm
  intro aI w hm
  refine gs 24 rfl (fun aV => ?_) fun aV => ?_
  ·exact gct rfl (gS (gR (gA rfl (gE (gRt (gr1 results185 rfl ⟨rfl, hm.below⟩))))))
  refine gcf rfl (gSk (gS (gS (gJ hm (fun aJ => [(1, (nV k_)), (3, (pV aA)), (5, (pV aB)), (45, (.bool (aJ)))]) (fun aJ => [blk aA [sV aF aG u.codes.length aH] 28, blk aB [nV x_.op, nV x_.to, v2, nV x_.n_] 65]) (fun aJ => ?_) ?_))))
  ·refine gR (gF fo_65_0 rfl (gL hm 1 isAgg3 rfl (gC hm rfl call165 (impl_sets_ok _ x_.op) fun ar au w hm => gM rfl (gs 28 rfl (fun aW => ?_) fun aW => ?_))))
   ·refine gL hm 2 isAgg95 rfl (gF fo_65_1 rfl (gL hm 1 isAgg3 rfl (gb fun av aX => gf rfl (fun a hf => e_callv hf rfl rfl rfl ⟨249, [(pV aD)], rfl, call249, impl_insOk_1_ok _ x_.to aC aO (rep_later (hm.now aP) (Below.refl _ _)) aD (hm.blk_later 3 rfl (Below.refl _ _)) _ aX⟩) ?_)))
    rintro aw w ⟨rfl, hB⟩
    replace hm := hm.below' hB; clear hB
    refine gN rfl (gKt rfl (gM rfl (gsn 35 rfl (fun aY => ?_) fun aY => ?_)))
    ·exact gO rfl (gO rfl (gO rfl (gO rfl (gO rfl (gO rfl (gO rfl (gO rfl (gO rfl (gKt rfl (gE (gz hm [0, 1] rfl)))))))))))
    refine gF fo_65_0 rfl (gL hm 1 isAgg3 rfl (gC hm rfl call165 (impl_sets_ok _ x_.op) fun ax ay w hm => gN rfl (gM rfl (gsn 40 rfl (fun aZ => ?_) fun aZ => ?_))))
    ·exact gF fo_65_1 rfl (gL hm 1 isAgg3 rfl (gB rfl (gKt rfl (gKf rfl (gE (gz hm [0, 1] rfl))))))
    exact gO rfl (gO rfl (gO rfl (gKf rfl (gKf rfl (gE (gz hm [0, 1] rfl))))))
   refine gO rfl (gO rfl (gO rfl (gO rfl (gO rfl (gKf rfl (gM rfl (gF fo_65_0 rfl (gL hm 1 isAgg3 rfl (gC hm rfl call165 (impl_sets_ok _ x_.op) fun az bA w hm => gN rfl (gM rfl (gsn 40 rfl (fun aa => ?_) fun aa => ?_)))))))))))
   ·exact gF fo_65_1 rfl (gL hm 1 isAgg3 rfl (gB rfl (gKt rfl (gKf rfl (gE (gz hm [0, 1] rfl))))))
   exact gO rfl (gO rfl (gO rfl (gKf rfl (gKf rfl (gE (gz hm [0, 1] rfl))))))
  repeat clear hm
  intro aJ w hm
  refine gs 45 rfl (fun ab => ?_) fun ab => ?_
  ·exact gct rfl (gS (gR (gA rfl (gE (gRt (gr1 results185 rfl ⟨rfl, hm.below⟩))))))
  refine gcf rfl (gSk (gS (gS (gR (gF fo_65_0 rfl (gL hm 1 isAgg3 rfl (gE (gBk (gS (gR (gB rfl (gA rfl (gE (gsd 48 rfl (fun ac => ?_) fun ac => ?_))))))))))))))
  ·refine gct rfl (gS (gJ hm (fun aK => [(6, (.bool (aK)))]) (fun aK => []) (fun aK => ?_) ?_))
   ·refine gR (gF fo_65_2 rfl (gL hm 1 isAgg43 rfl ?_))
    obtain ⟨bB, bC, rfl, bD⟩ := ro_slice h2
    refine gY (yV st_43 rfl) (gB rfl (gM rfl (gsd 54 rfl (fun ae => ?_) fun ae => ?_)))
    ·exact gF fo_65_3 rfl (gL hm 1 isAgg3 rfl (gC hm rfl call251 (impl_isByte_ok _ x_.n_) fun bE bF w hm => gKt rfl (gA rfl (gE (gz hm [] rfl)))))
    exact gO rfl (gO rfl (gO rfl (gKf rfl (gA rfl (gE (gz hm [] rfl))))))
   repeat clear hm
   intro aK w hm
   exact gRt (gr1 results185 rfl ⟨rfl, hm.below⟩)
  refine gcf rfl (gS (gR (gB rfl (gA rfl (gE (gsd 59 rfl (fun af => ?_) fun af => ?_))))))
  ·refine gct rfl (gS (gJ hm (fun aL => [(6, (.bool (aL)))]) (fun aL => []) (fun aL => ?_) ?_))
   ·refine gW (.p 0 (.p 2 (.p 3 (.e 1 (.e 4 (.p 5 (.p 6 (.p 9 (.p 11 (.q 7 (.p 8 (.q 10 (.e 12 (.p 13 (.p 14 (.e 15 (.p 16 (.p 17 (.p 18 .fin))) .nil))) .nil)))))))) .nil) .nil)))) [7, 10, 12, 15] [0, 2, 3, 5, 6, 8, 9, 11, 13, 14, 16, 17, 18] hm [0, 1] [blk aA [sV aF aG u.codes.length aH] 28, blk aB [nV x_.op, nV x_.to, v2, nV x_.n_] 65] rfl mxo (by kernel_rfl) (fun _ _ _ h => h.2) fun w hm hS => tP rfl (fun w => yF fo_65_3 rfl) (tP rfl (fun w => yM rfl) (tP rfl (fun w => yB rfl) (tO (tY rfl (yL hm 1 isAgg3 rfl) (tAn rfl (tO (gb fun bG ag => tf rfl rfl (fun a hf => e_call hf rfl call47 rfl (impl_within_ok _ x_.n_ 0 (w64 (k_ - 1)) _ ag)) ?_)))))))
    rintro bH w ⟨rfl, hB⟩
    replace hm := hm.below' hB; clear hB
    refine tAk hm [0, 1] rfl fun hS => tP rfl (fun w => yM rfl) (gs 66 rfl (fun ah => ?_) fun ah => ?_)
    ·refine tP rfl (fun w => yF fo_65_2 rfl) (tP rfl (fun w => yF fo_28_0 rfl) (tP rfl (fun w => yF fo_65_3 rfl) (tQ rfl hS (fun w hm => yL hm 1 isAgg43 rfl) ?_)))
     obtain ⟨bJ, bK, rfl, bL⟩ := ro_slice h2
     refine tP rfl (fun w => yV st_43 rfl) (tQ rfl hS (fun w hm => yL hm 0 isAgg26 rfl) (tO (tY rfl (yL hm 1 isAgg3 rfl) (tAs hS (gg fun bM ai aQ => ?_)))))
     obtain ⟨bN, aj, bO⟩ := rk_Code_ h1 aQ
     exact tP rfl (fun w => yI st_26 ai (idx_lt aQ) rfl) (tP rfl (fun w => yF fo_49_0 rfl) (tO (tY rfl (yl isAgg3 ((aj.mono hm.lez).cell (j := 0) rfl) rfl) (tAs hS (tP rfl (fun w => yB rfl) (tP rfl (fun w => yKt rfl) (tP rfl (fun w => yA rfl) (tE (gz hm [] rfl)))))))))
    exact tPo rfl rfl (tPo rfl rfl (tPo rfl rfl (tQo rfl hS rfl (tPo rfl rfl (tQo rfl hS rfl (tO (tEo rfl rfl (tAs hS (tPo rfl rfl (tPo rfl rfl (tO (tEo rfl rfl (tAs hS (tPo rfl rfl (tP rfl (fun w => yKf rfl) (tP rfl (fun w => yA rfl) (tE (gz hm [] rfl))))))))))))))))))
   repeat clear hm
   intro aL w hm
   exact gRt (gr1 results185 rfl ⟨rfl, hm.below⟩)
  refine gcf rfl (gSk (gS (gJ hm (fun aM => [(6, (.bool (aM)))]) (fun aM => []) (fun aM => ?_) ?_)))
  ·refine gW (.p 0 (.e 1 (.p 2 (.p 3 (.p 4 (.p 7 (.q 5 (.p 6 (.e 8 (.e 9 (.p 10 (.p 11 (.p 12 .fin))) .nil) .nil))))))) .nil)) [8, 9] [0, 2, 3, 4, 6, 7, 10, 11, 12] hm [0, 1] [blk aA [sV aF aG u.codes.length aH] 28, blk aB [nV x_.op, nV x_.to, v2, nV x_.n_] 65] rfl mxo (by kernel_rfl) (fun _ _ _ h => h.2) fun w hm hS => tP rfl (fun w => yF fo_65_3 rfl) (tO (tY rfl (yL hm 1 isAgg3 rfl) (tAn rfl (tP rfl (fun w => yB rfl) (tP rfl (fun w => yM rfl) (gsd 82 rfl (fun ak => ?_) fun ak => ?_))))))
   ·refine tP rfl (fun w => yF fo_65_2 rfl) (tP rfl (fun w => yF fo_65_0 rfl) (tQ rfl hS (fun w hm => yL hm 1 isAgg43 rfl) ?_))
    obtain ⟨bP, bQ, rfl, bR⟩ := ro_slice h2
    refine tP rfl (fun w => yV st_43 rfl) (tO (tY rfl (yL hm 1 isAgg3 rfl) (tAs hS (tO (gb fun bS am => tf rfl rfl (fun a hf => e_call hf rfl call252 rfl (impl_insArgs_ok _ x_.op _ am)) ?_)))))
    rintro bT w ⟨rfl, hB⟩
    replace hm := hm.below' hB; clear hB
    exact tAk hm [0, 1] rfl fun hS => tP rfl (fun w => yB rfl) (tP rfl (fun w => yKt rfl) (tP rfl (fun w => yA rfl) (tE (gz hm [] rfl))))
   exact tPo rfl rfl (tPo rfl rfl (tQo rfl hS rfl (tPo rfl rfl (tO (tEo rfl rfl (tAs hS (tO (tEo rfl rfl (tAs hS (tPo rfl rfl (tP rfl (fun w => yKf rfl) (tP rfl (fun w => yA rfl) (tE (gz hm [] rfl))))))))))))))
  repeat clear hm
  intro aM w hm
  exact gRt (gr1 results185 rfl ⟨rfl, hm.below⟩)
theorem impl_codeOk_3_ok (w0 : World) (i_ : Ins_) (v1 : Value) (h1 : GT.rep (hp w0) [v1] i_.args) (c0_ : Unit_) (v2 : Value) (h2 : GT.rep (hp w0) [v2] c0_.codes) (bf0 : Nat) (hbf0 : w0.heap[bf0]? = some (.cells ([v2] : List Value).toArray 28 (0, 0))) (c1_ : Int) (bf1 : Nat) (hbf1 : w0.heap[bf1]? = some (.cells ([nV c1_] : List Value).toArray 3 (0, 0))) :
    ConM Tryz.prog 184 [(.agg #[nV i_.op, nV i_.to, v1, nV i_.n_]), (pV bf0), (pV bf1)] w0 (impl_codeOk_3 i_ c0_ c1_) fun r v w' => v = (.bool (r)) ∧ Below w0.heap.size w0 w' := by
  unfold impl_codeOk_3
  refine gcon func184 rfl fun r => ?_
  have hm := Mem.start w0
  exact gS (gR (gBx hm rfl fun aA w hm => gA rfl (gE (gS (gR (gY (yn (hm.old_at hbf0) isAgg28 sizeOf28 rfl) (gY (yl isAgg3 (hm.old_cell hbf1 rfl) rfl) (gY (yn (hm.blk_at 0 rfl) isAgg65 sizeOf65 rfl) (gC hm rfl call185 (impl_insOk_ok _ c0_ v2 (hm.now h2) c1_ i_ v1 (hm.now h1)) fun aB aC w hm => gN rfl (gA rfl (gE (gRt (gr1 results184 rfl ⟨rfl, hm.below⟩)))))))))))))
theorem slices_IndexFunc_S_impl_Ins_impl_Ins_ok (w0 : World) (s_ : List Ins_) (v1 : Value) (h1 : GT.rep (hp w0) [v1] s_) (f : Ins_ → Option Bool) (fv1 : Value) (hfn1 : ∀ (w : World) (y0 : Ins_) (z1 : Value) (_ : GT.rep (hp w) [z1] y0.args) (r : Bool), Below w0.heap.size w0 w → f y0 = some r → FnOk Tryz.prog fv1 [(.agg #[nV y0.op, nV y0.to, z1, nV y0.n_])] w (fun v w' => v = (.bool (r)) ∧ Below w.heap.size w w')) :
    ConM Tryz.prog 248 [v1, fv1] w0 (slices_IndexFunc_S_impl_Ins_impl_Ins s_ f) fun r v w' => v = (nV r) ∧ Below w0.heap.size w0 w' := by
  unfold slices_IndexFunc_S_impl_Ins_impl_Ins
  refine gcon func248 rfl fun r => ?_
  have hm := Mem.start w0
  refine gS (gR (gA rfl (gE (gS (gS (gR (gM rfl ?_)))))))
  obtain ⟨aD, aE, rfl, aO⟩ := ro_slice h1
  refine gY (yV st_61 rfl) (gM rfl (gE (gBk (gNf hm (fun aA aC => [(0, (.slice aD s_.length aE)), (1, fv1), (7, (nV ((s_.length : Int)))), (8, (nV aA))]) (fun aA aC => []) [] rfl ?_ ?_))))
  ·repeat clear hm
   intro aP aF aA aC w hm aQ aR aS aG
   refine gS (gR (gB rfl (gE (gS (go _ 9 rfl (decide_eq_true (by omega)) (gct rfl (gSk (gS (gBk (gS (gR (gM rfl (gA rfl (gE (gS (gR (gM rfl (gM rfl (gM rfl (gg fun aH aI aB => ?_))))))))))))))))))))
   obtain ⟨aT, aV, aW, he⟩ := idx_form' h1 aB
   obtain ⟨rfl, _, rfl⟩ := sl3 he
   obtain ⟨aJ, aK, aL⟩ := rk_Ins_ h1 aB
   refine gI st_61 aI (idx_lt aB) rfl (gY (yn (aK.mono hm.lez) isAgg65 sizeOf65 rfl) (gb fun aX aM => gf rfl (fun a hf => e_callv hf rfl rfl rfl (hfn1 _ aH aJ (hm.now aL) _ hm.below aM)) ?_))
   rintro aY w ⟨rfl, hB⟩
   replace hm := hm.below' hB; clear hB
   refine gE (gs 16 rfl (fun aN => ?_) fun aN => ?_)
   ·exact gct rfl (gS (gR (gM rfl (gA rfl (gE (gRt (gLr aG aF (gr1 results248 rfl ⟨rfl, hm.below⟩))))))))
   exact gcf rfl (gSk (gR (gP (by omega) (by omega) rfl (gM rfl (gE (gze hm [] rfl))))))
  repeat clear hm
  intro aZ aa w hm ab ac
  exact gS (gR (gB rfl (gE (gS (go _ 9 rfl (decide_eq_false (by omega)) (gcf rfl (gXt (gHh (gS (gR (gA rfl (gE (gRt (gr1 results248 rfl ⟨rfl, hm.below⟩))))))))))))))
theorem slices_ContainsFunc_S_impl_Ins_impl_Ins_ok (w0 : World) (s_ : List Ins_) (v1 : Value) (h1 : GT.rep (hp w0) [v1] s_) (f : Ins_ → Option Bool) (fv1 : Value) (hfn1 : ∀ (w : World) (y0 : Ins_) (z1 : Value) (_ : GT.rep (hp w) [z1] y0.args) (r : Bool), Below w0.heap.size w0 w → f y0 = some r → FnOk Tryz.prog fv1 [(.agg #[nV y0.op, nV y0.to, z1, nV y0.n_])] w (fun v w' => v = (.bool (r)) ∧ Below w.heap.size w w')) :
    ConM Tryz.prog 183 [v1, fv1] w0 (slices_ContainsFunc_S_impl_Ins_impl_Ins s_ f) fun r v w' => v = (.bool (r)) ∧ Below w0.heap.size w0 w' := by
  unfold slices_ContainsFunc_S_impl_Ins_impl_Ins
  refine gcon func183 rfl fun r => ?_
  have hm := Mem.start w0
  exact gS (gR (gA rfl (gE (gS (gR (gM rfl (gM rfl (gC hm rfl call248 (slices_IndexFunc_S_impl_Ins_impl_Ins_ok _ s_ v1 (hm.now h1) f fv1 (fun w y0 aA aB r hB hq => hfn1 w y0 aA aB r (hm.below.trans (hB.mono hm.below.size)) hq)) fun aC aD w hm => gB rfl (gA rfl (gE (gRt (gr1 results183 rfl ⟨rfl, hm.below⟩))))))))))))
theorem slices_Index_S_int_int_ok (w0 : World) (s_ : List Int) (v1 : Value) (h1 : GT.rep (hp w0) [v1] s_) (v_ : Int) :
    ConM Tryz.prog 160 [v1, nV v_] w0 (slices_Index_S_int_int s_ v_) fun r v w' => v = (nV r) ∧ Below w0.heap.size w0 w' := by
  unfold slices_Index_S_int_int
  refine gcon func160 rfl fun r => ?_
  have hm := Mem.start w0
  refine gS (gR (gA rfl (gE (gS (gS (gR (gM rfl ?_)))))))
  obtain ⟨aD, aE, rfl, aK⟩ := ro_slice h1
  refine gY (yV st_43 rfl) (gM rfl (gE (gBk (gNf hm (fun aA aC => [(0, (.slice aD s_.length aE)), (1, (nV v_)), (7, (nV ((s_.length : Int)))), (8, (nV aA))]) (fun aA aC => []) [] rfl ?_ ?_))))
  ·repeat clear hm
   intro aL aF aA aC w hm aM aN aO aG
   refine gS (gR (gB rfl (gE (gS (go _ 9 rfl (decide_eq_true (by omega)) (gct rfl (gSk (gS (gBk (gS (gR (gM rfl (gA rfl (gE (gS (gR (gM rfl (gM rfl (gM rfl (gg fun aH aI aB => ?_))))))))))))))))))))
   obtain ⟨aP, aQ, aR, he⟩ := idx_form h1 aB
   obtain ⟨rfl, _, rfl⟩ := sl3 he
   refine gI st_43 aI (idx_lt aB) rfl (gY (yl isAgg3 ((flat_cells (cs := [nV aH]) (hm.now h1) aB rfl).cell (j := 0) rfl) rfl) (gB rfl (gE (gsd 16 rfl (fun aJ => ?_) fun aJ => ?_))))
   ·exact gct rfl (gS (gR (gM rfl (gA rfl (gE (gRt (gLr aG aF (gr1 results160 rfl ⟨rfl, hm.below⟩))))))))
   exact gcf rfl (gSk (gR (gP (by omega) (by omega) rfl (gM rfl (gE (gze hm [] rfl))))))
  repeat clear hm
  intro aS aT w hm aV aW
  exact gS (gR (gB rfl (gE (gS (go _ 9 rfl (decide_eq_false (by omega)) (gcf rfl (gXt (gHh (gS (gR (gA rfl (gE (gRt (gr1 results160 rfl ⟨rfl, hm.below⟩))))))))))))))
theorem slices_Contains_S_int_int_ok (w0 : World) (s_ : List Int) (v1 : Value) (h1 : GT.rep (hp w0) [v1] s_) (v_ : Int) :
    ConM Tryz.prog 96 [v1, nV v_] w0 (slices_Contains_S_int_int s_ v_) fun r v w' => v = (.bool (r)) ∧ Below w0.heap.size w0 w' := by
  unfold slices_Contains_S_int_int
  refine gcon func96 rfl fun r => ?_
  have hm := Mem.start w0
  exact gS (gR (gA rfl (gE (gS (gR (gM rfl (gM rfl (gC hm rfl call160 (slices_Index_S_int_int_ok _ s_ v1 (hm.now h1) v_) fun aA aB w hm => gB rfl (gA rfl (gE (gRt (gr1 results96 rfl ⟨rfl, hm.below⟩))))))))))))
theorem impl_PredsOf_ok (w0 : World) (c_ : Code_) (v1 : Value) (h1 : GT.rep (hp w0) [v1] c_.blocks) (b_ : Int) :
    ConM Tryz.prog 113 [(.agg #[nV c_.params, nV c_.regs, v1]), nV b_] w0 (impl_PredsOf c_ b_) fun r v w' => ∃ (x1 : Value), v = x1 ∧ Mem w0 (hp w0) w' [ow [x1] r] := by
  unfold impl_PredsOf
  refine gcon func113 rfl fun r => ?_
  have hm := Mem.start w0
  refine gS (gR (gBx hm rfl fun ab w hm => gA rfl (gE (gS (gR (gA rfl (gE (gS (gS (gR (gM rfl (gF fo_49_2 rfl (gL hm 0 isAgg47 rfl ?_)))))))))))))
  obtain ⟨aI, aE, rfl, ac⟩ := ro_slice h1
  refine gY (yV st_47 rfl) (gY (yS (by omega) (by omega) rfl) (gC hm rfl call47 (impl_within_ok _ b_ 0 (((c_.blocks.length : Int)) - 1)) fun ae af w hm => gN rfl (gE (gsn 14 rfl (fun aL => ?_) fun aL => ?_))))
  ·refine gct rfl (gS (gR (gA rfl (gE (gRt ?_)))))
   replace hm := hm.nilow (α := Int)
   exact gr1 results113 rfl ⟨.slice none 0 0, rfl, hm.pk [0] rfl rfl⟩
  refine gcf rfl (gSk (gS (gS (gR (gF fo_49_2 rfl (gL hm 0 isAgg47 rfl (gY (yV st_47 rfl) (gM rfl (gE (gBk ?_))))))))))
  replace hm := hm.nilow (α := Int)
  refine gNg (fun aA aJ a w => ∃ (aB : Value), St 33 [(1, (nV b_)), (5, aB), (16, (.slice aI c_.blocks.length aE)), (17, (nV ((c_.blocks.length : Int)))), (18, (nV aA))] w0 (hp w0) [ow [aB] aJ] a w) (fun a hf => ⟨.slice none 0 0, hf.sb rfl, hm.pk [0] rfl rfl⟩) ?_ ?_
  ·repeat clear hm
   rintro _ _ aA aJ a w ⟨aB, hf, hm⟩ ag ah ai _
   refine gv hf (gS (gR (gB rfl (gE (gS (go _ 19 rfl (decide_eq_true (by omega)) (gct rfl (gSk (gS (gJg (fun aF a w => ∃ (aC : Value), St 33 [(1, (nV b_)), (5, aC), (16, (.slice aI c_.blocks.length aE)), (17, (nV ((c_.blocks.length : Int)))), (18, (nV aA))] w0 (hp w0) [ow [aC] aF] a w) (fun aF => ?_) ?_))))))))))
   ·refine gBk (gS (gR (gM rfl (gg fun aM aN aG => ?_))))
    obtain ⟨aO, aP, aj, he⟩ := idx_form' h1 aG
    obtain ⟨rfl, _, rfl⟩ := sl3 he
    obtain ⟨ak, am, aQ, aR, aS, aT, aK⟩ := rk_Block_ h1 aG
    refine gI st_47 aN (idx_lt aG) rfl (gY (yn (aR.mono hm.lez) isAgg63 sizeOf63 rfl) (gAl hm zeroValue63 rfl fun an w hm => gA rfl (gSN hm 0 sizeOf63 (one_cons (rep_one aS) (one_cons (rep_one aT) (one_cons rfl (one_cons rfl (one_cons (rep_one aK) one_nil))))) rfl fun w hm => gE (gS (gR (gF fo_63_4 rfl (gL hm 0 isAgg43 rfl (gM rfl (gC hm rfl call96 (slices_Contains_S_int_int_ok _ aM.next_ aQ (hm.now aK) b_) fun ao ap w hm => gE (gJg (fun aH a w => ∃ (aD : Value), St 33 [(1, (nV b_)), (5, aD), (16, (sV aO aP c_.blocks.length aE)), (17, (nV ((c_.blocks.length : Int)))), (18, (nV aA))] w0 (hp w0) [ow [aD] aH] a w) (fun aH => ?_) ?_))))))))))
    ·refine gs 26 rfl (fun aV => ?_) fun aV => ?_
     ·refine gct rfl (gR (gM rfl (gM rfl (gf rfl (fun a hf => e_build (vs := #[(0, (nV aA))]) (cs := [nV aA]) et_43 hf hm rfl rfl (by kernel_rfl) rfl rfl) ?_))))
      rintro _ w ⟨aq, rfl, hm⟩
      replace hm := hm.lit (xs := ([aA] : List Int)) 0 rfl rfl rfl rfl
      refine gb fun ar aW => ?_
      obtain ⟨aX, aY⟩ := appM_some.1 aW
      refine gf rfl (fun a hf => e_append 2 et_43 hf hm rfl (hm.ow_rep 0 rfl) rfl rfl rfl aX) ?_
      rintro aZ w hm
      rw [aY] at hm
      exact gA rfl (gE (gZ fun a hf => ⟨aZ, hf.sb rfl, hm.pk [2] rfl rfl⟩))
     exact gcf rfl (gSk (gZ fun a hf => ⟨aB, hf.sb rfl, hm.pk [1] rfl rfl⟩))
    repeat clear hm
    rintro aH a w ⟨aD, hf, hm⟩
    exact gv hf (gZ fun a hf => ⟨aD, hf.sb rfl, hm.pk [0] rfl rfl⟩)
   repeat clear hm
   rintro aF a w ⟨aC, hf, hm⟩
   exact gv hf (gR (gP (by omega) (by omega) rfl (gM rfl (gE (gZe fun a hf => ⟨aC, hf.sb rfl, hm.pk [0] rfl rfl⟩)))))
  repeat clear hm
  rintro au av a w ⟨aa, hf, hm⟩ aw ax
  exact gv hf (gS (gR (gB rfl (gE (gS (go _ 19 rfl (decide_eq_false (by omega)) (gcf rfl (gXt (gHh (gS (gR (gM rfl (gA rfl (gE (gRt (gr1 results113 rfl ⟨aa, rfl, hm.pk [0] rfl rfl⟩))))))))))))))))
theorem impl_codeOk_4_ok (w0 : World) (r_ : Int) (c0_0_ : Code_) (v1 : Value) (h1 : GT.rep (hp w0) [v1] c0_0_.blocks) (aA : Nat) (aB : w0.heap[aA]? = some (.cells ([nV c0_0_.params, nV c0_0_.regs, v1] : List Value).toArray 49 (0, 0))) (bf0 : Nat) (hbf0 : w0.heap[bf0]? = some (.cells ([(.func (.func 179) #[] #[(pV aA)])] : List Value).toArray 95 (0, 0))) :
    ConM Tryz.prog 186 [nV r_, (pV bf0)] w0 (impl_codeOk_4 r_ c0_0_) fun r v w' => v = (.bool (r)) ∧ Below w0.heap.size w0 w' := by
  unfold impl_codeOk_4
  refine gcon func186 rfl fun r => ?_
  have hm := Mem.start w0
  refine gS (gR (gA rfl (gE (gS (gR (gY (yl isAgg95 (hm.old_cell hbf0 rfl) rfl) (gM rfl (gb fun aD aC => gf rfl (fun a hf => e_callv hf rfl rfl rfl ⟨179, [(pV aA)], rfl, call179, impl_codeOk_1_ok _ r_ c0_0_ v1 (rep_later (hm.now h1) (Below.refl _ _)) aA (hm.old_later aB (Below.refl _ _)) _ aC⟩) ?_))))))))
  rintro aE w ⟨rfl, hB⟩
  replace hm := hm.below' hB; clear hB
  exact gN rfl (gA rfl (gE (gRt (gr1 results186 rfl ⟨rfl, hm.below⟩))))
theorem impl_codeOk_ok (w0 : World) (u : Unit_) (v1 : Value) (h1 : GT.rep (hp w0) [v1] u.codes) (k_ : Int) :
    ConM Tryz.prog 116 [(.agg #[v1]), nV k_] w0 (impl_codeOk u k_) fun r v w' => v = (.bool (r)) ∧ Below w0.heap.size w0 w' := by
  unfold impl_codeOk
  refine gcon func116 rfl fun r => ?_
  have hm := Mem.start w0
  refine gS (gR (gBx hm rfl fun aD w hm => gBx hm rfl fun aE w hm => gA rfl (gE (gS (gR (gF fo_28_0 rfl (gL hm 1 isAgg26 rfl (gL hm 0 isAgg3 rfl (gg fun aA ap aY => ?_)))))))))
  obtain ⟨aL, aM, aN, he⟩ := idx_form' h1 aY
  subst he
  obtain ⟨aq, ar, aK⟩ := rk_Code_ h1 aY
  refine gI st_26 ap (idx_lt aY) rfl (gY (yn (ar.mono hm.lez) isAgg49 sizeOf49 rfl) (gAl hm zeroValue49 rfl fun aB w hm => gSN hm 0 sizeOf49 (one_cons rfl (one_cons rfl (one_cons (rep_one aK) one_nil))) rfl fun w hm => gE (gS (gS (gJ hm (fun aP => [(2, (pV aD)), (3, (pV aE)), (5, (pV aB)), (36, (.bool (aP)))]) (fun aP => [blk aD [sV aL aM u.codes.length aN] 28, blk aE [nV k_] 3, blk aB [nV aA.params, nV aA.regs, aq] 49]) (fun aP => ?_) ?_)))))
  ·refine gR (gF fo_49_1 rfl (gL hm 0 isAgg3 rfl (gC hm rfl call47 (impl_within_ok _ aA.regs 0 300) fun bb bc w hm => gN rfl (gM rfl (gsn 21 rfl (fun au => ?_) fun au => ?_)))))
   ·exact gO rfl (gO rfl (gO rfl (gO rfl (gO rfl (gO rfl (gO rfl (gKt rfl (gM rfl (gO rfl (gO rfl (gO rfl (gO rfl (gO rfl (gKt rfl (gE (gz hm [2, 1, 0] rfl))))))))))))))))
   refine gF fo_49_0 rfl (gL hm 0 isAgg3 rfl (gF fo_49_1 rfl (gL hm 0 isAgg3 rfl (gY (yG rfl (y_min rfl rfl rfl)) ?_))))
   have bd : minI 3 aA.regs = min 3 aA.regs := minI_eq _ _
   refine gC hm rfl call47 (impl_within_ok _ aA.params 0 (minI 3 aA.regs)) fun be bf w hm => gN rfl (gKf rfl (gM rfl (gsn 30 rfl (fun av => ?_) fun av => ?_)))
   ·exact gO rfl (gO rfl (gO rfl (gO rfl (gO rfl (gKt rfl (gE (gz hm [2, 1, 0] rfl)))))))
   refine gF fo_49_2 rfl (gL hm 0 isAgg47 rfl ?_)
   obtain ⟨bg, bh, rfl, bi⟩ := ro_slice aK
   exact gY (yV st_47 rfl) (gC hm rfl call47 (impl_within_ok _ (aA.blocks.length : Int) 1 160) fun bj bk w hm => gN rfl (gKf rfl (gE (gz hm [2, 1, 0] rfl))))
  repeat clear hm
  intro aP w hm
  refine gs 36 rfl (fun aw => ?_) fun aw => ?_
  ·exact gct rfl (gS (gR (gA rfl (gE (gRt (gr1 results116 rfl ⟨rfl, hm.below⟩))))))
  refine gcf rfl (gSk (gS (gR (gY (yU rfl) (gAl hm zeroValue95 rfl fun aG w hm => gS1 hm 0 sizeOf95 rfl rfl fun w hm => gE (gS (gS (gR (gF fo_49_2 rfl (gL hm 3 isAgg47 rfl ?_))))))))))
  obtain ⟨ai, aF, rfl, bl⟩ := ro_slice aK
  refine gY (yV st_47 rfl) (gM rfl (gE (gBk (gNf hm (fun aJ aj => [(2, (pV aD)), (3, (pV aE)), (5, (pV aB)), (6, (pV aG)), (39, (.slice ai aA.blocks.length aF)), (40, (nV ((aA.blocks.length : Int)))), (41, (nV aJ))]) (fun aJ aj => [blk aD [sV aL aM u.codes.length aN] 28, blk aE [nV k_] 3, blk aB [nV aA.params, nV aA.regs, .slice ai aA.blocks.length aF] 49, blk aG [(.func (.func 179) #[] #[(pV aB)])] 95]) [1, 2, 3, 0] rfl ?_ ?_))))
  ·repeat clear hm
   intro bm aZ aJ aj w hm bo bp bq aa
   refine gS (gR (gB rfl (gE (gS (go _ 42 rfl (decide_eq_true (by omega)) (gct rfl (gSk (gS (gBk (gS (gR (gM rfl (gg fun aC ax ab => ?_)))))))))))))
   obtain ⟨aH, aI, br, he⟩ := idx_form' aK ab
   obtain ⟨rfl, _, rfl⟩ := sl3 he
   obtain ⟨ac, aQ, aR, ay, aS, ak, ae⟩ := rk_Block_ aK ab
   refine gI st_47 ax (idx_lt ab) rfl (gY (yn (ay.mono hm.lez) isAgg63 sizeOf63 rfl) (gAl hm zeroValue63 rfl fun aO w hm => gA rfl (gSN hm 0 sizeOf63 (one_cons (rep_one aS) (one_cons (rep_one ak) (one_cons rfl (one_cons rfl (one_cons (rep_one ae) one_nil))))) rfl fun w hm => gE (gS (gS (gJ hm (fun aT => [(2, (pV aD)), (3, (pV aE)), (5, (pV aB)), (6, (pV aG)), (7, (nV aJ)), (8, (pV aO)), (39, (sV aH aI aA.blocks.length aF)), (40, (nV ((aA.blocks.length : Int)))), (41, (nV aJ)), (75, (.bool (aT)))]) (fun aT => [blk aD [sV aL aM u.codes.length aN] 28, blk aE [nV k_] 3, blk aB [nV aA.params, nV aA.regs, sV aH aI aA.blocks.length aF] 49, blk aG [(.func (.func 179) #[] #[(pV aB)])] 95, blk aO [ac, aQ, nV aC.jump, nV aC.on, aR] 63]) (fun aT => ?_) ?_))))))
   ·refine gW (.p 0 (.p 3 (.q 1 (.p 2 (.e 4 (.e 5 (.p 6 (.p 7 (.p 8 (.e 9 (.e 10 (.p 11 (.p 13 (.q 12 (.e 14 (.e 15 (.p 16 (.p 17 (.p 18 (.p 19 (.p 20 (.e 21 (.e 22 (.p 23 (.p 24 (.p 25 (.e 26 (.p 27 (.p 28 (.p 29 .fin))) .nil)))) .nil) .nil)))))) .nil) .nil)))) .nil) .nil)))) .nil) .nil))))) [4, 5, 14] [0, 2, 3, 6, 7, 8, 11, 13, 16, 17, 18, 19, 20, 23, 24, 25, 27, 28, 29] hm [0, 1, 2, 3, 4] [blk aO [ac, aQ, nV aC.jump, nV aC.on, aR] 63, blk aD [sV aL aM u.codes.length aN] 28, blk aE [nV k_] 3, blk aB [nV aA.params, nV aA.regs, sV aH aI aA.blocks.length aF] 49, blk aG [(.func (.func 179) #[] #[(pV aB)])] 95] rfl mxo (by kernel_rfl) (fun _ _ _ h => h.2) fun w hm hS => tP rfl (fun w => yF fo_63_4 rfl) (tP rfl (fun w => yF fo_63_2 rfl) (tQ rfl hS (fun w hm => yL hm 0 isAgg43 rfl) ?_))
    obtain ⟨bt, bu, rfl, bv⟩ := ro_slice ae
    refine tP rfl (fun w => yV st_43 rfl) (tO (tY rfl (yL hm 0 isAgg3 rfl) (tAs hS (tO (gb fun bw az => tf rfl rfl (fun a hf => e_call hf rfl call180 rfl (impl_nextCount_ok _ aC.jump _ az)) ?_)))))
    rintro bx w ⟨rfl, hB⟩
    replace hm := hm.below' hB; clear hB
    refine tAk hm [0, 1, 2, 3, 4] rfl fun hS => tP rfl (fun w => yB rfl) (tP rfl (fun w => yM rfl) (gsd 53 rfl (fun bA => ?_) fun bA => ?_))
    ·refine tPo rfl rfl (tO (tEo rfl rfl (tAn rfl (tO (tEo rfl rfl (tAn rfl (tPo rfl rfl (tPo rfl rfl (tQo rfl hS rfl (tO (tEo rfl rfl (tAs hS (tO (tEo rfl rfl (tAn rfl (tPo rfl rfl (tPo rfl rfl (tP rfl (fun w => yKt rfl) (tP rfl (fun w => yM rfl) (tPo rfl rfl (tO (tEo rfl rfl (tAn rfl (tO (tEo rfl rfl (tAn rfl (tPo rfl rfl (tPo rfl rfl (tPo rfl rfl (tO ?_))))))))))))))))))))))))))))))
     exact tEo rfl rfl (tAn rfl (tPo rfl rfl (tPo rfl rfl (tP rfl (fun w => yKt rfl) (tE (gz hm [1, 2, 3, 4, 0] rfl))))))
    refine tP rfl (fun w => yF fo_63_2 rfl) (tO (tY rfl (yL hm 0 isAgg3 rfl) (tAn rfl (tO (gb fun bz bB => tf rfl rfl (fun a hf => e_call hf rfl call166 rfl (impl_usesOn_ok _ aC.jump _ bB)) ?_)))))
    rintro cA w ⟨rfl, hB⟩
    replace hm := hm.below' hB; clear hB
    refine tAk hm [0, 1, 2, 3, 4] rfl fun hS => tP rfl (fun w => yM rfl) (gs 57 rfl (fun bC => ?_) fun bC => ?_)
    ·refine tP rfl (fun w => yF fo_63_3 rfl) (tQ rfl hS (fun w hm => yL hm 4 isAgg95 rfl) (tO (tY rfl (yL hm 0 isAgg3 rfl) (tAs hS (tO (gb fun cB bD => tf rfl rfl (fun a hf => e_callv hf rfl rfl rfl ⟨179, [(pV aB)], rfl, call179, impl_codeOk_1_ok _ aC.on aA (sV aH aI aA.blocks.length aF) (rep_later (hm.now aK) (Below.refl _ _)) aB (hm.blk_later 3 rfl (Below.refl _ _)) _ bD⟩) ?_))))))
     rintro cC w ⟨rfl, hB⟩
     replace hm := hm.below' hB; clear hB
     refine tAn rfl (tP rfl (fun w => yN rfl) (tP rfl (fun w => yKt rfl) (tP rfl (fun w => yKf rfl) (tP rfl (fun w => yM rfl) (gsn 65 rfl (fun bE => ?_) fun bE => ?_)))))
     ·exact tPo rfl rfl (tO (tEo rfl rfl (tAn rfl (tO (tEo rfl rfl (tAn rfl (tPo rfl rfl (tPo rfl rfl (tPo rfl rfl (tO (tEo rfl rfl (tAn rfl (tPo rfl rfl (tPo rfl rfl (tP rfl (fun w => yKt rfl) (tE (gz hm [1, 2, 3, 4, 0] rfl)))))))))))))))))
     refine tP rfl (fun w => yF fo_63_2 rfl) (tO (tY rfl (yL hm 0 isAgg3 rfl) (tAn rfl (tO (gb fun cD bF => tf rfl rfl (fun a hf => e_call hf rfl call166 rfl (impl_usesOn_ok _ aC.jump _ bF)) ?_)))))
     rintro cE w ⟨rfl, hB⟩
     replace hm := hm.below' hB; clear hB
     refine tAn rfl (tP rfl (fun w => yN rfl) (tP rfl (fun w => yM rfl) (gsn 70 rfl (fun bG => ?_) fun bG => ?_)))
     ·exact tP rfl (fun w => yF fo_63_3 rfl) (tO (tY rfl (yL hm 0 isAgg3 rfl) (tAn rfl (tP rfl (fun w => yB rfl) (tP rfl (fun w => yKt rfl) (tP rfl (fun w => yKf rfl) (tE (gz hm [1, 2, 3, 4, 0] rfl))))))))
     exact tPo rfl rfl (tO (tEo rfl rfl (tAn rfl (tPo rfl rfl (tP rfl (fun w => yKf rfl) (tP rfl (fun w => yKf rfl) (tE (gz hm [1, 2, 3, 4, 0] rfl))))))))
    refine tPo rfl rfl (tQo rfl hS rfl (tO (tEo rfl rfl (tAs hS (tO (tEo rfl rfl (tAn rfl (tPo rfl rfl (tP rfl (fun w => yKf rfl) (tP rfl (fun w => yKf rfl) (tP rfl (fun w => yM rfl) (tP rfl (fun w => yF fo_63_2 rfl) (tO (tY rfl (yL hm 0 isAgg3 rfl) (tAn rfl (tO (gb fun cF bH => tf rfl rfl (fun a hf => e_call hf rfl call166 rfl (impl_usesOn_ok _ aC.jump _ bH)) ?_)))))))))))))))))
    rintro cG w ⟨rfl, hB⟩
    replace hm := hm.below' hB; clear hB
    refine tAn rfl (tP rfl (fun w => yN rfl) (tP rfl (fun w => yM rfl) (gsn 70 rfl (fun bJ => ?_) fun bJ => ?_)))
    ·exact tP rfl (fun w => yF fo_63_3 rfl) (tO (tY rfl (yL hm 0 isAgg3 rfl) (tAn rfl (tP rfl (fun w => yB rfl) (tP rfl (fun w => yKt rfl) (tP rfl (fun w => yKf rfl) (tE (gz hm [1, 2, 3, 4, 0] rfl))))))))
    exact tPo rfl rfl (tO (tEo rfl rfl (tAn rfl (tPo rfl rfl (tP rfl (fun w => yKf rfl) (tP rfl (fun w => yKf rfl) (tE (gz hm [1, 2, 3, 4, 0] rfl))))))))
   repeat clear hm
   intro aT w hm
   refine gs 75 rfl (fun bK => ?_) fun bK => ?_
   ·exact gct rfl (gS (gR (gA rfl (gE (gRt (gLr aa aZ (gr1 results116 rfl ⟨rfl, hm.below⟩)))))))
   refine gcf rfl (gSk (gS (gS (gJ hm (fun aV => [(2, (pV aD)), (3, (pV aE)), (5, (pV aB)), (6, (pV aG)), (7, (nV aJ)), (8, (pV aO)), (39, (sV aH aI aA.blocks.length aF)), (40, (nV ((aA.blocks.length : Int)))), (41, (nV aJ)), (85, (.bool (aV)))]) (fun aV => [blk aD [sV aL aM u.codes.length aN] 28, blk aE [nV k_] 3, blk aB [nV aA.params, nV aA.regs, sV aH aI aA.blocks.length aF] 49, blk aG [(.func (.func 179) #[] #[(pV aB)])] 95, blk aO [ac, aQ, nV aC.jump, nV aC.on, aR] 63]) (fun aV => ?_) ?_))))
   ·refine gR (gF fo_63_4 rfl (gL hm 4 isAgg43 rfl (gY (yU rfl) (gC hm rfl call181 (slices_ContainsFunc_S_int_int_ok _ aC.next_ aR (hm.now ae) (fun y0 => impl_codeOk_2 y0 aA) (.func (.func 182) #[] #[(pV aB)]) (fun w y0 r hB hq => ⟨182, [(pV aB)], rfl, call182, impl_codeOk_2_ok w y0 aA (sV aH aI aA.blocks.length aF) (rep_later (hm.now aK) hB) aB (hm.blk_later 2 rfl hB) r hq⟩)) fun cH cI w hm => gM rfl (gs 80 rfl (fun bL => ?_) fun bL => ?_)))))
    ·exact gO rfl (gO rfl (gO rfl (gO rfl (gKt rfl (gE (gz hm [0, 1, 2, 3, 4] rfl))))))
    exact gF fo_63_1 rfl (gL hm 4 isAgg61 rfl (gY (yU rfl) (gC hm rfl call183 (slices_ContainsFunc_S_impl_Ins_impl_Ins_ok _ aC.ins aQ (hm.now ak) (fun y0 => impl_codeOk_3 y0 u k_) (.func (.func 184) #[] #[(pV aD), (pV aE)]) (fun w y0 bM bN r hB hq => ⟨184, [(pV aD), (pV aE)], rfl, call184, impl_codeOk_3_ok w y0 bM bN u (sV aL aM u.codes.length aN) (rep_later (hm.now h1) hB) aD (hm.blk_later 0 rfl hB) k_ aE (hm.blk_later 1 rfl hB) r hq⟩)) fun cJ cK w hm => gKf rfl (gE (gz hm [0, 1, 2, 3, 4] rfl)))))
   repeat clear hm
   intro aV w hm
   refine gs 85 rfl (fun bO => ?_) fun bO => ?_
   ·exact gct rfl (gS (gR (gA rfl (gE (gRt (gLr aa aZ (gr1 results116 rfl ⟨rfl, hm.below⟩)))))))
   refine gcf rfl (gSk (gS (gR (gY (yn (hm.blk_at 2 rfl) isAgg49 sizeOf49 rfl) (gM rfl (gCg rfl call113 (impl_PredsOf_ok _ aA (sV aH aI aA.blocks.length aF) (hm.now aK) aJ) ?_))))))
   rintro am cL cM w ⟨_, rfl, hB⟩
   replace hm := hm.give hB; clear hB
   obtain ⟨cN, cO, rfl, cP⟩ := ro_slice (hm.ow_rep 0 rfl)
   refine gY (yV st_43 rfl) (gA rfl (gE (gS (gR (gF fo_63_0 rfl (gL hm 5 isAgg60 rfl ?_))))))
   obtain ⟨bP, an, rfl, cQ⟩ := ro_slice aS
   refine gY (yV st_60 rfl) (gM rfl (gE (gBk (gNf hm (fun aW ao => [(2, (pV aD)), (3, (pV aE)), (5, (pV aB)), (6, (pV aG)), (7, (nV aJ)), (9, (nV ((am.length : Int)))), (39, (sV aH aI aA.blocks.length aF)), (40, (nV ((aA.blocks.length : Int)))), (41, (nV aJ)), (91, (.slice bP aC.phis.length an)), (92, (nV ((aC.phis.length : Int)))), (93, (nV aW))]) (fun aW ao => [blk aD [sV aL aM u.codes.length aN] 28, blk aE [nV k_] 3, blk aB [nV aA.params, nV aA.regs, sV aH aI aA.blocks.length aF] 49, blk aG [(.func (.func 179) #[] #[(pV aB)])] 95]) [1, 2, 3, 4] rfl ?_ ?_))))
   ·repeat clear hm
    intro cR bQ aW ao w hm cS cT cU bR
    refine gS (gR (gB rfl (gE (gS (go _ 94 rfl (decide_eq_true (by omega)) (gct rfl (gSk (gS (gBk (gS (gR (gg fun af bS ag => ?_))))))))))))
    obtain ⟨bT, bU, cV, he⟩ := idx_form' aS ag
    obtain ⟨rfl, _, rfl⟩ := sl3 he
    obtain ⟨cW, bV, ah⟩ := rk_Phi_ aS ag
    refine gI st_60 bS (idx_lt ag) rfl (gY (yn (bV.mono hm.lez) isAgg127 sizeOf127 rfl) (gAl hm zeroValue127 rfl fun cX w hm => gSN hm 0 sizeOf127 (one_cons rfl (one_cons (rep_one ah) one_nil)) rfl fun w hm => gE (gS (gJ hm (fun aX => [(2, (pV aD)), (3, (pV aE)), (5, (pV aB)), (6, (pV aG)), (7, (nV aJ)), (9, (nV ((am.length : Int)))), (39, (sV aH aI aA.blocks.length aF)), (40, (nV ((aA.blocks.length : Int)))), (41, (nV aJ)), (91, (sV bT bU aC.phis.length an)), (92, (nV ((aC.phis.length : Int)))), (93, (nV aW)), (118, (.bool (aX)))]) (fun aX => [blk aD [sV aL aM u.codes.length aN] 28, blk aE [nV k_] 3, blk aB [nV aA.params, nV aA.regs, sV aH aI aA.blocks.length aF] 49, blk aG [(.func (.func 179) #[] #[(pV aB)])] 95]) (fun aX => ?_) ?_))))
    ·refine gR (gM rfl (gB rfl (gM rfl (gsd 99 rfl (fun bW => ?_) fun bW => ?_))))
     ·exact gO rfl (gO rfl (gO rfl (gO rfl (gO rfl (gKt rfl (gM rfl (gO rfl (gO rfl (gO rfl (gO rfl (gO rfl (gKt rfl (gM rfl (gO rfl (gO rfl (gO rfl (gO rfl (gKt rfl (gE (gz hm [1, 2, 3, 4] rfl))))))))))))))))))))
     refine gL hm 4 isAgg95 rfl (gF fo_127_0 rfl (gL hm 0 isAgg3 rfl (gb fun cY bX => gf rfl (fun a hf => e_callv hf rfl rfl rfl ⟨179, [(pV aB)], rfl, call179, impl_codeOk_1_ok _ af.to aA (sV aH aI aA.blocks.length aF) (rep_later (hm.now aK) (Below.refl _ _)) aB (hm.blk_later 3 rfl (Below.refl _ _)) _ bX⟩) ?_)))
     rintro cZ w ⟨rfl, hB⟩
     replace hm := hm.below' hB; clear hB
     refine gN rfl (gKf rfl (gM rfl (gsn 106 rfl (fun bY => ?_) fun bY => ?_)))
     ·exact gO rfl (gO rfl (gO rfl (gO rfl (gO rfl (gKt rfl (gM rfl (gO rfl (gO rfl (gO rfl (gO rfl (gKt rfl (gE (gz hm [1, 2, 3, 4] rfl)))))))))))))
     refine gF fo_127_1 rfl (gL hm 0 isAgg43 rfl ?_)
     obtain ⟨bZ, b8, rfl, c4⟩ := ro_slice ah
     refine gY (yV st_43 rfl) (gM rfl (gB rfl (gKf rfl (gM rfl (gsd 113 rfl (fun b9 => ?_) fun b9 => ?_)))))
     ·exact gO rfl (gO rfl (gO rfl (gO rfl (gKt rfl (gE (gz hm [1, 2, 3, 4] rfl))))))
     exact gF fo_127_1 rfl (gL hm 0 isAgg43 rfl (gY (yU rfl) (gC hm rfl call181 (slices_ContainsFunc_S_int_int_ok _ af.args (.slice bZ af.args.length b8) (hm.now ah) (fun y0 => impl_codeOk_4 y0 aA) (.func (.func 186) #[] #[(pV aG)]) (fun w y0 r hB hq => ⟨186, [(pV aG)], rfl, call186, impl_codeOk_4_ok w y0 aA (sV aH aI aA.blocks.length aF) (rep_later (hm.now aK) hB) aB (hm.blk_later 3 rfl hB) aG (hm.blk_later 4 rfl hB) r hq⟩)) fun c5 c6 w hm => gKf rfl (gE (gz hm [1, 2, 3, 4] rfl)))))
    repeat clear hm
    intro aX w hm
    refine gs 118 rfl (fun ba => ?_) fun ba => ?_
    ·exact gct rfl (gS (gR (gA rfl (gE (gRt (gLr bR bQ (gLr aa aZ (gr1 results116 rfl ⟨rfl, hm.below⟩))))))))
    exact gcf rfl (gSk (gR (gP (by omega) (by omega) rfl (gM rfl (gE (gze hm [0, 1, 2, 3] rfl))))))
   repeat clear hm
   intro c7 c8 w hm c9 ca
   exact gS (gR (gB rfl (gE (gS (go _ 94 rfl (decide_eq_false (by omega)) (gcf rfl (gXt (gHh (gR (gP (by omega) (by omega) rfl (gM rfl (gE (gze hm [0, 1, 2, 3] rfl)))))))))))))
  repeat clear hm
  intro cb cc w hm cd ce
  exact gS (gR (gB rfl (gE (gS (go _ 42 rfl (decide_eq_false (by omega)) (gcf rfl (gXt (gHh (gS (gR (gA rfl (gE (gRt (gr1 results116 rfl ⟨rfl, hm.below⟩))))))))))))))
theorem impl_codeCount_ok (w0 : World) (c_ : Code_) (v1 : Value) (h1 : GT.rep (hp w0) [v1] c_.blocks) :
    ConM Tryz.prog 67 [(.agg #[nV c_.params, nV c_.regs, v1])] w0 (impl_codeCount c_) fun r v w' => v = (nV r) ∧ Below w0.heap.size w0 w' := by
  unfold impl_codeCount
  refine gcon func67 rfl fun r => ?_
  have hm := Mem.start w0
  refine gS (gR (gBx hm rfl fun aK w hm => gA rfl (gE (gS (gR (gA rfl (gE (gS (gS (gR (gF fo_49_2 rfl (gL hm 0 isAgg47 rfl ?_))))))))))))
  obtain ⟨aF, aG, rfl, aL⟩ := ro_slice h1
  refine gY (yV st_47 rfl) (gM rfl (gE (gBk (gNf hm (fun aA aB => [(3, (nV aB)), (7, (.slice aF c_.blocks.length aG)), (8, (nV ((c_.blocks.length : Int)))), (9, (nV aA))]) (fun aA aB => []) [] rfl ?_ ?_))))
  ·repeat clear hm
   intro _ _ aA aB w hm aM aN aO _
   refine gS (gR (gB rfl (gE (gS (go _ 10 rfl (decide_eq_true (by omega)) (gct rfl (gSk (gS (gBk (gS (gR (gg fun aP aH aC => ?_))))))))))))
   obtain ⟨aQ, aR, aS, he⟩ := idx_form' h1 aC
   obtain ⟨rfl, _, rfl⟩ := sl3 he
   obtain ⟨aT, aV, aW, aI, aD, aE, aJ⟩ := rk_Block_ h1 aC
   refine gI st_47 aH (idx_lt aC) rfl (gY (yn (aI.mono hm.lez) isAgg63 sizeOf63 rfl) (gAl hm zeroValue63 rfl fun aX w hm => gSN hm 0 sizeOf63 (one_cons (rep_one aD) (one_cons (rep_one aE) (one_cons rfl (one_cons rfl (one_cons (rep_one aJ) one_nil))))) rfl fun w hm => gE (gR (gM rfl (gF fo_63_0 rfl (gL hm 0 isAgg60 rfl ?_))))))
   obtain ⟨aY, aZ, rfl, aa⟩ := ro_slice aD
   refine gY (yV st_60 rfl) (gF fo_63_1 rfl (gL hm 0 isAgg61 rfl ?_))
   obtain ⟨ab, ac, rfl, ae⟩ := ro_slice aE
   exact gY (yV st_61 rfl) (gP (by omega) (by omega) rfl (gB rfl (gA rfl (gE (gR (gP (by omega) (by omega) rfl (gM rfl (gE (gze hm [] rfl)))))))))
  repeat clear hm
  intro af ag w hm ah ai
  exact gS (gR (gB rfl (gE (gS (go _ 10 rfl (decide_eq_false (by omega)) (gcf rfl (gXt (gHh (gS (gR (gM rfl (gA rfl (gE (gRt (gr1 results67 rfl ⟨rfl, hm.below⟩)))))))))))))))
theorem impl_UnitValid_ok (w0 : World) (u : Unit_) (v1 : Value) (h1 : GT.rep (hp w0) [v1] u.codes) :
    ConM Tryz.prog 63 [(.agg #[v1])] w0 (impl_UnitValid u) fun r v w' => v = (.bool (r)) ∧ Below w0.heap.size w0 w' := by
  unfold impl_UnitValid
  refine gcon func63 rfl fun r => ?_
  have hm := Mem.start w0
  refine gS (gR (gBx hm rfl fun aE w hm => gA rfl (gE (gS (gS (gR (gF fo_28_0 rfl (gL hm 0 isAgg26 rfl ?_))))))))
  obtain ⟨aF, aB, rfl, aR⟩ := ro_slice h1
  refine gY (yV st_26 rfl) (gC hm rfl call47 (impl_within_ok _ (u.codes.length : Int) 1 4) fun aS aT w hm => gN rfl (gE (gsn 10 rfl (fun aH => ?_) fun aH => ?_)))
  ·exact gct rfl (gS (gR (gA rfl (gE (gRt (gr1 results63 rfl ⟨rfl, hm.below⟩))))))
  refine gcf rfl (gSk (gS (gR (gA rfl (gE (gS (gS (gR (gF fo_28_0 rfl (gL hm 0 isAgg26 rfl (gY (yV st_26 rfl) (gM rfl (gE (gBk (gNf hm (fun aA aC => [(1, (pV aE)), (3, (nV aC)), (12, (.slice aF u.codes.length aB)), (13, (nV ((u.codes.length : Int)))), (14, (nV aA))]) (fun aA aC => [blk aE [.slice aF u.codes.length aB] 28]) [0] rfl ?_ ?_)))))))))))))))
  ·repeat clear hm
   intro aV aI aA aC w hm aW aX aY aJ
   refine gS (gR (gB rfl (gE (gS (go _ 15 rfl (decide_eq_true (by omega)) (gct rfl (gSk (gS (gBk (gS (gR (gM rfl (gg fun aK aL aD => ?_)))))))))))))
   obtain ⟨aM, aN, aZ, he⟩ := idx_form' h1 aD
   obtain ⟨rfl, _, rfl⟩ := sl3 he
   obtain ⟨aO, aP, aG⟩ := rk_Code_ h1 aD
   refine gI st_26 aL (idx_lt aD) rfl (gY (yn (aP.mono hm.lez) isAgg49 sizeOf49 rfl) (gAl hm zeroValue49 rfl fun aa w hm => gA rfl (gSN hm 0 sizeOf49 (one_cons rfl (one_cons rfl (one_cons (rep_one aG) one_nil))) rfl fun w hm => gE (gS (gS (gR (gY (yn (hm.blk_at 1 rfl) isAgg28 sizeOf28 rfl) (gM rfl (gC hm rfl call116 (impl_codeOk_ok _ u (sV aM aN u.codes.length aB) (hm.now h1) aA) fun ab ac w hm => gN rfl (gE (gsn 22 rfl (fun aQ => ?_) fun aQ => ?_)))))))))))
   ·exact gct rfl (gS (gR (gA rfl (gE (gRt (gLr aJ aI (gr1 results63 rfl ⟨rfl, hm.below⟩)))))))
   exact gcf rfl (gSk (gR (gM rfl (gY (yn (hm.blk_at 0 rfl) isAgg49 sizeOf49 rfl) (gC hm rfl call67 (impl_codeCount_ok _ aK aO (hm.now aG)) fun ae af w hm => gB rfl (gA rfl (gE (gR (gP (by omega) (by omega) rfl (gM rfl (gE (gze hm [1] rfl))))))))))))
  repeat clear hm
  intro ag ah w hm ai aj
  exact gS (gR (gB rfl (gE (gS (go _ 15 rfl (decide_eq_false (by omega)) (gcf rfl (gXt (gHh (gS (gR (gM rfl (gB rfl (gA rfl (gE (gRt (gr1 results63 rfl ⟨rfl, hm.below⟩))))))))))))))))
theorem impl_mapped_impl_Code_impl_Code_ok (w0 : World) (list : List Code_) (v1 : Value) (h1 : GT.rep (hp w0) [v1] list) (f : Code_ → Option Code_) (fv1 : Value) (hfn1 : ∀ (w : World) (y0 : Code_) (z1 : Value) (_ : GT.rep (hp w) [z1] y0.blocks) (r : Code_), Below w0.heap.size w0 w → f y0 = some r → FnOk Tryz.prog fv1 [(.agg #[nV y0.params, nV y0.regs, z1])] w (fun v w' => ∃ (x1 : Value), v = (.agg #[nV r.params, nV r.regs, x1]) ∧ Mem w (hp w) w' [ow [x1] r.blocks])) :
    ConM Tryz.prog 48 [v1, fv1] w0 (impl_mapped_impl_Code_impl_Code list f) fun r v w' => ∃ (x1 : Value), v = x1 ∧ Mem w0 (hp w0) w' [ow [x1] r] := by
  unfold impl_mapped_impl_Code_impl_Code
  refine gcon func48 rfl fun r => ?_
  have hm := Mem.start w0
  refine gS (gR (gA rfl (gE (gS (gR (gA rfl (gE (gS (gS (gR (gM rfl ?_)))))))))))
  obtain ⟨aL, aM, rfl, aW⟩ := ro_slice h1
  refine gY (yV st_26 rfl) (gM rfl (gE (gBk ?_)))
  replace hm := hm.nilow (α := Code_)
  refine gNg (fun aJ aC a w => ∃ (aD : Value), St 22 [(1, fv1), (5, aD), (8, (.slice aL list.length aM)), (9, (nV ((list.length : Int)))), (10, (nV aJ))] w0 (hp w0) [ow [aD] aC] a w) (fun a hf => ⟨.slice none 0 0, hf.sb rfl, hm.pk [0] rfl rfl⟩) ?_ ?_
  ·repeat clear hm
   rintro _ _ aJ aC a w ⟨aD, hf, hm⟩ aX aY aZ _
   refine gv hf (gS (gR (gB rfl (gE (gS (go _ 11 rfl (decide_eq_true (by omega)) (gct rfl (gSk (gS (gBk (gS (gR (gg fun aB aN aI => ?_)))))))))))))
   obtain ⟨aa, ab, ac, he⟩ := idx_form' h1 aI
   obtain ⟨rfl, _, rfl⟩ := sl3 he
   obtain ⟨aF, aO, aK⟩ := rk_Code_ h1 aI
   refine gI st_26 aN (idx_lt aI) rfl (gY (yn (aO.mono hm.lez) isAgg49 sizeOf49 rfl) (gAl hm zeroValue49 rfl fun aG w hm => gSN hm 0 sizeOf49 (one_cons rfl (one_cons rfl (one_cons (rep_one aK) one_nil))) rfl fun w hm => gE (gR (gM rfl (gM rfl (gY (yn (hm.blk_at 0 rfl) isAgg49 sizeOf49 rfl) (gb fun aA aP => gf rfl (fun a hf => e_callv hf rfl rfl rfl (hfn1 _ aB aF (hm.now aK) _ hm.below aP)) ?_)))))))
   rintro ae w ⟨aE, rfl, hB⟩
   replace hm := hm.give hB; clear hB
   refine gf rfl (fun a hf => e_build (vs := #[(0, (.agg #[nV aA.params, nV aA.regs, aE]))]) (cs := [nV aA.params, nV aA.regs, aE]) et_26 hf hm rfl rfl (by kernel_rfl) rfl rfl) ?_
   rintro _ w ⟨aH, rfl, hm⟩
   replace hm := hm.els_nil (α := Code_)
   replace hm : Mem w0 (hp w0) _ [els [] ([] : List Code_), blk aH [nV aA.params, nV aA.regs, aE] 49, ow [nV aA.params, nV aA.regs, aE] (aA : Code_), blk aG [nV aB.params, nV aB.regs, aF] 49, ow [aD] aC] := mk_Code_ aA.params aA.regs hm 2 rfl
   replace hm := (hm.els_cons 0 2 (by decide) rfl rfl).pk (L' := [els [nV aA.params, nV aA.regs, aE] ([aA] : List Code_), blk aH [nV aA.params, nV aA.regs, aE] 49, blk aG [nV aB.params, nV aB.regs, aF] 49, ow [aD] aC]) [0, 1, 3, 4] rfl rfl
   replace hm := (hm.lit_els 1 0 (by decide) rfl rfl rfl rfl).pk (L' := [ow [sV aH 0 1 1] ([aA] : List Code_), blk aG [nV aB.params, nV aB.regs, aF] 49, ow [aD] aC]) [1, 2, 3] rfl rfl
   refine gb fun af aQ => ?_
   obtain ⟨aR, aS⟩ := appM_some.1 aQ
   replace hm := (hm.both 2 0 (by decide) rfl rfl).pk (L' := [blk aG [nV aB.params, nV aB.regs, aF] 49, both (ow [aD] aC) (ow [sV aH 0 1 1] ([aA] : List Code_))]) [1, 2] rfl rfl
   refine gf rfl (fun a hf => e_appendD (xs := aC) (ys := ([aA] : List Code_)) 1 et_26 hf hm rfl rfl rfl rfl aR) ?_
   rintro aT w hm
   rw [aS] at hm
   exact gA rfl (gE (gR (gP (by omega) (by omega) rfl (gM rfl (gE (gZe fun a hf => ⟨aT, hf.sb rfl, hm.pk [1] rfl rfl⟩))))))
  repeat clear hm
  rintro ag ah a w ⟨aV, hf, hm⟩ ai aj
  exact gv hf (gS (gR (gB rfl (gE (gS (go _ 11 rfl (decide_eq_false (by omega)) (gcf rfl (gXt (gHh (gS (gR (gM rfl (gA rfl (gE (gRt (gr1 results48 rfl ⟨aV, rfl, hm.pk [0] rfl rfl⟩))))))))))))))))
theorem impl_perCode_ok (w0 : World) (u : Unit_) (v1 : Value) (h1 : GT.rep (hp w0) [v1] u.codes) (f : Code_ → Option Code_) (fv1 : Value) (hfn1 : ∀ (w : World) (y0 : Code_) (z1 : Value) (_ : GT.rep (hp w) [z1] y0.blocks) (r : Code_), Below w0.heap.size w0 w → f y0 = some r → FnOk Tryz.prog fv1 [(.agg #[nV y0.params, nV y0.regs, z1])] w (fun v w' => ∃ (x1 : Value), v = (.agg #[nV r.params, nV r.regs, x1]) ∧ Mem w (hp w) w' [ow [x1] r.blocks])) :
    ConM Tryz.prog 69 [(.agg #[v1]), fv1] w0 (impl_perCode u f) fun r v w' => ∃ (x1 : Value), v = (.tuple #[(.agg #[x1]), (.bool (r.2))]) ∧ Mem w0 (hp w0) w' [ow [x1] r.1.codes] := by
  unfold impl_perCode
  refine gcon func69 rfl fun r => ?_
  have hm := Mem.start w0
  refine gS (gR (gBx hm rfl fun aG w hm => gAl hm zeroValue28 rfl fun aH w hm => gA rfl (gE (gS (gS (gR (gY (yn (hm.blk_at 1 rfl) isAgg28 sizeOf28 rfl) (gC hm rfl call63 (impl_UnitValid_ok _ u v1 (hm.now h1)) fun aI aJ w hm => gN rfl (gE (gsn 8 rfl (fun aD => ?_) fun aD => ?_))))))))))
  ·refine gct rfl (gS (gR (gY (yG rfl (y_build (vs := []) (cs := #[.slice none 0 0]) rfl rfl (by kernel_rfl))) (gSN hm 0 sizeOf28 (one_cons rfl one_nil) rfl fun w hm => gA rfl (gE (gRt ?_))))))
   replace hm := hm.nilow (α := Code_)
   exact grct 1 results69 hm rfl isAgg28 sizeOf28 ⟨.slice none 0 0, rfl, hm.pk [0] rfl rfl⟩
  refine gcf rfl (gSk (gS (gR (gF fo_28_0 rfl (gL hm 1 isAgg26 rfl (gM rfl (gCg rfl call48 (impl_mapped_impl_Code_impl_Code_ok _ u.codes v1 (hm.now h1) f fv1 (fun w y0 aE aF r hB hq => hfn1 w y0 aE aF r (hm.below.trans (hB.mono hm.below.size)) hq)) ?_)))))))
  rintro aA aK aL w ⟨_, rfl, hB⟩
  replace hm := hm.give hB; clear hB
  obtain ⟨aB, aC, rfl, aM⟩ := ro_slice (hm.ow_rep 0 rfl)
  exact gY (yG rfl (y_build (vs := [(0, (.slice aB aA.length aC))]) (cs := #[.slice aB aA.length aC]) rfl rfl (by kernel_rfl))) (gSN hm 1 sizeOf28 (one_cons rfl one_nil) rfl fun w hm => gA rfl (gE (gRt (grct 1 results69 hm rfl isAgg28 sizeOf28 ⟨.slice aB aA.length aC, rfl, hm.pk [0] rfl rfl⟩))))
theorem impl_graphOk_1_1_ok (w0 : World) (n_ : Int) (c0_ : Code_) (v1 : Value) (h1 : GT.rep (hp w0) [v1] c0_.blocks) (bf0 : Nat) (hbf0 : w0.heap[bf0]? = some (.cells ([nV c0_.params, nV c0_.regs, v1] : List Value).toArray 49 (0, 0))) :
    ConM Tryz.prog 289 [nV n_, (pV bf0)] w0 (impl_graphOk_1_1 n_ c0_) fun r v w' => v = (.bool (r)) ∧ Below w0.heap.size w0 w' := by
  unfold impl_graphOk_1_1
  refine gcon func289 rfl fun r => ?_
  have hm := Mem.start w0
  refine gS (gR (gA rfl (gE (gS (gR (gM rfl (gF fo_49_2 rfl (gY (yl isAgg47 (hm.old_cell hbf0 rfl) rfl) ?_))))))))
  obtain ⟨aA, aB, rfl, aC⟩ := ro_slice h1
  exact gY (yV st_47 rfl) (gY (yS (by omega) (by omega) rfl) (gC hm rfl call47 (impl_within_ok _ n_ 0 (((c0_.blocks.length : Int)) - 1)) fun aD aE w hm => gN rfl (gA rfl (gE (gRt (gr1 results289 rfl ⟨rfl, hm.below⟩))))))
theorem impl_graphOk_1_ok (w0 : World) (b_ : Block_) (v1 : Value) (h1 : GT.rep (hp w0) [v1] b_.phis) (v2 : Value) (h2 : GT.rep (hp w0) [v2] b_.ins) (v3 : Value) (h3 : GT.rep (hp w0) [v3] b_.next_) (c0_ : Code_) (v4 : Value) (h4 : GT.rep (hp w0) [v4] c0_.blocks) (bf0 : Nat) (hbf0 : w0.heap[bf0]? = some (.cells ([nV c0_.params, nV c0_.regs, v4] : List Value).toArray 49 (0, 0))) :
    ConM Tryz.prog 288 [(.agg #[v1, v2, nV b_.jump, nV b_.on, v3]), (pV bf0)] w0 (impl_graphOk_1 b_ c0_) fun r v w' => v = (.bool (r)) ∧ Below w0.heap.size w0 w' := by
  unfold impl_graphOk_1
  refine gcon func288 rfl fun r => ?_
  have hm := Mem.start w0
  exact gS (gR (gBx hm rfl fun aA w hm => gA rfl (gE (gS (gR (gF fo_63_4 rfl (gL hm 0 isAgg43 rfl (gY (yU rfl) (gC hm rfl call181 (slices_ContainsFunc_S_int_int_ok _ b_.next_ v3 (hm.now h3) (fun y0 => impl_graphOk_1_1 y0 c0_) (.func (.func 289) #[] #[(pV bf0)]) (fun w y0 r hB hq => ⟨289, [(pV bf0)], rfl, call289, impl_graphOk_1_1_ok w y0 c0_ v4 (rep_later (hm.now h4) hB) bf0 (hm.old_later hbf0 hB) r hq⟩)) fun aB aC w hm => gA rfl (gE (gRt (gr1 results288 rfl ⟨rfl, hm.below⟩))))))))))))
theorem slices_IndexFunc_S_impl_Block_impl_Block_ok (w0 : World) (s_ : List Block_) (v1 : Value) (h1 : GT.rep (hp w0) [v1] s_) (f : Block_ → Option Bool) (fv1 : Value) (hfn1 : ∀ (w : World) (y0 : Block_) (z1 : Value) (_ : GT.rep (hp w) [z1] y0.phis) (z2 : Value) (_ : GT.rep (hp w) [z2] y0.ins) (z3 : Value) (_ : GT.rep (hp w) [z3] y0.next_) (r : Bool), Below w0.heap.size w0 w → f y0 = some r → FnOk Tryz.prog fv1 [(.agg #[z1, z2, nV y0.jump, nV y0.on, z3])] w (fun v w' => v = (.bool (r)) ∧ Below w.heap.size w w')) :
    ConM Tryz.prog 333 [v1, fv1] w0 (slices_IndexFunc_S_impl_Block_impl_Block s_ f) fun r v w' => v = (nV r) ∧ Below w0.heap.size w0 w' := by
  unfold slices_IndexFunc_S_impl_Block_impl_Block
  refine gcon func333 rfl fun r => ?_
  have hm := Mem.start w0
  refine gS (gR (gA rfl (gE (gS (gS (gR (gM rfl ?_)))))))
  obtain ⟨aD, aE, rfl, aS⟩ := ro_slice h1
  refine gY (yV st_47 rfl) (gM rfl (gE (gBk (gNf hm (fun aA aC => [(0, (.slice aD s_.length aE)), (1, fv1), (7, (nV ((s_.length : Int)))), (8, (nV aA))]) (fun aA aC => []) [] rfl ?_ ?_))))
  ·repeat clear hm
   intro aT aF aA aC w hm aV aW aX aG
   refine gS (gR (gB rfl (gE (gS (go _ 9 rfl (decide_eq_true (by omega)) (gct rfl (gSk (gS (gBk (gS (gR (gM rfl (gA rfl (gE (gS (gR (gM rfl (gM rfl (gM rfl (gg fun aH aI aB => ?_))))))))))))))))))))
   obtain ⟨aY, aZ, aa, he⟩ := idx_form' h1 aB
   obtain ⟨rfl, _, rfl⟩ := sl3 he
   obtain ⟨aJ, aK, aL, aM, aN, aO, aP⟩ := rk_Block_ h1 aB
   refine gI st_47 aI (idx_lt aB) rfl (gY (yn (aM.mono hm.lez) isAgg63 sizeOf63 rfl) (gb fun ab aQ => gf rfl (fun a hf => e_callv hf rfl rfl rfl (hfn1 _ aH aJ (hm.now aN) aK (hm.now aO) aL (hm.now aP) _ hm.below aQ)) ?_))
   rintro ac w ⟨rfl, hB⟩
   replace hm := hm.below' hB; clear hB
   refine gE (gs 16 rfl (fun aR => ?_) fun aR => ?_)
   ·exact gct rfl (gS (gR (gM rfl (gA rfl (gE (gRt (gLr aG aF (gr1 results333 rfl ⟨rfl, hm.below⟩))))))))
   exact gcf rfl (gSk (gR (gP (by omega) (by omega) rfl (gM rfl (gE (gze hm [] rfl))))))
  repeat clear hm
  intro ae af w hm ag ah
  exact gS (gR (gB rfl (gE (gS (go _ 9 rfl (decide_eq_false (by omega)) (gcf rfl (gXt (gHh (gS (gR (gA rfl (gE (gRt (gr1 results333 rfl ⟨rfl, hm.below⟩))))))))))))))
theorem slices_ContainsFunc_S_impl_Block_impl_Block_ok (w0 : World) (s_ : List Block_) (v1 : Value) (h1 : GT.rep (hp w0) [v1] s_) (f : Block_ → Option Bool) (fv1 : Value) (hfn1 : ∀ (w : World) (y0 : Block_) (z1 : Value) (_ : GT.rep (hp w) [z1] y0.phis) (z2 : Value) (_ : GT.rep (hp w) [z2] y0.ins) (z3 : Value) (_ : GT.rep (hp w) [z3] y0.next_) (r : Bool), Below w0.heap.size w0 w → f y0 = some r → FnOk Tryz.prog fv1 [(.agg #[z1, z2, nV y0.jump, nV y0.on, z3])] w (fun v w' => v = (.bool (r)) ∧ Below w.heap.size w w')) :
    ConM Tryz.prog 287 [v1, fv1] w0 (slices_ContainsFunc_S_impl_Block_impl_Block s_ f) fun r v w' => v = (.bool (r)) ∧ Below w0.heap.size w0 w' := by
  unfold slices_ContainsFunc_S_impl_Block_impl_Block
  refine gcon func287 rfl fun r => ?_
  have hm := Mem.start w0
  exact gS (gR (gA rfl (gE (gS (gR (gM rfl (gM rfl (gC hm rfl call333 (slices_IndexFunc_S_impl_Block_impl_Block_ok _ s_ v1 (hm.now h1) f fv1 (fun w y0 aA aB aC aD aE aF r hB hq => hfn1 w y0 aA aB aC aD aE aF r (hm.below.trans (hB.mono hm.below.size)) hq)) fun aG aH w hm => gB rfl (gA rfl (gE (gRt (gr1 results287 rfl ⟨rfl, hm.below⟩))))))))))))
theorem impl_graphOk_ok (w0 : World) (c_ : Code_) (v1 : Value) (h1 : GT.rep (hp w0) [v1] c_.blocks) :
    ConM Tryz.prog 222 [(.agg #[nV c_.params, nV c_.regs, v1])] w0 (impl_graphOk c_) fun r v w' => v = (.bool (r)) ∧ Below w0.heap.size w0 w' := by
  unfold impl_graphOk
  refine gcon func222 rfl fun r => ?_
  have hm := Mem.start w0
  refine gS (gR (gBx hm rfl fun aB w hm => gA rfl (gE (gS (gJ hm (fun aA => [(2, (.bool (aA)))]) (fun aA => []) (fun aA => ?_) ?_)))))
  ·refine gR (gF fo_49_2 rfl (gL hm 0 isAgg47 rfl ?_))
   obtain ⟨aC, aD, rfl, aL⟩ := ro_slice h1
   refine gY (yV st_47 rfl) (gB rfl (gM rfl (gsd 7 rfl (fun aE => ?_) fun aE => ?_)))
   ·exact gF fo_49_2 rfl (gL hm 0 isAgg47 rfl (gY (yU rfl) (gC hm rfl call287 (slices_ContainsFunc_S_impl_Block_impl_Block_ok _ c_.blocks (.slice aC c_.blocks.length aD) (hm.now h1) (fun y0 => impl_graphOk_1 y0 c_) (.func (.func 288) #[] #[(pV aB)]) (fun w y0 aF aG aH aI aJ aK r hB hq => ⟨288, [(pV aB)], rfl, call288, impl_graphOk_1_ok w y0 aF aG aH aI aJ aK c_ (.slice aC c_.blocks.length aD) (rep_later (hm.now h1) hB) aB (hm.blk_later 0 rfl hB) r hq⟩)) fun aM aN w hm => gN rfl (gKt rfl (gA rfl (gE (gz hm [] rfl)))))))
   exact gO rfl (gO rfl (gO rfl (gO rfl (gO rfl (gKf rfl (gA rfl (gE (gz hm [] rfl))))))))
  repeat clear hm
  intro aA w hm
  exact gRt (gr1 results222 rfl ⟨rfl, hm.below⟩)
theorem impl_visits_1_all (c1_ : Code_) : ∀ (b_ : Int) (c0_ : List Bool) (c3_ : List Int) (r : (List Bool) × (List Int)), impl_visits_1 b_ c0_ c1_ c3_ = some r → ∀ (w0 : World) (hz : Heap) (bpc0 : Nat) (v1p : Value) (bpc1 : Nat) (v2p : Value) (h2p : GT.rep hz [v2p] c1_.blocks) (hbbpc1 : hz bpc1 = some (.cells ([nV c1_.params, nV c1_.regs, v2p] : List Value).toArray 49 (0, 0))) (bpc2 : Nat) (bpc3 : Nat) (v3p : Value) (hbbpc2 : hz bpc2 = some (.cells ([(.func (.func 329) #[] #[(pV bpc0), (pV bpc1), (pV bpc2), (pV bpc3)])] : List Value).toArray 237 (0, 0))) (hm0 : Mem w0 hz w0 [blk bpc0 [v1p] 90, ow [v1p] c0_, blk bpc3 [v3p] 43, ow [v3p] c3_]), Con Tryz.prog 329 [nV b_, (pV bpc0), (pV bpc1), (pV bpc2), (pV bpc3)] w0 (fun v w' => ∃ (x1 : Value) (x2 : Value), v = (.tuple #[]) ∧ Mem w0 hz w' [blk bpc0 [x1] 90, blk bpc3 [x2] 43, ow [x1] r.1, ow [x2] r.2]) := by
  refine impl_visits_1.partial_correctness c1_ (motive := fun b_ c0_ c3_ r => ∀ (w0 : World) (hz : Heap) (bpc0 : Nat) (v1p : Value) (bpc1 : Nat) (v2p : Value) (h2p : GT.rep hz [v2p] c1_.blocks) (hbbpc1 : hz bpc1 = some (.cells ([nV c1_.params, nV c1_.regs, v2p] : List Value).toArray 49 (0, 0))) (bpc2 : Nat) (bpc3 : Nat) (v3p : Value) (hbbpc2 : hz bpc2 = some (.cells ([(.func (.func 329) #[] #[(pV bpc0), (pV bpc1), (pV bpc2), (pV bpc3)])] : List Value).toArray 237 (0, 0))) (hm0 : Mem w0 hz w0 [blk bpc0 [v1p] 90, ow [v1p] c0_, blk bpc3 [v3p] 43, ow [v3p] c3_]), Con Tryz.prog 329 [nV b_, (pV bpc0), (pV bpc1), (pV bpc2), (pV bpc3)] w0 (fun v w' => ∃ (x1 : Value) (x2 : Value), v = (.tuple #[]) ∧ Mem w0 hz w' [blk bpc0 [x1] 90, blk bpc3 [x2] 43, ow [x1] r.1, ow [x2] r.2])) ?_
  intro rec_ ih_ b_ c0_ c3_ r hq w0 hz bpc0 v1p bpc1 v2p h2p hbbpc1 bpc2 bpc3 v3p hbbpc2 hm0
  have impl_visits_1_rec : ∀ (w0 : World) (hz : Heap) (b_ : Int) (c0_ : List Bool) (bpc0 : Nat) (v1p : Value) (_ : Code_) (bpc1 : Nat) (v2p : Value) (h2p : GT.rep hz [v2p] c1_.blocks) (hbbpc1 : hz bpc1 = some (.cells ([nV c1_.params, nV c1_.regs, v2p] : List Value).toArray 49 (0, 0))) (bpc2 : Nat) (c3_ : List Int) (bpc3 : Nat) (v3p : Value) (hbbpc2 : hz bpc2 = some (.cells ([(.func (.func 329) #[] #[(pV bpc0), (pV bpc1), (pV bpc2), (pV bpc3)])] : List Value).toArray 237 (0, 0))) (hm0 : Mem w0 hz w0 [blk bpc0 [v1p] 90, ow [v1p] c0_, blk bpc3 [v3p] 43, ow [v3p] c3_]) (r : (List Bool) × (List Int)) (hq : rec_ b_ c0_ c3_ = some r), Con Tryz.prog 329 [nV b_, (pV bpc0), (pV bpc1), (pV bpc2), (pV bpc3)] w0 (fun v w' => ∃ (x1 : Value) (x2 : Value), v = (.tuple #[]) ∧ Mem w0 hz w' [blk bpc0 [x1] 90, blk bpc3 [x2] 43, ow [x1] r.1, ow [x2] r.2]) := fun w0 hz b_ c0_ bpc0 v1p _ bpc1 v2p h2p hbbpc1 bpc2 c3_ bpc3 v3p hbbpc2 hm0 r hq => ih_ b_ c0_ c3_ r hq w0 hz bpc0 v1p bpc1 v2p h2p hbbpc1 bpc2 bpc3 v3p hbbpc2 hm0
  refine gconr (ρ := (List Bool) × (List Int)) (R := fun r v w' => ∃ (x1 : Value) (x2 : Value), v = (.tuple #[]) ∧ Mem w0 hz w' [blk bpc0 [x1] 90, blk bpc3 [x2] 43, ow [x1] r.1, ow [x2] r.2]) func329 rfl hq ?_
  have hm := hm0
  refine gS (gR (gL hm 0 isAgg90 rfl (gM rfl (gg fun bC aX aD => ?_))))
  obtain ⟨aY, aZ, aa, he⟩ := idx_form (hm.ow_rep 1 rfl) aD
  subst he
  refine gI st_90 aX (idx_lt aD) rfl (gf0 rfl (fun a hf => e_setElem (x1 := true) (j := 0) (vs := [(.bool (true))]) 1 hf hm rfl aD rfl sizeOf4 rfl rfl rfl (one_cons rfl one_nil) rfl rfl) ?_)
  rintro _ w hm
  have bD := List.getElem?_set_self (a := true) (idx_lt aD)
  refine gE (gS (gS (gR (gF fo_49_2 rfl (gY (yl isAgg47 (hm.hz_cell hbbpc1 rfl) rfl) (gM rfl (gg fun aC ab aO => ?_)))))))
  obtain ⟨ac, ae, af, he⟩ := idx_form' h2p aO
  subst he
  obtain ⟨bE, bF, bG, ag, bH, bJ, aP⟩ := rk_Block_ h2p aO
  refine gI st_47 ab (idx_lt aO) rfl (gF fo_63_4 rfl (gY (yl isAgg43 ((ag.mono hm.lez).cell (j := 4) rfl) rfl) ?_))
  obtain ⟨aV, aQ, rfl, bK⟩ := ro_slice aP
  refine gY (yV st_43 rfl) (gM rfl (gE ?_))
  obtain ⟨ah, ai, rfl, bL⟩ := ro_slice (hm.ow_rep 3 rfl)
  refine gBk (gNg (fun aE aA a w => ∃ (aR aB : Value), St 35 [(0, (nV b_)), (1, (pV bpc0)), (3, (pV bpc2)), (4, (pV bpc3)), (16, (.slice aV aC.next_.length aQ)), (17, (nV ((aC.next_.length : Int)))), (18, (nV aE))] w0 hz [blk bpc0 [aR] 90, ow [aR] aA.1, blk bpc3 [aB] 43, ow [aB] aA.2] a w) (fun a hf => ⟨sV aY aZ c0_.length aa, .slice ah c3_.length ai, hf.sb rfl, hm.pk [0, 1, 2, 3] rfl rfl⟩) ?_ ?_)
  ·repeat clear hm
   rintro _ _ aE aA a w ⟨aR, aB, hf, hm⟩ bM bN bO _
   refine gv hf (gS (gR (gB rfl (gE (gS (go _ 19 rfl (decide_eq_true (by omega)) (gct rfl (gSk (gS (gJg (fun aF a w => ∃ (aG aH : Value), St 35 [(0, (nV b_)), (1, (pV bpc0)), (3, (pV bpc2)), (4, (pV bpc3)), (16, (.slice aV aC.next_.length aQ)), (17, (nV ((aC.next_.length : Int)))), (18, (nV aE))] w0 hz [blk bpc0 [aG] 90, ow [aG] aF.1, blk bpc3 [aH] 43, ow [aH] aF.2] a w) (fun aF => ?_) ?_))))))))))
   ·refine gBk (gS (gR (gg fun aW aj aS => ?_)))
    obtain ⟨ak, am, bP, he⟩ := idx_form aP aS
    obtain ⟨rfl, _, rfl⟩ := sl3 he
    refine gI st_43 aj (idx_lt aS) rfl (gY (yl isAgg3 ((flat_cells (cs := [nV aW]) (hm.now aP) aS rfl).cell (j := 0) rfl) rfl) (gA rfl (gE (gS (gR (gL hm 0 isAgg90 rfl (gM rfl (gg fun an ao aT => ?_))))))))
    obtain ⟨aI, aJ, aK, he⟩ := idx_form (hm.ow_rep 1 rfl) aT
    subst he
    refine gI st_90 ao (idx_lt aT) rfl (gY (yl isAgg4 ((flat_cells (cs := [(.bool (an))]) (hm.ow_rep 1 rfl) aT rfl).cell (j := 0) rfl) rfl) (gN rfl (gE (gJg (fun aL a w => ∃ (aM aN : Value), St 35 [(0, (nV b_)), (1, (pV bpc0)), (3, (pV bpc2)), (4, (pV bpc3)), (16, (sV ak am aC.next_.length aQ)), (17, (nV ((aC.next_.length : Int)))), (18, (nV aE))] w0 hz [blk bpc0 [aM] 90, ow [aM] aL.1, blk bpc3 [aN] 43, ow [aN] aL.2] a w) (fun aL => ?_) ?_))))
    ·refine gsn 26 rfl (fun ap => ?_) fun ap => ?_
     ·refine gct rfl (gR (gY (yl isAgg237 (hm.hz_cell hbbpc2 rfl) rfl) (gM rfl ?_)))
      obtain ⟨aq, hle, hm1, hsub, ar⟩ := hm.take2 (L1 := [blk bpc0 [sV aI aJ aA.1.length aK] 90, ow [sV aI aJ aA.1.length aK] aA.1, blk bpc3 [aB] 43, ow [aB] aA.2]) (L2 := []) [0, 1, 2, 3] [] (by decide) rfl rfl
      refine gb fun bQ au => gf rfl (fun a hf => e_callv hf rfl rfl rfl ⟨329, [(pV bpc0), (pV bpc1), (pV bpc2), (pV bpc3)], rfl, call329, impl_visits_1_rec _ aq aW aA.1 bpc0 (sV aI aJ aA.1.length aK) c1_ bpc1 (sV ac ae c1_.blocks.length af) (GT.mono hle h2p) (hle _ _ ((Heap.le_refl _) _ _ hbbpc1)) bpc2 aA.2 bpc3 aB (hle _ _ ((Heap.le_refl _) _ _ hbbpc2)) hm1  _ au⟩) ?_
      rintro bR w ⟨av, aw, rfl, hB⟩
      replace hm := ar _ _ hB; clear hB
      exact gE (gZ fun a hf => ⟨av, aw, hf.sb rfl, hm.pk [0, 2, 1, 3] rfl rfl⟩)
     exact gcf rfl (gSk (gZ fun a hf => ⟨sV aI aJ aA.1.length aK, aB, hf.sb rfl, hm.pk [0, 1, 2, 3] rfl rfl⟩))
    repeat clear hm
    rintro aL a w ⟨aM, aN, hf, hm⟩
    exact gv hf (gZ fun a hf => ⟨aM, aN, hf.sb rfl, hm.pk [0, 1, 2, 3] rfl rfl⟩)
   repeat clear hm
   rintro aF a w ⟨aG, aH, hf, hm⟩
   exact gv hf (gR (gP (by omega) (by omega) rfl (gM rfl (gE (gZe fun a hf => ⟨aG, aH, hf.sb rfl, hm.pk [0, 1, 2, 3] rfl rfl⟩)))))
  repeat clear hm
  rintro bS bT a w ⟨ax, bU, hf, hm⟩ bV bW
  refine gv hf (gS (gR (gB rfl (gE (gS (go _ 19 rfl (decide_eq_false (by omega)) (gcf rfl (gXt (gHh (gR (gL hm 2 isAgg43 rfl (gM rfl (gf rfl (fun a hf => e_build (vs := #[(0, (nV b_))]) (cs := [nV b_]) et_43 hf hm rfl rfl (by kernel_rfl) rfl rfl) ?_)))))))))))))
  rintro _ w ⟨bX, rfl, hm⟩
  replace hm := hm.lit (xs := ([b_] : List Int)) 0 rfl rfl rfl rfl
  refine gb fun bY ay => ?_
  obtain ⟨az, bA⟩ := appM_some.1 ay
  refine gf rfl (fun a hf => e_append 4 et_43 hf hm rfl (hm.ow_rep 0 rfl) rfl rfl rfl az) ?_
  rintro bB w hm
  rw [bA] at hm
  exact gS1 hm 3 sizeOf43 (rep_one (hm.ow_rep 4 rfl)) rfl fun w hm => gE (gre results329 ⟨ax, bB, rfl, hm.pk [1, 3, 2, 4] rfl rfl⟩)
theorem impl_visits_1_ok (w0 : World) (hz : Heap) (b_ : Int) (c0_ : List Bool) (bpc0 : Nat) (v1p : Value) (c1_ : Code_) (bpc1 : Nat) (v2p : Value) (h2p : GT.rep hz [v2p] c1_.blocks) (hbbpc1 : hz bpc1 = some (.cells ([nV c1_.params, nV c1_.regs, v2p] : List Value).toArray 49 (0, 0))) (bpc2 : Nat) (c3_ : List Int) (bpc3 : Nat) (v3p : Value) (hbbpc2 : hz bpc2 = some (.cells ([(.func (.func 329) #[] #[(pV bpc0), (pV bpc1), (pV bpc2), (pV bpc3)])] : List Value).toArray 237 (0, 0))) (hm0 : Mem w0 hz w0 [blk bpc0 [v1p] 90, ow [v1p] c0_, blk bpc3 [v3p] 43, ow [v3p] c3_]) (r : (List Bool) × (List Int)) (hq : impl_visits_1 b_ c0_ c1_ c3_ = some r) : Con Tryz.prog 329 [nV b_, (pV bpc0), (pV bpc1), (pV bpc2), (pV bpc3)] w0 (fun v w' => ∃ (x1 : Value) (x2 : Value), v = (.tuple #[]) ∧ Mem w0 hz w' [blk bpc0 [x1] 90, blk bpc3 [x2] 43, ow [x1] r.1, ow [x2] r.2]) := impl_visits_1_all c1_ b_ c0_ c3_ r hq w0 hz bpc0 v1p bpc1 v2p h2p hbbpc1 bpc2 bpc3 v3p hbbpc2 hm0
theorem impl_visits_ok (w0 : World) (c_ : Code_) (v1 : Value) (h1 : GT.rep (hp w0) [v1] c_.blocks) :
    ConM Tryz.prog 273 [(.agg #[nV c_.params, nV c_.regs, v1])] w0 (impl_visits c_) fun r v w' => ∃ (x1 : Value), v = x1 ∧ Mem w0 (hp w0) w' [ow [x1] r] := by
  unfold impl_visits
  refine gcon func273 rfl fun r => ?_
  have hm := Mem.start w0
  refine gS (gR (gBx hm rfl fun aA w hm => gA rfl (gE (gS (gR (gAl hm zeroValue43 rfl fun aB w hm => gE (gS (gR (gF fo_49_2 rfl (gL hm 1 isAgg47 rfl ?_))))))))))
  obtain ⟨aG, aH, rfl, aQ⟩ := ro_slice h1
  refine gY (yV st_47 rfl) (gb fun aE aJ => ?_)
  obtain ⟨⟨aK, aL⟩, aI⟩ := makeM_some.1 aJ
  refine gf rfl (fun a hf => e_make (x0 := (false : Bool)) et_90 (fun _ => (Flat.own_iff.2 rfl)) hf hm rfl rfl rfl aK (Int.le_refl _) aL) ?_
  rintro aF w hm
  rw [aI] at hm
  have h0_1l : (aE.length : Int) = (c_.blocks.length : Int) := by rw [← aI]; simp only [List.length_replicate]; omega
  refine gAl hm zeroValue90 rfl fun aC w hm => gS1 hm 0 sizeOf90 (rep_one (hm.ow_rep 1 rfl)) rfl fun w hm => gE (gS (gR (gAl hm zeroValue237 rfl fun aD w hm => gE (gS (gR (gY (yU rfl) (gS1 hm 0 sizeOf237 rfl rfl fun w hm => gE (gS (gR (gL hm 0 isAgg237 rfl ?_))))))))))
  replace hm := hm.nilow (α := Int)
  obtain ⟨aM, hle, hm1, hsub, aN⟩ := hm.take2 (L1 := [blk aC [aF] 90, ow [aF] aE, blk aB [.slice none 0 0] 43, ow [.slice none 0 0] ([] : List Int)]) (L2 := [blk aD [(.func (.func 329) #[] #[(pV aC), (pV aA), (pV aD), (pV aB)])] 237, blk aA [nV c_.params, nV c_.regs, .slice aG c_.blocks.length aH] 49]) [2, 3, 4, 0] [1, 5] (by decide) rfl rfl
  refine gb fun aR aO => gf rfl (fun a hf => e_callv hf rfl rfl rfl ⟨329, [(pV aC), (pV aA), (pV aD), (pV aB)], rfl, call329, impl_visits_1_ok _ aM 0 aE aC aF c_ aA (.slice aG c_.blocks.length aH) (GT.mono hle h1) (fz_blk (hsub 1 _ rfl)) aD ([] : List Int) aB (.slice none 0 0) (fz_blk (hsub 0 _ rfl)) hm1  _ aO⟩) ?_
  rintro aS w ⟨aT, aP, rfl, hB⟩
  replace hm := aN _ _ hB; clear hB
  exact gE (gS (gR (gL hm 1 isAgg43 rfl (gA rfl (gE (gRt (gr1 results273 rfl ⟨aP, rfl, hm.pk [3] rfl rfl⟩)))))))
theorem slices_Clone_S_int_int_ok (w0 : World) (s_ : List Int) (v1 : Value) (h1 : GT.rep (hp w0) [v1] s_) :
    ConM Tryz.prog 177 [v1] w0 (slices_Clone_S_int_int s_) fun r v w' => ∃ (x1 : Value), v = x1 ∧ Mem w0 (hp w0) w' [ow [x1] r] := by
  unfold slices_Clone_S_int_int
  refine gcon func177 rfl fun r => ?_
  have hm := Mem.start w0
  refine gS (gR (gA rfl (gE (gS (gS (gR (gM rfl ?_)))))))
  rcases nil_or h1 with ⟨he, aA⟩ | ⟨aF, aG, he⟩
  ·subst he; subst aA
   refine gcg (m' := some ([] : List Int)) (by simp [appM]) (gY (yG rfl (y_eqnil_t st_43.und rfl rfl rfl)) (gE (gct rfl (gS (gR (gA rfl (gE (gRt ?_))))))))
   replace hm := hm.nilow (α := Int)
   exact gr1 results177 rfl ⟨.slice none 0 0, rfl, hm.pk [0] rfl rfl⟩
  subst he
  refine gY (yG rfl (y_eqnil_f st_43.und rfl rfl rfl)) (gE (gcf rfl (gSk (gS (gR (gf rfl (fun a hf => e_build0 (α := Int) et_43 hm rfl) ?_))))))
  rintro aH w hm
  refine gM rfl (gb fun aI aB => ?_)
  obtain ⟨aC, aD⟩ := appM_some.1 aB
  refine gf rfl (fun a hf => e_append 0 et_43 hf hm rfl (hm.now h1) rfl rfl rfl aC) ?_
  rintro aE w hm
  rw [aD] at hm
  exact gA rfl (gE (gRt (gr1 results177 rfl ⟨aE, rfl, hm.pk [0] rfl rfl⟩)))
theorem impl_once_ok (w0 : World) (list : List Int) (v1 : Value) (h1 : GT.rep (hp w0) [v1] list) :
    ConM Tryz.prog 112 [v1] w0 (impl_once list) fun r v w' => ∃ (x1 : Value), v = x1 ∧ Mem w0 (hp w0) w' [ow [x1] r] := by
  unfold impl_once
  refine gcon func112 rfl fun r => ?_
  have hm := Mem.start w0
  refine gS (gR (gA rfl (gE (gS (gR (gM rfl (gCg rfl call177 (slices_Clone_S_int_int_ok _ list v1 (hm.now h1)) ?_)))))))
  rintro aB aC aD w ⟨_, rfl, hB⟩
  replace hm := hm.give hB; clear hB
  refine gA rfl (gE (gS (gR (gM rfl (gf rfl (fun a hf => e_call hf rfl call167 rfl (sort_con lays189 hm 0 rfl)) ?_)))))
  rintro _ w ⟨rfl, hm⟩
  refine gE (gS (gR (gM rfl (gf rfl (fun a hf => e_call hf rfl call178 rfl (compact_con lays2_20 hm 0 rfl)) ?_))))
  rintro aA w hm
  exact gA rfl (gE (gRt (gr1 results112 rfl ⟨aA, rfl, hm.pk [0] rfl rfl⟩)))
theorem impl_ReachedIn_ok (w0 : World) (c_ : Code_) (v1 : Value) (h1 : GT.rep (hp w0) [v1] c_.blocks) :
    ConM Tryz.prog 200 [(.agg #[nV c_.params, nV c_.regs, v1])] w0 (impl_ReachedIn c_) fun r v w' => ∃ (x1 : Value), v = x1 ∧ Mem w0 (hp w0) w' [ow [x1] r] := by
  unfold impl_ReachedIn
  refine gcon func200 rfl fun r => ?_
  have hm := Mem.start w0
  refine gS (gR (gBx hm rfl fun aE w hm => gA rfl (gE (gS (gS (gR (gY (yn (hm.blk_at 0 rfl) isAgg49 sizeOf49 rfl) (gC hm rfl call222 (impl_graphOk_ok _ c_ v1 (hm.now h1)) fun aF aG w hm => gN rfl (gE (gsn 5 rfl (fun aA => ?_) fun aA => ?_))))))))))
  ·refine gct rfl (gS (gR (gA rfl (gE (gRt ?_)))))
   replace hm := hm.nilow (α := Int)
   exact gr1 results200 rfl ⟨.slice none 0 0, rfl, hm.pk [0] rfl rfl⟩
  refine gcf rfl (gSk (gS (gR (gY (yn (hm.blk_at 0 rfl) isAgg49 sizeOf49 rfl) (gCg rfl call273 (impl_visits_ok _ c_ v1 (hm.now h1)) ?_)))))
  rintro aB aH aC w ⟨_, rfl, hB⟩
  replace hm := hm.give hB; clear hB
  refine gCg rfl call112 (impl_once_ok _ aB aC (hm.ow_rep 0 rfl)) ?_
  rintro aI aJ aD w ⟨_, rfl, hB⟩
  replace hm := hm.give hB; clear hB
  exact gA rfl (gE (gRt (gr1 results200 rfl ⟨aD, rfl, hm.pk [0] rfl rfl⟩)))
theorem impl_phisOf_ok (w0 : World) (c_ : Code_) (v1 : Value) (h1 : GT.rep (hp w0) [v1] c_.blocks) :
    ConM Tryz.prog 108 [(.agg #[nV c_.params, nV c_.regs, v1])] w0 (impl_phisOf c_) fun r v w' => ∃ (x1 : Value), v = x1 ∧ Mem w0 (hp w0) w' [ow [x1] r] := by
  unfold impl_phisOf
  refine gcon func108 rfl fun r => ?_
  have hm := Mem.start w0
  refine gS (gR (gBx hm rfl fun aF w hm => gA rfl (gE (gS (gR (gF fo_49_2 rfl (gL hm 0 isAgg47 rfl ?_)))))))
  obtain ⟨aq, aD, rfl, bW⟩ := ro_slice h1
  refine gY (yV st_47 rfl) (gb fun aC bB => ?_)
  obtain ⟨⟨bC, bD⟩, ar⟩ := makeM_some.1 bB
  refine gf rfl (fun a hf => e_make (x0 := ([] : List (MapS Int))) et_116 (fun _ => (own_list.2 (.inl ⟨rfl, rfl⟩))) hf hm rfl rfl rfl bC (Int.le_refl _) bD) ?_
  rintro bX w hm
  rw [ar] at hm
  have h0_1l : (aC.length : Int) = (c_.blocks.length : Int) := by rw [← ar]; simp only [List.length_replicate]; omega
  refine gA rfl (gE (gS (gS (gR (gF fo_49_2 rfl (gL hm 1 isAgg47 rfl (gY (yV st_47 rfl) (gM rfl (gE ?_)))))))))
  obtain ⟨aT, aE, rfl, bY⟩ := ro_slice (hm.ow_rep 0 rfl)
  refine gBk (gNf hm (fun aB af => [(1, (pV aF)), (3, (.slice aT aC.length aE)), (17, (.slice aq c_.blocks.length aD)), (18, (nV ((c_.blocks.length : Int)))), (19, (nV aB))]) (fun aB af => [blk aF [nV c_.params, nV c_.regs, .slice aq c_.blocks.length aD] 49, ow [.slice aT aC.length aE] af]) [1, 0] rfl ?_ ?_)
  ·repeat clear hm
   intro _ _ aB af w hm bZ b8 b9 _
   refine gS (gR (gB rfl (gE (gS (go _ 20 rfl (decide_eq_true (by omega)) (gct rfl (gSk (gS (gBk (gS (gR (gM rfl (gg fun aZ bE ag => ?_)))))))))))))
   obtain ⟨aG, aH, ba, he⟩ := idx_form' h1 ag
   obtain ⟨rfl, _, rfl⟩ := sl3 he
   obtain ⟨bb, bc, bd, bF, aa, bG, bH⟩ := rk_Block_ h1 ag
   refine gI st_47 bE (idx_lt ag) rfl (gY (yn (bF.mono hm.lez) isAgg63 sizeOf63 rfl) (gAl hm zeroValue63 rfl fun be w hm => gA rfl (gSN hm 0 sizeOf63 (one_cons (rep_one aa) (one_cons (rep_one bG) (one_cons rfl (one_cons rfl (one_cons (rep_one bH) one_nil))))) rfl fun w hm => gE (gS (gR (gY (yn (hm.blk_at 1 rfl) isAgg49 sizeOf49 rfl) (gM rfl (gCg rfl call113 (impl_PredsOf_ok _ c_ (sV aG aH c_.blocks.length aD) (hm.now h1) aB) ?_))))))))
   rintro aA bf bg w ⟨_, rfl, hB⟩
   replace hm := hm.give hB; clear hB
   refine gA rfl (gE (gS (gR (gF fo_63_0 rfl (gL hm 1 isAgg60 rfl ?_)))))
   obtain ⟨bJ, au, rfl, bh⟩ := ro_slice aa
   refine gY (yV st_60 rfl) (gM rfl (gE ?_))
   obtain ⟨aI, aJ, rfl, bi⟩ := ro_slice (hm.ow_rep 0 rfl)
   refine gBk (gNf hm (fun ab aK => [(1, (pV aF)), (3, (.slice aT aC.length aE)), (4, (nV aB)), (6, (.slice aI aA.length aJ)), (17, (sV aG aH c_.blocks.length aD)), (18, (nV ((c_.blocks.length : Int)))), (19, (nV aB)), (28, (.slice bJ aZ.phis.length au)), (29, (nV ((aZ.phis.length : Int)))), (30, (nV ab))]) (fun ab aK => [blk aF [nV c_.params, nV c_.regs, sV aG aH c_.blocks.length aD] 49, ow [.slice aT aC.length aE] aK, ow [.slice aI aA.length aJ] aA]) [2, 3, 0] rfl ?_ ?_)
   ·repeat clear hm
    intro _ _ ab aK w hm bj bk bl _
    refine gS (gR (gB rfl (gE (gS (go _ 31 rfl (decide_eq_true (by omega)) (gct rfl (gSk (gS (gBk (gS (gR (gg fun aN bK ah => ?_))))))))))))
    obtain ⟨bL, bM, bm, he⟩ := idx_form' aa ah
    obtain ⟨rfl, _, rfl⟩ := sl3 he
    obtain ⟨aO, bN, ai⟩ := rk_Phi_ aa ah
    refine gI st_60 bK (idx_lt ah) rfl (gY (yn (bN.mono hm.lez) isAgg127 sizeOf127 rfl) (gAl hm zeroValue127 rfl fun aM w hm => gSN hm 0 sizeOf127 (one_cons rfl (one_cons (rep_one ai) one_nil)) rfl fun w hm => gE (gS (gR (gf rfl (fun a hf => e_mkM (β := Int) hm rfl) ?_)))))
    rintro ac w hm
    refine gA rfl (gE (gS (gS (gR (gM rfl (gY (yV st_43 rfl) (gM rfl (gE (gBk (gNf hm (fun aj ak => [(1, (pV aF)), (3, (.slice aT aC.length aE)), (4, (nV aB)), (6, (.slice aI aA.length aJ)), (8, (pV aM)), (9, ac), (17, (sV aG aH c_.blocks.length aD)), (18, (nV ((c_.blocks.length : Int)))), (19, (nV aB)), (28, (sV bL bM aZ.phis.length au)), (29, (nV ((aZ.phis.length : Int)))), (30, (nV ab)), (35, (.slice aI aA.length aJ)), (36, (nV ((aA.length : Int)))), (37, (nV aj))]) (fun aj ak => [blk aF [nV c_.params, nV c_.regs, sV aG aH c_.blocks.length aD] 49, ow [.slice aT aC.length aE] aK, ow [.slice aI aA.length aJ] aA, blk aM [nV aN.to, aO] 127, owm ac ak]) [2, 3, 4, 1, 0] rfl ?_ ?_))))))))))
    ·repeat clear hm
     intro _ _ aj ak w hm bo bp bq _
     refine gS (gR (gB rfl (gE (gS (go _ 38 rfl (decide_eq_true (by omega)) (gct rfl (gSk (gS (gBk (gS (gR (gM rfl (gg fun av bO am => ?_)))))))))))))
     obtain ⟨br, bt, bu, he⟩ := idx_form (hm.ow_rep 2 rfl) am
     obtain ⟨rfl, _, rfl⟩ := sl3 he
     refine gI st_43 bO (idx_lt am) rfl (gY (yl isAgg3 ((flat_cells (cs := [nV av]) (hm.ow_rep 2 rfl) am rfl).cell (j := 0) rfl) rfl) (gA rfl (gA rfl (gE (gR (gM rfl (gM rfl (gF fo_127_1 rfl (gL hm 3 isAgg43 rfl (gM rfl (gg fun aw bP an => ?_)))))))))))
     obtain ⟨bv, bw, bx, he⟩ := idx_form ai an
     subst he
     refine gI st_43 bP (idx_lt an) rfl (gY (yl isAgg3 ((flat_cells (cs := [nV aw]) (hm.now ai) an rfl).cell (j := 0) rfl) rfl) (gf0 rfl (fun a hf => e_insM (β := Int) (key := av) (u := aw) (b := false) 4 underlying3 underlying123 hf hm rfl rfl rfl rfl rfl) ?_))
     rintro _ w hm
     exact gE (gR (gP (by omega) (by omega) rfl (gM rfl (gE (gze hm [0, 1, 2, 3, 4] rfl)))))
    repeat clear hm
    intro bz aP w hm cA cB
    refine gS (gR (gB rfl (gE (gS (go _ 38 rfl (decide_eq_false (by omega)) (gcf rfl (gXt (gHh (gR (gM rfl (gM rfl (gM rfl (gM rfl (gg fun aQ ax aV => ?_))))))))))))))
    obtain ⟨aR, aS, cC, he⟩ := idx_form' (hm.ow_rep 1 rfl) aV
    obtain ⟨rfl, _, rfl⟩ := sl3 he
    obtain ⟨_, _, ay, bQ⟩ := ro_get' (hm.ow_rep 1 rfl) aV
    have ao := bQ
    obtain ⟨az, rfl, -⟩ := id ao
    replace ao : GT.rep (hp _) [az] aQ := ao
    replace ay : CellsAt (hp _) aR (aS + (aB).toNat * 1) [az] := ay
    have hL2_1 := rep_slice_len (hm.ow_rep 1 rfl)
    refine gI st_116 ax (idx_lt2 aV hL2_1) rfl ?_
    obtain ⟨_, bR, hm⟩ := hm.openE 1 rfl aV
    have bS := hm.ow_rep 0 rfl
    have ae := bS
    obtain ⟨aL, rfl, -⟩ := id ae
    replace ae : GT.rep (hp _) [aL] aQ := ae
    clear bR ae
    replace hm : Mem w0 (hp w0) _ [ow [aL] (aQ : List (MapS Int)), blk aF [nV c_.params, nV c_.regs, sV aG aH c_.blocks.length aD] 49, holeE aR aS aC.length aE (aK : List (List (MapS Int))) (aB).toNat [aL], ow [.slice aI aA.length aJ] aA, blk aM [nV aN.to, aO] 127, owm ac aP] := hm
    replace hm := hm.pk (L' := [ow [aL] aQ, blk aF [nV c_.params, nV c_.regs, sV aG aH c_.blocks.length aD] 49, holeE aR aS aC.length aE (aK : List (List (MapS Int))) (aB).toNat [aL], ow [.slice aI aA.length aJ] aA, blk aM [nV aN.to, aO] 127, owm ac aP]) [0, 1, 2, 3, 4, 5] rfl rfl
    refine gY (yl isAgg122 ((hm.holeE_at 2 rfl).cell (j := 0) rfl) rfl) (gM rfl ?_)
    obtain ⟨aW, he⟩ := owm_form hm 5 rfl
    subst he
    refine gf rfl (fun a hf => e_build (vs := #[(0, (.map (some aW)))]) (cs := [(.map (some aW))]) et_122 hf hm rfl rfl (by kernel_rfl) rfl rfl) ?_
    rintro _ w ⟨ap, rfl, hm⟩
    replace hm := hm.els_nil (α := MapS Int)
    have cD := owm_cells hm 7 rfl
    replace hm := hm.imp (c' := ow [(.map (some aW))] (aP : MapS Int)) 7 rfl (fun F h0 => own_owm h0)
    replace hm := hm.imp (c' := ow [(.map (some aW))] (aP : MapS Int)) 7 rfl (fun F h0 => h0)
    replace hm := (hm.els_cons 0 7 (by decide) rfl rfl).pk (L' := [els [(.map (some aW))] ([aP] : List (MapS Int)), blk ap [(.map (some aW))] 123, ow [aL] aQ, blk aF [nV c_.params, nV c_.regs, sV aG aH c_.blocks.length aD] 49, holeE aR aS aC.length aE (aK : List (List (MapS Int))) (aB).toNat [aL], ow [.slice aI aA.length aJ] aA, blk aM [nV aN.to, aO] 127]) [0, 1, 2, 3, 4, 5, 6] rfl rfl
    replace hm := (hm.lit_els 1 0 (by decide) rfl rfl rfl rfl).pk (L' := [ow [sV ap 0 1 1] ([aP] : List (MapS Int)), ow [aL] aQ, blk aF [nV c_.params, nV c_.regs, sV aG aH c_.blocks.length aD] 49, holeE aR aS aC.length aE (aK : List (List (MapS Int))) (aB).toNat [aL], ow [.slice aI aA.length aJ] aA, blk aM [nV aN.to, aO] 127]) [1, 2, 3, 4, 5, 6] rfl rfl
    refine gb fun aX bT => ?_
    obtain ⟨bU, bV⟩ := appM_some.1 bT
    replace hm := (hm.both 1 0 (by decide) rfl rfl).pk (L' := [both (ow [aL] aQ) (ow [sV ap 0 1 1] ([aP] : List (MapS Int))), blk aF [nV c_.params, nV c_.regs, sV aG aH c_.blocks.length aD] 49, holeE aR aS aC.length aE (aK : List (List (MapS Int))) (aB).toNat [aL], ow [.slice aI aA.length aJ] aA, blk aM [nV aN.to, aO] 127]) [1, 2, 3, 4, 5] rfl rfl
    refine gf rfl (fun a hf => e_appendD (xs := aQ) (ys := ([aP] : List (MapS Int))) 0 et_122 hf hm rfl rfl rfl rfl bU) ?_
    rintro aY w hm
    rw [bV] at hm
    have hL2_2 := hm.holeE_len 2 rfl
    refine gI st_116 ax (idx_lt2 aV hL2_2) rfl ?_
    have bA : ∀ u ∈ ([aY] : List Value), u.oneCell' = true := (one_cons (rep_one (hm.ow_rep 0 rfl)) one_nil)
    refine gf0 rfl (fun a hf => e_storeH (j := 0) (vs := [aY]) 2 hf hm rfl rfl rfl sizeOf122 rfl rfl (cells_one (bA _ (List.mem_singleton.2 rfl))) bA rfl) ?_
    rintro _ w hm
    replace hm : Mem w0 (hp w0) _ [ow [aY] aX, blk aF [nV c_.params, nV c_.regs, sV aG aH c_.blocks.length aD] 49, holeE aR aS aC.length aE (aK : List (List (MapS Int))) (aB).toNat [aY], ow [.slice aI aA.length aJ] aA, blk aM [nV aN.to, aO] 127] := hm
    refine gE ?_
    replace hm := hm.imp (c' := ow [aY] (aX : List (MapS Int))) 0 rfl (fun F h0 => h0)
    replace hm := (hm.shutE (y := (aX : List (MapS Int))) 2 0 (by decide) rfl rfl).pk (L' := [blk aF [nV c_.params, nV c_.regs, sV aG aH c_.blocks.length aD] 49, ow [sV aR aS aC.length aE] (aK.set (aB).toNat aX), ow [.slice aI aA.length aJ] aA, blk aM [nV aN.to, aO] 127]) [1, 2, 3, 4] rfl rfl
    have cE := List.getElem?_set_self (a := (aX : List (MapS Int))) (idx_lt aV)
    exact gR (gP (by omega) (by omega) rfl (gM rfl (gE (gze hm [0, 1, 2] rfl))))
   repeat clear hm
   intro cF cG w hm cH cI
   exact gS (gR (gB rfl (gE (gS (go _ 31 rfl (decide_eq_false (by omega)) (gcf rfl (gXt (gHh (gR (gP (by omega) (by omega) rfl (gM rfl (gE (gze hm [0, 1] rfl)))))))))))))
  repeat clear hm
  intro cJ cK w hm cL cM
  exact gS (gR (gB rfl (gE (gS (go _ 20 rfl (decide_eq_false (by omega)) (gcf rfl (gXt (gHh (gS (gR (gM rfl (gA rfl (gE (gRt (gr1 results108 rfl ⟨.slice aT aC.length aE, rfl, hm.pk [1] rfl rfl⟩)))))))))))))))
theorem impl_mapped_impl_Phi_impl_Phi_ok (w0 : World) (list : List Phi_) (v1 : Value) (h1 : GT.rep (hp w0) [v1] list) (f : Phi_ → Option Phi_) (fv1 : Value) (hfn1 : ∀ (w : World) (y0 : Phi_) (z1 : Value) (_ : GT.rep (hp w) [z1] y0.args) (r : Phi_), Below w0.heap.size w0 w → f y0 = some r → FnOk Tryz.prog fv1 [(.agg #[nV y0.to, z1])] w (fun v w' => ∃ (x1 : Value), v = (.agg #[nV r.to, x1]) ∧ Mem w (hp w) w' [ow [x1] r.args])) :
    ConM Tryz.prog 239 [v1, fv1] w0 (impl_mapped_impl_Phi_impl_Phi list f) fun r v w' => ∃ (x1 : Value), v = x1 ∧ Mem w0 (hp w0) w' [ow [x1] r] := by
  unfold impl_mapped_impl_Phi_impl_Phi
  refine gcon func239 rfl fun r => ?_
  have hm := Mem.start w0
  refine gS (gR (gA rfl (gE (gS (gR (gA rfl (gE (gS (gS (gR (gM rfl ?_)))))))))))
  obtain ⟨aL, aM, rfl, aW⟩ := ro_slice h1
  refine gY (yV st_60 rfl) (gM rfl (gE (gBk ?_)))
  replace hm := hm.nilow (α := Phi_)
  refine gNg (fun aJ aB a w => ∃ (aC : Value), St 22 [(1, fv1), (5, aC), (8, (.slice aL list.length aM)), (9, (nV ((list.length : Int)))), (10, (nV aJ))] w0 (hp w0) [ow [aC] aB] a w) (fun a hf => ⟨.slice none 0 0, hf.sb rfl, hm.pk [0] rfl rfl⟩) ?_ ?_
  ·repeat clear hm
   rintro _ _ aJ aB a w ⟨aC, hf, hm⟩ aX aY aZ _
   refine gv hf (gS (gR (gB rfl (gE (gS (go _ 11 rfl (decide_eq_true (by omega)) (gct rfl (gSk (gS (gBk (gS (gR (gg fun aE aN aI => ?_)))))))))))))
   obtain ⟨aa, ab, ac, he⟩ := idx_form' h1 aI
   obtain ⟨rfl, _, rfl⟩ := sl3 he
   obtain ⟨aF, aO, aK⟩ := rk_Phi_ h1 aI
   refine gI st_60 aN (idx_lt aI) rfl (gY (yn (aO.mono hm.lez) isAgg127 sizeOf127 rfl) (gAl hm zeroValue127 rfl fun aG w hm => gSN hm 0 sizeOf127 (one_cons rfl (one_cons (rep_one aK) one_nil)) rfl fun w hm => gE (gR (gM rfl (gM rfl (gY (yn (hm.blk_at 0 rfl) isAgg127 sizeOf127 rfl) (gb fun aA aP => gf rfl (fun a hf => e_callv hf rfl rfl rfl (hfn1 _ aE aF (hm.now aK) _ hm.below aP)) ?_)))))))
   rintro ae w ⟨aD, rfl, hB⟩
   replace hm := hm.give hB; clear hB
   refine gf rfl (fun a hf => e_build (vs := #[(0, (.agg #[nV aA.to, aD]))]) (cs := [nV aA.to, aD]) et_60 hf hm rfl rfl (by kernel_rfl) rfl rfl) ?_
   rintro _ w ⟨aH, rfl, hm⟩
   replace hm := hm.els_nil (α := Phi_)
   replace hm : Mem w0 (hp w0) _ [els [] ([] : List Phi_), blk aH [nV aA.to, aD] 127, ow [nV aA.to, aD] (aA : Phi_), blk aG [nV aE.to, aF] 127, ow [aC] aB] := mk_Phi_ aA.to hm 2 rfl
   replace hm := (hm.els_cons 0 2 (by decide) rfl rfl).pk (L' := [els [nV aA.to, aD] ([aA] : List Phi_), blk aH [nV aA.to, aD] 127, blk aG [nV aE.to, aF] 127, ow [aC] aB]) [0, 1, 3, 4] rfl rfl
   replace hm := (hm.lit_els 1 0 (by decide) rfl rfl rfl rfl).pk (L' := [ow [sV aH 0 1 1] ([aA] : List Phi_), blk aG [nV aE.to, aF] 127, ow [aC] aB]) [1, 2, 3] rfl rfl
   refine gb fun af aQ => ?_
   obtain ⟨aR, aS⟩ := appM_some.1 aQ
   replace hm := (hm.both 2 0 (by decide) rfl rfl).pk (L' := [blk aG [nV aE.to, aF] 127, both (ow [aC] aB) (ow [sV aH 0 1 1] ([aA] : List Phi_))]) [1, 2] rfl rfl
   refine gf rfl (fun a hf => e_appendD (xs := aB) (ys := ([aA] : List Phi_)) 1 et_60 hf hm rfl rfl rfl rfl aR) ?_
   rintro aT w hm
   rw [aS] at hm
   exact gA rfl (gE (gR (gP (by omega) (by omega) rfl (gM rfl (gE (gZe fun a hf => ⟨aT, hf.sb rfl, hm.pk [1] rfl rfl⟩))))))
  repeat clear hm
  rintro ag ah a w ⟨aV, hf, hm⟩ ai aj
  exact gv hf (gS (gR (gB rfl (gE (gS (go _ 11 rfl (decide_eq_false (by omega)) (gcf rfl (gXt (gHh (gS (gR (gM rfl (gA rfl (gE (gRt (gr1 results239 rfl ⟨aV, rfl, hm.pk [0] rfl rfl⟩))))))))))))))))
theorem impl_clonePhi_ok (w0 : World) (f : Phi_) (v1 : Value) (h1 : GT.rep (hp w0) [v1] f.args) :
    ConM Tryz.prog 240 [(.agg #[nV f.to, v1])] w0 (impl_clonePhi f) fun r v w' => ∃ (x1 : Value), v = (.agg #[nV r.to, x1]) ∧ Mem w0 (hp w0) w' [ow [x1] r.args] := by
  unfold impl_clonePhi
  refine gcon func240 rfl fun r => ?_
  have hm := Mem.start w0
  refine gS (gR (gBx hm rfl fun aD w hm => gAl hm zeroValue127 rfl fun aE w hm => gE (gS (gW (.p 0 (.p 2 (.q 1 (.e 3 (.e 4 (.p 5 (.e 6 .fin .nil)) .nil) .nil)))) [3, 4] [0, 2, 5] hm [0, 1] [blk aE [nV 0, .slice none 0 0] 127, blk aD [nV f.to, v1] 127] rfl mxo (by kernel_rfl) (fun _ _ _ h => h.2) fun w hm hS => tP rfl (fun w => yF fo_127_0 rfl) (tP rfl (fun w => yF fo_127_1 rfl) (tQ rfl hS (fun w hm => yL hm 1 isAgg3 rfl) (tO (tY rfl (yL hm 1 isAgg43 rfl) (tAs hS (tO (gb fun aA aF => tf rfl rfl (fun a hf => e_call hf rfl call177 rfl (slices_Clone_S_int_int_ok _ f.args v1 (hm.now h1) _ aF)) ?_)))))))))))
  rintro aG w ⟨_, rfl, hB⟩
  replace hm := hm.give hB; clear hB
  refine tAk hm [1, 2] rfl fun hS => ?_
  obtain ⟨aB, aC, rfl, aH⟩ := ro_slice (hm.ow_rep 0 rfl)
  refine tP rfl (fun w => yG rfl (y_build (vs := [(0, (nV f.to)), (1, (.slice aB aA.length aC))]) (cs := #[nV f.to, .slice aB aA.length aC]) rfl rfl (by kernel_rfl))) (tO (tf0 rfl rfl (fun a hf => e_storeN 1 hf hm rfl sizeOf127 rfl rfl rfl (one_cons rfl (one_cons rfl one_nil)) rfl rfl) ?_))
  rintro _ w hm
  exact tAn rfl (tE (gRt (grc 1 results240 hm rfl isAgg127 sizeOf127 ⟨.slice aB aA.length aC, rfl, hm.pk [0] rfl rfl⟩)))
theorem impl_mapped_impl_Ins_impl_Ins_ok (w0 : World) (list : List Ins_) (v1 : Value) (h1 : GT.rep (hp w0) [v1] list) (f : Ins_ → Option Ins_) (fv1 : Value) (hfn1 : ∀ (w : World) (y0 : Ins_) (z1 : Value) (_ : GT.rep (hp w) [z1] y0.args) (r : Ins_), Below w0.heap.size w0 w → f y0 = some r → FnOk Tryz.prog fv1 [(.agg #[nV y0.op, nV y0.to, z1, nV y0.n_])] w (fun v w' => ∃ (x1 : Value), v = (.agg #[nV r.op, nV r.to, x1, nV r.n_]) ∧ Mem w (hp w) w' [ow [x1] r.args])) :
    ConM Tryz.prog 241 [v1, fv1] w0 (impl_mapped_impl_Ins_impl_Ins list f) fun r v w' => ∃ (x1 : Value), v = x1 ∧ Mem w0 (hp w0) w' [ow [x1] r] := by
  unfold impl_mapped_impl_Ins_impl_Ins
  refine gcon func241 rfl fun r => ?_
  have hm := Mem.start w0
  refine gS (gR (gA rfl (gE (gS (gR (gA rfl (gE (gS (gS (gR (gM rfl ?_)))))))))))
  obtain ⟨aL, aM, rfl, aW⟩ := ro_slice h1
  refine gY (yV st_61 rfl) (gM rfl (gE (gBk ?_)))
  replace hm := hm.nilow (α := Ins_)
  refine gNg (fun aJ aC a w => ∃ (aD : Value), St 22 [(1, fv1), (5, aD), (8, (.slice aL list.length aM)), (9, (nV ((list.length : Int)))), (10, (nV aJ))] w0 (hp w0) [ow [aD] aC] a w) (fun a hf => ⟨.slice none 0 0, hf.sb rfl, hm.pk [0] rfl rfl⟩) ?_ ?_
  ·repeat clear hm
   rintro _ _ aJ aC a w ⟨aD, hf, hm⟩ aX aY aZ _
   refine gv hf (gS (gR (gB rfl (gE (gS (go _ 11 rfl (decide_eq_true (by omega)) (gct rfl (gSk (gS (gBk (gS (gR (gg fun aB aN aI => ?_)))))))))))))
   obtain ⟨aa, ab, ac, he⟩ := idx_form' h1 aI
   obtain ⟨rfl, _, rfl⟩ := sl3 he
   obtain ⟨aF, aO, aK⟩ := rk_Ins_ h1 aI
   refine gI st_61 aN (idx_lt aI) rfl (gY (yn (aO.mono hm.lez) isAgg65 sizeOf65 rfl) (gAl hm zeroValue65 rfl fun aG w hm => gSN hm 0 sizeOf65 (one_cons rfl (one_cons rfl (one_cons (rep_one aK) (one_cons rfl one_nil)))) rfl fun w hm => gE (gR (gM rfl (gM rfl (gY (yn (hm.blk_at 0 rfl) isAgg65 sizeOf65 rfl) (gb fun aA aP => gf rfl (fun a hf => e_callv hf rfl rfl rfl (hfn1 _ aB aF (hm.now aK) _ hm.below aP)) ?_)))))))
   rintro ae w ⟨aE, rfl, hB⟩
   replace hm := hm.give hB; clear hB
   refine gf rfl (fun a hf => e_build (vs := #[(0, (.agg #[nV aA.op, nV aA.to, aE, nV aA.n_]))]) (cs := [nV aA.op, nV aA.to, aE, nV aA.n_]) et_61 hf hm rfl rfl (by kernel_rfl) rfl rfl) ?_
   rintro _ w ⟨aH, rfl, hm⟩
   replace hm := hm.els_nil (α := Ins_)
   replace hm : Mem w0 (hp w0) _ [els [] ([] : List Ins_), blk aH [nV aA.op, nV aA.to, aE, nV aA.n_] 65, ow [nV aA.op, nV aA.to, aE, nV aA.n_] (aA : Ins_), blk aG [nV aB.op, nV aB.to, aF, nV aB.n_] 65, ow [aD] aC] := mk_Ins_ aA.op aA.to aA.n_ hm 2 rfl
   replace hm := (hm.els_cons 0 2 (by decide) rfl rfl).pk (L' := [els [nV aA.op, nV aA.to, aE, nV aA.n_] ([aA] : List Ins_), blk aH [nV aA.op, nV aA.to, aE, nV aA.n_] 65, blk aG [nV aB.op, nV aB.to, aF, nV aB.n_] 65, ow [aD] aC]) [0, 1, 3, 4] rfl rfl
   replace hm := (hm.lit_els 1 0 (by decide) rfl rfl rfl rfl).pk (L' := [ow [sV aH 0 1 1] ([aA] : List Ins_), blk aG [nV aB.op, nV aB.to, aF, nV aB.n_] 65, ow [aD] aC]) [1, 2, 3] rfl rfl
   refine gb fun af aQ => ?_
   obtain ⟨aR, aS⟩ := appM_some.1 aQ
   replace hm := (hm.both 2 0 (by decide) rfl rfl).pk (L' := [blk aG [nV aB.op, nV aB.to, aF, nV aB.n_] 65, both (ow [aD] aC) (ow [sV aH 0 1 1] ([aA] : List Ins_))]) [1, 2] rfl rfl
   refine gf rfl (fun a hf => e_appendD (xs := aC) (ys := ([aA] : List Ins_)) 1 et_61 hf hm rfl rfl rfl rfl aR) ?_
   rintro aT w hm
   rw [aS] at hm
   exact gA rfl (gE (gR (gP (by omega) (by omega) rfl (gM rfl (gE (gZe fun a hf => ⟨aT, hf.sb rfl, hm.pk [1] rfl rfl⟩))))))
  repeat clear hm
  rintro ag ah a w ⟨aV, hf, hm⟩ ai aj
  exact gv hf (gS (gR (gB rfl (gE (gS (go _ 11 rfl (decide_eq_false (by omega)) (gcf rfl (gXt (gHh (gS (gR (gM rfl (gA rfl (gE (gRt (gr1 results241 rfl ⟨aV, rfl, hm.pk [0] rfl rfl⟩))))))))))))))))
theorem impl_cloneIns_ok (w0 : World) (x_ : Ins_) (v1 : Value) (h1 : GT.rep (hp w0) [v1] x_.args) :
    ConM Tryz.prog 242 [(.agg #[nV x_.op, nV x_.to, v1, nV x_.n_])] w0 (impl_cloneIns x_) fun r v w' => ∃ (x1 : Value), v = (.agg #[nV r.op, nV r.to, x1, nV r.n_]) ∧ Mem w0 (hp w0) w' [ow [x1] r.args] := by
  unfold impl_cloneIns
  refine gcon func242 rfl fun r => ?_
  have hm := Mem.start w0
  refine gS (gR (gBx hm rfl fun aB w hm => gAl hm zeroValue65 rfl fun aC w hm => gE (gS (gR (gF fo_65_2 rfl (gL hm 1 isAgg43 rfl (gCg rfl call177 (slices_Clone_S_int_int_ok _ x_.args v1 (hm.now h1)) ?_)))))))
  rintro aD aE aA w ⟨_, rfl, hB⟩
  replace hm := hm.give hB; clear hB
  exact gF fo_65_2 rfl (gS1 hm 2 sizeOf43 (rep_one (hm.ow_rep 0 rfl)) rfl fun w hm => gE (gS (gR (gY (yn (hm.blk_at 2 rfl) isAgg65 sizeOf65 rfl) (gSN hm 1 sizeOf65 (one_cons rfl (one_cons rfl (one_cons (rep_one (hm.ow_rep 0 rfl)) (one_cons rfl one_nil)))) rfl fun w hm => gE (gRt (grc 1 results242 hm rfl isAgg65 sizeOf65 ⟨aA, rfl, hm.pk [0] rfl rfl⟩)))))))
theorem impl_cloneBlock_ok (w0 : World) (b_ : Block_) (v1 : Value) (h1 : GT.rep (hp w0) [v1] b_.phis) (v2 : Value) (h2 : GT.rep (hp w0) [v2] b_.ins) (v3 : Value) (h3 : GT.rep (hp w0) [v3] b_.next_) :
    ConM Tryz.prog 162 [(.agg #[v1, v2, nV b_.jump, nV b_.on, v3])] w0 (impl_cloneBlock b_) fun r v w' => ∃ (x1 : Value) (x2 : Value) (x3 : Value), v = (.agg #[x1, x2, nV r.jump, nV r.on, x3]) ∧ Mem w0 (hp w0) w' [ow [x1] r.phis, ow [x2] r.ins, ow [x3] r.next_] := by
  unfold impl_cloneBlock
  refine gcon func162 rfl fun r => ?_
  have hm := Mem.start w0
  refine gS (gR (gBx hm rfl fun aF w hm => gAl hm zeroValue63 rfl fun aG w hm => gE (gS (gR (gF fo_63_0 rfl (gL hm 1 isAgg60 rfl (gCg rfl call239 (impl_mapped_impl_Phi_impl_Phi_ok _ b_.phis v1 (hm.now h1) (fun y0 => impl_clonePhi y0) (.func (.func 240) #[] #[]) (fun w y0 aA aB r hB hq => ⟨240, [], rfl, call240, impl_clonePhi_ok w y0 aA aB  r hq⟩)) ?_)))))))
  rintro aH aI aC w ⟨_, rfl, hB⟩
  replace hm := hm.give hB; clear hB
  refine gF fo_63_0 rfl (gS1 hm 2 sizeOf60 (rep_one (hm.ow_rep 0 rfl)) rfl fun w hm => gE (gS (gR (gF fo_63_1 rfl (gL hm 2 isAgg61 rfl (gCg rfl call241 (impl_mapped_impl_Ins_impl_Ins_ok _ b_.ins v2 (hm.now h2) (fun y0 => impl_cloneIns y0) (.func (.func 242) #[] #[]) (fun w y0 aA aB r hB hq => ⟨242, [], rfl, call242, impl_cloneIns_ok w y0 aA aB  r hq⟩)) ?_))))))
  rintro aJ aK aD w ⟨_, rfl, hB⟩
  replace hm := hm.give hB; clear hB
  refine gF fo_63_1 rfl (gS1 hm 3 sizeOf61 (rep_one (hm.ow_rep 0 rfl)) rfl fun w hm => gE (gS (gR (gF fo_63_4 rfl (gL hm 3 isAgg43 rfl (gCg rfl call177 (slices_Clone_S_int_int_ok _ b_.next_ v3 (hm.now h3)) ?_))))))
  rintro aL aM aE w ⟨_, rfl, hB⟩
  replace hm := hm.give hB; clear hB
  exact gF fo_63_4 rfl (gS1 hm 4 sizeOf43 (rep_one (hm.ow_rep 0 rfl)) rfl fun w hm => gE (gS (gR (gY (yn (hm.blk_at 4 rfl) isAgg63 sizeOf63 rfl) (gSN hm 3 sizeOf63 (one_cons (rep_one (hm.ow_rep 2 rfl)) (one_cons (rep_one (hm.ow_rep 1 rfl)) (one_cons rfl (one_cons rfl (one_cons (rep_one (hm.ow_rep 0 rfl)) one_nil))))) rfl fun w hm => gE (gRt (grc 3 results162 hm rfl isAgg63 sizeOf63 ⟨aC, aD, aE, rfl, hm.pk [2, 1, 0] rfl rfl⟩)))))))
theorem impl_settle_1_ok (w0 : World) (p_ : Int) (c0_ : MapS Int) (v1 : Value) (h1 : GT.rep (hp w0) [v1] c0_) (bf0 : Nat) (hbf0 : w0.heap[bf0]? = some (.cells ([v1] : List Value).toArray 123 (0, 0))) :
    ConM Tryz.prog 201 [nV p_, (pV bf0)] w0 (impl_settle_1 p_ c0_) fun r v w' => v = (nV r) ∧ Below w0.heap.size w0 w' := by
  unfold impl_settle_1
  refine gcon func201 rfl fun r => ?_
  have hm := Mem.start w0
  exact gS (gR (gA rfl (gE (gS (gR (gY (yl isAgg123 (hm.old_cell hbf0 rfl) rfl) (gM rfl (gY (yG rfl (y_lookI (key := p_) (m := (c0_ : MapS Int)) underlying3 underlying123 zeroValue3 (hm.now h1) rfl rfl rfl)) (gA rfl (gE (gRt (gr1 results201 rfl ⟨rfl, hm.below⟩))))))))))))
theorem impl_mapped_int_int_ok (w0 : World) (list : List Int) (v1 : Value) (h1 : GT.rep (hp w0) [v1] list) (f : Int → Option Int) (fv1 : Value) (hfn1 : ∀ (w : World) (y0 : Int) (r : Int), Below w0.heap.size w0 w → f y0 = some r → FnOk Tryz.prog fv1 [nV y0] w (fun v w' => v = (nV r) ∧ Below w.heap.size w w')) :
    ConM Tryz.prog 114 [v1, fv1] w0 (impl_mapped_int_int list f) fun r v w' => ∃ (x1 : Value), v = x1 ∧ Mem w0 (hp w0) w' [ow [x1] r] := by
  unfold impl_mapped_int_int
  refine gcon func114 rfl fun r => ?_
  have hm := Mem.start w0
  refine gS (gR (gA rfl (gE (gS (gR (gA rfl (gE (gS (gS (gR (gM rfl ?_)))))))))))
  obtain ⟨aG, aH, rfl, aP⟩ := ro_slice h1
  refine gY (yV st_43 rfl) (gM rfl (gE (gBk ?_)))
  replace hm := hm.nilow (α := Int)
  refine gNg (fun aD aE a w => ∃ (aA : Value), St 22 [(1, fv1), (5, aA), (8, (.slice aG list.length aH)), (9, (nV ((list.length : Int)))), (10, (nV aD))] w0 (hp w0) [ow [aA] aE] a w) (fun a hf => ⟨.slice none 0 0, hf.sb rfl, hm.pk [0] rfl rfl⟩) ?_ ?_
  ·repeat clear hm
   rintro _ _ aD aE a w ⟨aA, hf, hm⟩ aQ aR aS _
   refine gv hf (gS (gR (gB rfl (gE (gS (go _ 11 rfl (decide_eq_true (by omega)) (gct rfl (gSk (gS (gBk (gS (gR (gg fun aF aI aB => ?_)))))))))))))
   obtain ⟨aT, aV, aW, he⟩ := idx_form h1 aB
   obtain ⟨rfl, _, rfl⟩ := sl3 he
   refine gI st_43 aI (idx_lt aB) rfl (gY (yl isAgg3 ((flat_cells (cs := [nV aF]) (hm.now h1) aB rfl).cell (j := 0) rfl) rfl) (gA rfl (gE (gR (gM rfl (gM rfl (gM rfl (gb fun aC aJ => gf rfl (fun a hf => e_callv hf rfl rfl rfl (hfn1 _ aF _ hm.below aJ)) ?_))))))))
   rintro aX w ⟨rfl, hB⟩
   replace hm := hm.below' hB; clear hB
   refine gf rfl (fun a hf => e_build (vs := #[(0, (nV aC))]) (cs := [nV aC]) et_43 hf hm rfl rfl (by kernel_rfl) rfl rfl) ?_
   rintro _ w ⟨aY, rfl, hm⟩
   replace hm := hm.lit (xs := ([aC] : List Int)) 0 rfl rfl rfl rfl
   refine gb fun aZ aK => ?_
   obtain ⟨aL, aM⟩ := appM_some.1 aK
   refine gf rfl (fun a hf => e_append 1 et_43 hf hm rfl (hm.ow_rep 0 rfl) rfl rfl rfl aL) ?_
   rintro aN w hm
   rw [aM] at hm
   exact gA rfl (gE (gR (gP (by omega) (by omega) rfl (gM rfl (gE (gZe fun a hf => ⟨aN, hf.sb rfl, hm.pk [1] rfl rfl⟩))))))
  repeat clear hm
  rintro aa ab a w ⟨aO, hf, hm⟩ ac ae
  exact gv hf (gS (gR (gB rfl (gE (gS (go _ 11 rfl (decide_eq_false (by omega)) (gcf rfl (gXt (gHh (gS (gR (gM rfl (gA rfl (gE (gRt (gr1 results114 rfl ⟨aO, rfl, hm.pk [0] rfl rfl⟩))))))))))))))))
abbrev od120_1 : Go.Wk.Ord := (.p 12 (.p 13 (.e 14 .fin .nil)))
theorem impl_settle_ok (w0 : World) (hz : Heap) (c_ : Code_) (bp0 : Nat) (v1p : Value) (phis : List (List (MapS Int))) (v1 : Value) (h1 : GT.rep hz [v1] phis) (hm0 : Mem w0 hz w0 [blk bp0 [nV c_.params, nV c_.regs, v1p] 49, ow [v1p] c_.blocks]) :
    ConM Tryz.prog 120 [(pV bp0), v1] w0 (impl_settle c_ phis) fun r v w' => ∃ (x1 : Value), v = (.tuple #[]) ∧ Mem w0 hz w' [blk bp0 [nV r.params, nV r.regs, x1] 49, ow [x1] r.blocks] := by
  unfold impl_settle
  refine gcon func120 rfl fun r => ?_
  have hm := hm0
  refine gS (gR (gM rfl (gY (yG rfl (y_nilptr rfl rfl)) (gF fo_49_2 rfl (gL hm 0 isAgg47 rfl ?_)))))
  obtain ⟨aO, aD, rfl, bP⟩ := ro_slice (hm.ow_rep 1 rfl)
  refine gY (yV st_47 rfl) (gM rfl (gE (gBk (gNf hm (fun aG an => [(0, (pV bp0)), (1, v1), (12, (nV ((c_.blocks.length : Int)))), (13, (nV aG))]) (fun aG an => [blk bp0 [nV c_.params, nV c_.regs, .slice aO c_.blocks.length aD] 49, ow [.slice aO c_.blocks.length aD] an]) [0, 1] rfl ?_ ?_))))
  ·repeat clear hm
   intro _ _ aG an w hm bQ bR bS _
   refine gS (gR (gB rfl (gE (gS (go _ 14 rfl (decide_eq_true (by omega)) (gct rfl (gSk (gS (gBk (gS (gR (gM rfl (gA rfl (gE (gS (gR (gM rfl (gY (yG rfl (y_nilptr rfl rfl)) (gY (yn (hm.blk_at 0 rfl) isAgg49 sizeOf49 rfl) (gM rfl (gCg rfl call113 (impl_PredsOf_ok _ (⟨c_.params, c_.regs, an⟩ : Code_) (.slice aO c_.blocks.length aD) (hm.ow_rep 1 rfl) aG) ?_)))))))))))))))))))))
   rintro aC bT bU w ⟨_, rfl, hB⟩
   replace hm := hm.give hB; clear hB
   refine gA rfl (gE (gS (gR (gM rfl (gM rfl (gg fun ag bG ap => ?_))))))
   obtain ⟨aq, ar, ax, he⟩ := idx_form' h1 ap
   subst he
   obtain ⟨_, _, au, bH⟩ := ro_get' h1 ap
   have ab := bH
   obtain ⟨ay, rfl, -⟩ := id ab
   replace ab : GT.rep hz [ay] ag := ab
   replace au : CellsAt hz aq (ar + (aG).toNat * 1) [ay] := au
   refine gI st_116 bG (idx_lt ap) rfl (gY (yl isAgg122 ((au.mono hm.lez).cell (j := 0) rfl) rfl) ?_)
   obtain ⟨bJ, az, rfl, bV⟩ := ro_slice ab
   refine gY (yV st_122 rfl) (gM rfl (gE ?_))
   obtain ⟨aJ, aK, rfl, bW⟩ := ro_slice (hm.ow_rep 0 rfl)
   refine gBk (gNf hm (fun aH aN => [(0, (pV bp0)), (1, (sV aq ar phis.length ax)), (4, (nV aG)), (5, (.slice aJ aC.length aK)), (12, (nV ((c_.blocks.length : Int)))), (13, (nV aG)), (24, (.slice bJ ag.length az)), (25, (nV ((ag.length : Int)))), (26, (nV aH))]) (fun aH aN => [blk bp0 [nV c_.params, nV c_.regs, .slice aO c_.blocks.length aD] 49, ow [.slice aO c_.blocks.length aD] aN, ow [.slice aJ aC.length aK] aC]) [1, 2, 0] rfl ?_ ?_)
   ·repeat clear hm
    intro _ _ aH aN w hm bX bY bZ _
    refine gS (gR (gB rfl (gE (gS (go _ 27 rfl (decide_eq_true (by omega)) (gct rfl (gSk (gS (gBk (gS (gR (gM rfl (gg fun ah bK av => ?_)))))))))))))
    obtain ⟨bA, bB, b8, he⟩ := idx_form' ab av
    obtain ⟨rfl, _, rfl⟩ := sl3 he
    obtain ⟨_, _, aw, bL⟩ := ro_get' ab av
    have ac := bL
    obtain ⟨aM, rfl, -⟩ := id ac
    replace ac : GT.rep hz [aM] ah := ac
    replace aw : CellsAt hz bA (bB + (aH).toNat * 1) [aM] := aw
    refine gI st_122 bK (idx_lt av) rfl (gY (yl isAgg123 ((aw.mono hm.lez).cell (j := 0) rfl) rfl) (gAl hm zeroValue123 rfl fun aL w hm => gA rfl (gS1 hm 0 sizeOf123 (rep_oneM ac) rfl fun w hm => gE (gJ hm (fun ao => [(0, (pV bp0)), (1, (sV aq ar phis.length ax)), (4, (nV aG)), (5, (.slice aJ aC.length aK)), (12, (nV ((c_.blocks.length : Int)))), (13, (nV aG)), (24, (sV bA bB ag.length az)), (25, (nV ((ag.length : Int)))), (26, (nV aH))]) (fun ao => [blk bp0 [nV c_.params, nV c_.regs, .slice aO c_.blocks.length aD] 49, ow [.slice aO c_.blocks.length aD] ao, ow [.slice aJ aC.length aK] aC]) (fun ao => ?_) ?_))))
    ·refine gW (.p 0 (.p 1 (.p 2 (.p 4 (.p 8 (.p 9 (.p 10 (.q 3 (.p 5 (.p 6 (.e 7 (.e 11 od120_1 .nil) (.e 11 (.e 7 od120_1 .nil) .nil)))))))))))) [11] [0, 1, 2, 4, 5, 6, 8, 9, 10, 12, 13] hm [0, 1, 3] [blk aL [aM] 123, blk bp0 [nV c_.params, nV c_.regs, .slice aO c_.blocks.length aD] 49, ow [.slice aJ aC.length aK] aC] rfl mxo (by kernel_rfl) (fun _ _ _ h => h.2) fun w hm hS => tP rfl (fun w => yM rfl) (tP rfl (fun w => yG rfl (y_nilptr rfl rfl)) (tP rfl (fun w => yF fo_49_2 rfl) (tP rfl (fun w => yM rfl) (tP rfl (fun w => yM rfl) (tP rfl (fun w => yM rfl) (tP rfl (fun w => yU rfl) (tQ rfl hS (fun w hm => yL hm 1 isAgg47 rfl) (gg fun aA bM aa => ?_))))))))
     obtain ⟨aE, aF, b9, he⟩ := idx_form' (hm.ow_rep 2 rfl) aa
     obtain ⟨rfl, _, rfl⟩ := sl3 he
     obtain ⟨ba, bb, bc, bd, be, bf, bg⟩ := rk_Block_ (hm.ow_rep 2 rfl) aa
     have hL3_1 := rep_slice_len (hm.ow_rep 2 rfl)
     refine tP rfl (fun w => yI st_47 bM (idx_lt2 aa hL3_1) rfl) (tP rfl (fun w => yF fo_63_0 rfl) (gb fun aI bC => gb fun aB bD => tMo ?_ ?_))
     ·obtain ⟨bh, aP, aQ, hm⟩ := pin_Block_ hm 2 rfl aa
      refine tY rfl (yl isAgg60 ((hm.holeE_at 5 rfl).cell (j := 0) rfl) rfl) (tAn rfl (tO (tf rfl rfl (fun a hf => e_call hf rfl call114 rfl (impl_mapped_int_int_ok _ aC (.slice aJ aC.length aK) (hm.ow_rep 6 rfl) (fun y0 => impl_settle_1 y0 ah) (.func (.func 201) #[] #[(pV aL)]) (fun w y0 r hB hq => ⟨201, [(pV aL)], rfl, call201, impl_settle_1_ok w y0 ah aM (rep_later (hm.now ac) hB) aL (hm.blk_later 3 rfl hB) r hq⟩) _ bC)) ?_)))
      rintro ae w ⟨_, rfl, hB⟩
      replace hm := hm.give hB; clear hB
      refine tAk hm [4, 5, 7] rfl fun hS => ?_
      obtain ⟨bN, ai⟩ := getI_some.1 bD
      obtain ⟨aR, aS, aT, he⟩ := idx_form' (hm.ow_rep 3 rfl) ai
      subst he
      obtain ⟨bi, bj, bk⟩ := rk_Phi_ (hm.ow_rep 3 rfl) ai
      refine tP rfl (fun w => yI st_60 bN (idx_lt ai) rfl) (tP rfl (fun w => yF fo_127_1 rfl) (tO ?_))
      obtain ⟨aj, hm⟩ := pin_Phi_ hm 3 rfl ai
      have bE : ∀ u ∈ ([ae] : List Value), u.oneCell' = true := (one_cons (rep_one (hm.ow_rep 1 rfl)) one_nil)
      refine tf0 rfl rfl (fun a hf => e_storeH (j := 1) (vs := [ae]) 4 hf hm rfl rfl rfl sizeOf43 rfl rfl (cells_one (bE _ (List.mem_singleton.2 rfl))) bE rfl) ?_
      rintro _ w hm
      replace hm : Mem w0 hz _ [ow [aj] aB.args, ow [ae] aI, ow [aQ] aA.next_, ow [aP] aA.ins, holeE aR aS aA.phis.length aT (aA.phis : List Phi_) (aH).toNat [nV aB.to, ae], blk aL [aM] 123, blk bp0 [nV c_.params, nV c_.regs, sV aE aF c_.blocks.length aD] 49, holeE aE aF c_.blocks.length aD (aN : List Block_) (aG).toNat [sV aR aS aA.phis.length aT, aP, nV aA.jump, nV aA.on, aQ], ow [.slice aJ aC.length aK] aC] := hm
      refine tAn rfl (tE ?_)
      replace hm : Mem w0 hz _ [ow [aj] aB.args, ow [nV aB.to, ae] ((⟨aB.to, aI⟩ : Phi_) : Phi_), ow [aQ] aA.next_, ow [aP] aA.ins, holeE aR aS aA.phis.length aT (aA.phis : List Phi_) (aH).toNat [nV aB.to, ae], blk aL [aM] 123, blk bp0 [nV c_.params, nV c_.regs, sV aE aF c_.blocks.length aD] 49, holeE aE aF c_.blocks.length aD (aN : List Block_) (aG).toNat [sV aR aS aA.phis.length aT, aP, nV aA.jump, nV aA.on, aQ], ow [.slice aJ aC.length aK] aC] := mk_Phi_ aB.to hm 1 rfl
      replace hm := (hm.shutE (y := ((⟨aB.to, aI⟩ : Phi_) : Phi_)) 4 1 (by decide) rfl rfl).pk (L' := [ow [aj] aB.args, ow [aQ] aA.next_, ow [aP] aA.ins, ow [sV aR aS aA.phis.length aT] (aA.phis.set (aH).toNat (⟨aB.to, aI⟩ : Phi_)), blk aL [aM] 123, blk bp0 [nV c_.params, nV c_.regs, sV aE aF c_.blocks.length aD] 49, holeE aE aF c_.blocks.length aD (aN : List Block_) (aG).toNat [sV aR aS aA.phis.length aT, aP, nV aA.jump, nV aA.on, aQ], ow [.slice aJ aC.length aK] aC]) [0, 2, 3, 4, 5, 6, 7, 8] rfl rfl
      have bl := List.getElem?_set_self (a := ((⟨aB.to, aI⟩ : Phi_) : Phi_)) (idx_lt ai)
      replace hm := (mk_Block_ aA.jump aA.on hm 3 2 1 rfl).pk (L' := [ow [aj] aB.args, ow [sV aR aS aA.phis.length aT, aP, nV aA.jump, nV aA.on, aQ] ((⟨(aA.phis.set (aH).toNat (⟨aB.to, aI⟩ : Phi_)), aA.ins, aA.jump, aA.on, aA.next_⟩ : Block_) : Block_), blk aL [aM] 123, blk bp0 [nV c_.params, nV c_.regs, sV aE aF c_.blocks.length aD] 49, holeE aE aF c_.blocks.length aD (aN : List Block_) (aG).toNat [sV aR aS aA.phis.length aT, aP, nV aA.jump, nV aA.on, aQ], ow [.slice aJ aC.length aK] aC]) [0, 3, 4, 5, 6, 7] rfl rfl
      replace hm := (hm.shutE (y := ((⟨(aA.phis.set (aH).toNat (⟨aB.to, aI⟩ : Phi_)), aA.ins, aA.jump, aA.on, aA.next_⟩ : Block_) : Block_)) 4 1 (by decide) rfl rfl).pk (L' := [ow [aj] aB.args, blk aL [aM] 123, blk bp0 [nV c_.params, nV c_.regs, sV aE aF c_.blocks.length aD] 49, ow [sV aE aF c_.blocks.length aD] (aN.set (aG).toNat (⟨(aA.phis.set (aH).toNat (⟨aB.to, aI⟩ : Phi_)), aA.ins, aA.jump, aA.on, aA.next_⟩ : Block_)), ow [.slice aJ aC.length aK] aC]) [0, 2, 3, 4, 5] rfl rfl
      have bm := List.getElem?_set_self (a := ((⟨(aA.phis.set (aH).toNat (⟨aB.to, aI⟩ : Phi_)), aA.ins, aA.jump, aA.on, aA.next_⟩ : Block_) : Block_)) (idx_lt aa)
      exact gz hm [2, 3, 4] rfl
     refine tO (tf rfl rfl (fun a hf => e_call hf rfl call114 rfl (impl_mapped_int_int_ok _ aC (.slice aJ aC.length aK) (hm.ow_rep 3 rfl) (fun y0 => impl_settle_1 y0 ah) (.func (.func 201) #[] #[(pV aL)]) (fun w y0 r hB hq => ⟨201, [(pV aL)], rfl, call201, impl_settle_1_ok w y0 ah aM (rep_later (hm.now ac) hB) aL (hm.blk_later 0 rfl hB) r hq⟩) _ bC)) ?_)
     rintro af w ⟨_, rfl, hB⟩
     replace hm := hm.give hB; clear hB
     refine tAk hm [1, 2, 4] rfl fun hS => tO ?_
     obtain ⟨bo, aV, aW, hm⟩ := pin_Block_ hm 3 rfl aa
     refine tY rfl (yl isAgg60 ((hm.holeE_at 6 rfl).cell (j := 0) rfl) rfl) (tAn rfl ?_)
     obtain ⟨bO, ak⟩ := getI_some.1 bD
     obtain ⟨aX, aY, aZ, he⟩ := idx_form' (hm.ow_rep 2 rfl) ak
     subst he
     obtain ⟨bp, bq, br⟩ := rk_Phi_ (hm.ow_rep 2 rfl) ak
     refine tP rfl (fun w => yI st_60 bO (idx_lt ak) rfl) (tP rfl (fun w => yF fo_127_1 rfl) (tO ?_))
     obtain ⟨am, hm⟩ := pin_Phi_ hm 2 rfl ak
     have bF : ∀ u ∈ ([af] : List Value), u.oneCell' = true := (one_cons (rep_one (hm.ow_rep 4 rfl)) one_nil)
     refine tf0 rfl rfl (fun a hf => e_storeH (j := 1) (vs := [af]) 3 hf hm rfl rfl rfl sizeOf43 rfl rfl (cells_one (bF _ (List.mem_singleton.2 rfl))) bF rfl) ?_
     rintro _ w hm
     replace hm : Mem w0 hz _ [ow [am] aB.args, ow [aW] aA.next_, ow [aV] aA.ins, holeE aX aY aA.phis.length aZ (aA.phis : List Phi_) (aH).toNat [nV aB.to, af], ow [af] aI, blk aL [aM] 123, blk bp0 [nV c_.params, nV c_.regs, sV aE aF c_.blocks.length aD] 49, holeE aE aF c_.blocks.length aD (aN : List Block_) (aG).toNat [sV aX aY aA.phis.length aZ, aV, nV aA.jump, nV aA.on, aW], ow [.slice aJ aC.length aK] aC] := hm
     refine tAn rfl (tE ?_)
     replace hm : Mem w0 hz _ [ow [am] aB.args, ow [aW] aA.next_, ow [aV] aA.ins, holeE aX aY aA.phis.length aZ (aA.phis : List Phi_) (aH).toNat [nV aB.to, af], ow [nV aB.to, af] ((⟨aB.to, aI⟩ : Phi_) : Phi_), blk aL [aM] 123, blk bp0 [nV c_.params, nV c_.regs, sV aE aF c_.blocks.length aD] 49, holeE aE aF c_.blocks.length aD (aN : List Block_) (aG).toNat [sV aX aY aA.phis.length aZ, aV, nV aA.jump, nV aA.on, aW], ow [.slice aJ aC.length aK] aC] := mk_Phi_ aB.to hm 4 rfl
     replace hm := (hm.shutE (y := ((⟨aB.to, aI⟩ : Phi_) : Phi_)) 3 4 (by decide) rfl rfl).pk (L' := [ow [am] aB.args, ow [aW] aA.next_, ow [aV] aA.ins, ow [sV aX aY aA.phis.length aZ] (aA.phis.set (aH).toNat (⟨aB.to, aI⟩ : Phi_)), blk aL [aM] 123, blk bp0 [nV c_.params, nV c_.regs, sV aE aF c_.blocks.length aD] 49, holeE aE aF c_.blocks.length aD (aN : List Block_) (aG).toNat [sV aX aY aA.phis.length aZ, aV, nV aA.jump, nV aA.on, aW], ow [.slice aJ aC.length aK] aC]) [0, 1, 2, 3, 5, 6, 7, 8] rfl rfl
     have bt := List.getElem?_set_self (a := ((⟨aB.to, aI⟩ : Phi_) : Phi_)) (idx_lt ak)
     replace hm := (mk_Block_ aA.jump aA.on hm 3 2 1 rfl).pk (L' := [ow [am] aB.args, ow [sV aX aY aA.phis.length aZ, aV, nV aA.jump, nV aA.on, aW] ((⟨(aA.phis.set (aH).toNat (⟨aB.to, aI⟩ : Phi_)), aA.ins, aA.jump, aA.on, aA.next_⟩ : Block_) : Block_), blk aL [aM] 123, blk bp0 [nV c_.params, nV c_.regs, sV aE aF c_.blocks.length aD] 49, holeE aE aF c_.blocks.length aD (aN : List Block_) (aG).toNat [sV aX aY aA.phis.length aZ, aV, nV aA.jump, nV aA.on, aW], ow [.slice aJ aC.length aK] aC]) [0, 3, 4, 5, 6, 7] rfl rfl
     replace hm := (hm.shutE (y := ((⟨(aA.phis.set (aH).toNat (⟨aB.to, aI⟩ : Phi_)), aA.ins, aA.jump, aA.on, aA.next_⟩ : Block_) : Block_)) 4 1 (by decide) rfl rfl).pk (L' := [ow [am] aB.args, blk aL [aM] 123, blk bp0 [nV c_.params, nV c_.regs, sV aE aF c_.blocks.length aD] 49, ow [sV aE aF c_.blocks.length aD] (aN.set (aG).toNat (⟨(aA.phis.set (aH).toNat (⟨aB.to, aI⟩ : Phi_)), aA.ins, aA.jump, aA.on, aA.next_⟩ : Block_)), ow [.slice aJ aC.length aK] aC]) [0, 2, 3, 4, 5] rfl rfl
     have bu := List.getElem?_set_self (a := ((⟨(aA.phis.set (aH).toNat (⟨aB.to, aI⟩ : Phi_)), aA.ins, aA.jump, aA.on, aA.next_⟩ : Block_) : Block_)) (idx_lt aa)
     exact gz hm [2, 3, 4] rfl
    repeat clear hm
    intro ao w hm
    exact gR (gP (by omega) (by omega) rfl (gM rfl (gE (gze hm [0, 1, 2] rfl))))
   repeat clear hm
   intro bv bw w hm bx bz
   exact gS (gR (gB rfl (gE (gS (go _ 27 rfl (decide_eq_false (by omega)) (gcf rfl (gXt (gHh (gR (gP (by omega) (by omega) rfl (gM rfl (gE (gze hm [0, 1] rfl)))))))))))))
  repeat clear hm
  intro cA cB w hm cC cD
  exact gS (gR (gB rfl (gE (gS (go _ 14 rfl (decide_eq_false (by omega)) (gcf rfl (gXt (gHh (gre results120 ⟨.slice aO c_.blocks.length aD, rfl, hm.pk [0, 1] rfl rfl⟩)))))))))
theorem impl_picked_ok (w0 : World) (c_ : Code_) (v1 : Value) (h1 : GT.rep (hp w0) [v1] c_.blocks) (order : List Int) (v2 : Value) (h2 : GT.rep (hp w0) [v2] order) :
    ConM Tryz.prog 199 [(.agg #[nV c_.params, nV c_.regs, v1]), v2] w0 (impl_picked c_ order) fun r v w' => ∃ (x1 : Value), v = (.agg #[nV r.params, nV r.regs, x1]) ∧ Mem w0 (hp w0) w' [ow [x1] r.blocks] := by
  unfold impl_picked
  refine gcon func199 rfl fun r => ?_
  have hm := Mem.start w0
  refine gS (gR (gBx hm rfl fun aK w hm => gAl hm zeroValue49 rfl fun aL w hm => gE (gS (gR (gf rfl (fun a hf => e_mkM (β := Int) hm rfl) ?_)))))
  rintro aM w hm
  refine gA rfl (gE (gS (gS (gR (gM rfl ?_)))))
  obtain ⟨bR, ag, rfl, ca⟩ := ro_slice h2
  refine gY (yV st_43 rfl) (gM rfl (gE (gBk (gNf hm (fun bJ bS => [(1, (.slice bR order.length ag)), (2, (pV aK)), (4, (pV aL)), (5, aM), (24, (.slice bR order.length ag)), (25, (nV ((order.length : Int)))), (26, (nV bJ))]) (fun bJ bS => [blk aK [nV c_.params, nV c_.regs, v1] 49, blk aL [nV 0, nV 0, .slice none 0 0] 49, owm aM bS]) [2, 1, 0] rfl ?_ ?_))))
  ·repeat clear hm
   intro _ _ bJ bS w hm cb cc cd _
   refine gS (gR (gB rfl (gE (gS (go _ 27 rfl (decide_eq_true (by omega)) (gct rfl (gSk (gS (gBk (gS (gR (gM rfl (gg fun bi bw bT => ?_)))))))))))))
   obtain ⟨ce, cf, cg, he⟩ := idx_form h2 bT
   obtain ⟨rfl, _, rfl⟩ := sl3 he
   refine gI st_43 bw (idx_lt bT) rfl (gY (yl isAgg3 ((flat_cells (cs := [nV bi]) (hm.now h2) bT rfl).cell (j := 0) rfl) rfl) (gA rfl (gA rfl (gE (gR (gM rfl (gM rfl (gM rfl (gf0 rfl (fun a hf => e_insM (β := Int) (key := bi) (u := bJ) (b := false) 2 underlying3 underlying123 hf hm rfl rfl rfl rfl rfl) ?_)))))))))
   rintro _ w hm
   exact gE (gR (gP (by omega) (by omega) rfl (gM rfl (gE (gze hm [0, 1, 2] rfl)))))
  repeat clear hm
  intro ci aQ w hm cj cl
  refine gS (gR (gB rfl (gE (gS (go _ 27 rfl (decide_eq_false (by omega)) (gcf rfl (gXt (gHh (gS (gR (gY (yn (hm.blk_at 0 rfl) isAgg49 sizeOf49 rfl) (gCg rfl call108 (impl_phisOf_ok _ c_ v1 (hm.now h1)) ?_))))))))))))
  rintro am cm bU w ⟨_, rfl, hB⟩
  replace hm := hm.give hB; clear hB
  refine gA rfl (gE (gS (gR (gF fo_49_0 rfl (gL hm 1 isAgg3 rfl (gF fo_49_1 rfl (gL hm 1 isAgg3 rfl (gY (yG rfl (y_build (vs := [(0, (nV c_.params)), (1, (nV c_.regs))]) (cs := #[nV c_.params, nV c_.regs, .slice none 0 0]) rfl rfl (by kernel_rfl))) (gAl hm zeroValue49 rfl fun aO w hm => gSN hm 0 sizeOf49 (one_cons rfl (one_cons rfl (one_cons rfl one_nil))) rfl fun w hm => gE (gS (gR (gM rfl (gY (yV st_43 rfl) (gb fun aN bx => ?_))))))))))))))
  obtain ⟨⟨bz, cA⟩, bj⟩ := makeM_some.1 bx
  refine gf rfl (fun a hf => e_make (x0 := ([] : List (MapS Int))) et_116 (fun _ => (own_list.2 (.inl ⟨rfl, rfl⟩))) hf hm rfl rfl rfl bz (Int.le_refl _) cA) ?_
  rintro cB w hm
  rw [bj] at hm
  have h0_1l : (aN.length : Int) = (order.length : Int) := by rw [← bj]; simp only [List.length_replicate]; omega
  refine gA rfl (gE (gS (gS (gR (gM rfl (gY (yV st_43 rfl) (gM rfl (gE ?_))))))))
  obtain ⟨aa, an, hz_r0_1, hmf⟩ := hm.freeze 2 rfl
  replace hm := hmf.pk (L' := [ow [cB] aN, blk aO [nV c_.params, nV c_.regs, .slice none 0 0] 49, blk aK [nV c_.params, nV c_.regs, v1] 49, blk aL [nV 0, nV 0, .slice none 0 0] 49, owm aM aQ]) [0, 1, 3, 4, 5] rfl rfl
  clear hmf
  replace hz_r0_1 : GT.rep aa [bU] am := fz_ow hz_r0_1
  obtain ⟨aT, aP, rfl, cn⟩ := ro_slice (hm.ow_rep 0 rfl)
  refine gBk ?_
  replace hm := hm.nilow (α := Block_)
  refine gNg (fun aS aB a w => ∃ (bV : Value), St 122 [(2, (pV aK)), (4, (pV aL)), (5, aM), (8, bU), (9, (pV aO)), (10, (.slice aT aN.length aP)), (45, (.slice bR order.length ag)), (46, (nV ((order.length : Int)))), (47, (nV aS))] w0 aa [blk aK [nV c_.params, nV c_.regs, v1] 49, blk aL [nV 0, nV 0, .slice none 0 0] 49, owm aM aQ, blk aO [nV c_.params, nV c_.regs, bV] 49, ow [bV] aB.1, ow [.slice aT aN.length aP] aB.2] a w) (fun a hf => ⟨.slice none 0 0, hf.sb rfl, hm.pk [3, 4, 5, 2, 0, 1] rfl rfl⟩) ?_ ?_
  ·repeat clear hm
   rintro _ _ aS aB a w ⟨bV, hf, hm⟩ co cq cr _
   refine gv hf (gS (gR (gB rfl (gE (gS (go _ 48 rfl (decide_eq_true (by omega)) (gct rfl (gSk (gS (gBk (gS (gR (gM rfl (gg fun bW cC bX => ?_))))))))))))))
   obtain ⟨ao, ap, ct, he⟩ := idx_form h2 bX
   obtain ⟨rfl, _, rfl⟩ := sl3 he
   refine gI st_43 cC (idx_lt bX) rfl (gY (yl isAgg3 ((flat_cells (cs := [nV bW]) (hm.now (GT.mono an h2)) bX rfl).cell (j := 0) rfl) rfl) (gA rfl (gA rfl (gE (gS (gR (gF fo_49_2 rfl (gL hm 0 isAgg47 rfl (gM rfl (gg fun cD cE bY => ?_))))))))))
   obtain ⟨aV, aW, aX, he⟩ := idx_form' h1 bY
   subst he
   obtain ⟨cF, cG, cH, cI, cJ, cK, cL⟩ := rk_Block_ h1 bY
   refine gI st_47 cE (idx_lt bY) rfl (gY (yn (cI.mono (Heap.le_trans an hm.lez)) isAgg63 sizeOf63 rfl) (gCg rfl call162 (impl_cloneBlock_ok _ cD cF (hm.now (GT.mono an cJ)) cG (hm.now (GT.mono an cK)) cH (hm.now (GT.mono an cL))) ?_))
   rintro aA cu cv w ⟨cw, cx, cy, rfl, hB⟩
   replace hm := hm.give hB; clear hB
   refine gAl hm zeroValue63 rfl fun aR w hm => gSN hm 0 sizeOf63 (one_cons (rep_one (hm.ow_rep 1 rfl)) (one_cons (rep_one (hm.ow_rep 2 rfl)) (one_cons rfl (one_cons rfl (one_cons (rep_one (hm.ow_rep 3 rfl)) one_nil))))) rfl fun w hm => gE (gS (gS (gR (gF fo_63_4 rfl (gL hm 0 isAgg43 rfl ?_)))))
   obtain ⟨aC, aD, rfl, cz⟩ := ro_slice (hm.ow_rep 3 rfl)
   refine gY (yV st_43 rfl) (gM rfl (gE ?_))
   obtain ⟨aI, aJ, rfl, dA⟩ := ro_slice (hm.ow_rep 8 rfl)
   obtain ⟨aE, aF, rfl, dB⟩ := ro_slice (hm.ow_rep 1 rfl)
   obtain ⟨aG, aH, rfl, dC⟩ := ro_slice (hm.ow_rep 2 rfl)
   refine gBk (gNf hm (fun bZ b8 => [(2, (pV aK)), (4, (pV aL)), (5, aM), (8, bU), (9, (pV aO)), (10, (.slice aT aN.length aP)), (11, (nV aS)), (12, (nV bW)), (13, (pV aR)), (45, (sV ao ap order.length ag)), (46, (nV ((order.length : Int)))), (47, (nV aS)), (59, (.slice aC aA.next_.length aD)), (60, (nV ((aA.next_.length : Int)))), (61, (nV bZ))]) (fun bZ b8 => [blk aK [nV c_.params, nV c_.regs, sV aV aW c_.blocks.length aX] 49, blk aL [nV 0, nV 0, .slice none 0 0] 49, owm aM aQ, blk aO [nV c_.params, nV c_.regs, .slice aI aB.1.length aJ] 49, ow [.slice aI aB.1.length aJ] aB.1, ow [.slice aT aN.length aP] aB.2, blk aR [.slice aE aA.phis.length aF, .slice aG aA.ins.length aH, nV aA.jump, nV aA.on, .slice aC aA.next_.length aD] 63, ow [.slice aE aA.phis.length aF] aA.phis, ow [.slice aG aA.ins.length aH] aA.ins, ow [.slice aC aA.next_.length aD] b8]) [4, 5, 6, 7, 8, 9, 0, 1, 2, 3] rfl ?_ ?_)
   ·repeat clear hm
    intro _ _ bZ b8 w hm dD dE dF _
    refine gS (gR (gB rfl (gE (gS (go _ 62 rfl (decide_eq_true (by omega)) (gct rfl (gSk (gS (gBk (gS (gR (gM rfl (gg fun az bk aq => ?_)))))))))))))
    obtain ⟨dG, dH, dI, he⟩ := idx_form (hm.ow_rep 9 rfl) aq
    obtain ⟨rfl, _, rfl⟩ := sl3 he
    have hL2_1 := rep_slice_len (hm.ow_rep 9 rfl)
    refine gI st_43 bk (idx_lt2 aq hL2_1) rfl (gY (yl isAgg3 ((flat_cells (cs := [nV az]) (hm.ow_rep 9 rfl) aq rfl).cell (j := 0) rfl) rfl) (gA rfl (gA rfl (gE (gR (gF fo_63_4 rfl (gL hm 6 isAgg43 rfl (gM rfl (gM rfl (gM rfl (gY (yG rfl (y_lookI (key := az) (m := (aQ : MapS Int)) underlying3 underlying123 zeroValue3 (hm.owm_rep 2 rfl) rfl rfl rfl)) ?_)))))))))))
    have hL2_2 := rep_slice_len (hm.ow_rep 9 rfl)
    refine gI st_43 bk (idx_lt2 aq hL2_2) rfl (gf0 rfl (fun a hf => e_setElem (x1 := ((MapS.get aQ az).getD 0)) (j := 0) (vs := [nV (((MapS.get aQ az).getD 0))]) 9 hf hm rfl aq rfl sizeOf3 rfl rfl rfl (one_cons rfl one_nil) rfl rfl) ?_)
    rintro _ w hm
    have dJ := List.getElem?_set_self (a := ((MapS.get aQ az).getD 0)) (idx_lt aq)
    exact gE (gR (gP (by omega) (by omega) rfl (gM rfl (gE (gze hm [0, 1, 2, 3, 4, 5, 6, 7, 8, 9] rfl)))))
   repeat clear hm
   intro dK aY w hm dL dM
   refine gS (gR (gB rfl (gE (gS (go _ 62 rfl (decide_eq_false (by omega)) (gcf rfl (gXt (gHh (gS (gS (gR (gM rfl (gM rfl (gg fun ac cM b9 => ?_))))))))))))))
   obtain ⟨ar, au, bA, he⟩ := idx_form' hz_r0_1 b9
   subst he
   obtain ⟨_, _, ba, cN⟩ := ro_get' hz_r0_1 b9
   have av := cN
   obtain ⟨bl, rfl, -⟩ := id av
   replace av : GT.rep aa [bl] ac := av
   replace ba : CellsAt aa ar (au + (bW).toNat * 1) [bl] := ba
   refine gI st_116 cM (idx_lt b9) rfl (gY (yl isAgg122 ((ba.mono hm.lez).cell (j := 0) rfl) rfl) ?_)
   obtain ⟨cO, bB, rfl, dN⟩ := ro_slice av
   refine gY (yV st_122 rfl) (gM rfl (gE (gBk (gNf hm (fun ah aZ => [(2, (pV aK)), (4, (pV aL)), (5, aM), (8, (sV ar au am.length bA)), (9, (pV aO)), (10, (.slice aT aN.length aP)), (11, (nV aS)), (13, (pV aR)), (45, (sV ao ap order.length ag)), (46, (nV ((order.length : Int)))), (47, (nV aS)), (77, (.slice cO ac.length bB)), (78, (nV ((ac.length : Int)))), (79, (nV ah))]) (fun ah aZ => [blk aK [nV c_.params, nV c_.regs, sV aV aW c_.blocks.length aX] 49, blk aL [nV 0, nV 0, .slice none 0 0] 49, owm aM aQ, blk aO [nV c_.params, nV c_.regs, .slice aI aB.1.length aJ] 49, ow [.slice aI aB.1.length aJ] aB.1, ow [.slice aT aN.length aP] aZ, blk aR [.slice aE aA.phis.length aF, .slice aG aA.ins.length aH, nV aA.jump, nV aA.on, .slice aC aA.next_.length aD] 63, ow [.slice aE aA.phis.length aF] aA.phis, ow [.slice aG aA.ins.length aH] aA.ins, ow [.slice aC aA.next_.length aD] aY]) [0, 1, 2, 3, 4, 5, 6, 7, 8, 9] rfl ?_ ?_))))
   ·repeat clear hm
    intro _ _ ah aZ w hm dO dP dQ _
    refine gS (gR (gB rfl (gE (gS (go _ 80 rfl (decide_eq_true (by omega)) (gct rfl (gSk (gS (gBk (gS (gR (gg fun bb cP bc => ?_))))))))))))
    obtain ⟨bC, bD, dR, he⟩ := idx_form' av bc
    obtain ⟨rfl, _, rfl⟩ := sl3 he
    obtain ⟨_, _, bd, cQ⟩ := ro_get' av bc
    have bE := cQ
    obtain ⟨bF, rfl, -⟩ := id bE
    replace bE : GT.rep aa [bF] bb := bE
    replace bd : CellsAt aa bC (bD + (ah).toNat * 1) [bF] := bd
    refine gI st_122 cP (idx_lt bc) rfl (gY (yl isAgg123 ((bd.mono hm.lez).cell (j := 0) rfl) rfl) (gA rfl (gE (gS (gR (gf rfl (fun a hf => e_mkM (β := Int) hm rfl) ?_))))))
    rintro af w hm
    refine gA rfl (gE (gS (gS (gR (gM rfl (gf rfl (fun a hf => e_rangeS (m := (bb : MapS Int)) hf hm underlying123 bE rfl rfl) ?_))))))
    rintro _ w ⟨aw, rfl, hm⟩
    refine gE (gJ hm (fun ab => [(2, (pV aK)), (4, (pV aL)), (5, aM), (8, (sV ar au am.length bA)), (9, (pV aO)), (10, (.slice aT aN.length aP)), (11, (nV aS)), (13, (pV aR)), (18, af), (45, (sV ao ap order.length ag)), (46, (nV ((order.length : Int)))), (47, (nV aS)), (77, (sV bC bD ac.length bB)), (78, (nV ((ac.length : Int)))), (79, (nV ah))]) (fun ab => [blk aK [nV c_.params, nV c_.regs, sV aV aW c_.blocks.length aX] 49, blk aL [nV 0, nV 0, .slice none 0 0] 49, owm aM aQ, blk aO [nV c_.params, nV c_.regs, .slice aI aB.1.length aJ] 49, ow [.slice aI aB.1.length aJ] aB.1, ow [.slice aT aN.length aP] aZ, blk aR [.slice aE aA.phis.length aF, .slice aG aA.ins.length aH, nV aA.jump, nV aA.on, .slice aC aA.next_.length aD] 63, ow [.slice aE aA.phis.length aF] aA.phis, ow [.slice aG aA.ins.length aH] aA.ins, ow [.slice aC aA.next_.length aD] aY, owm af ab]) (fun ab => ?_) ?_)
    ·refine gBk (gb fun _ cR => gRngOn (m := (bb : MapS Int)) (comm_injv (guardN_some cR) (fun x => x) (fun p s => by first | (dsimp only; split <;> rfl) | (split <;> rfl))) bE (fun bK bm a w => St 122 [(2, (pV aK)), (4, (pV aL)), (5, aM), (8, (sV ar au am.length bA)), (9, (pV aO)), (10, (.slice aT aN.length aP)), (11, (nV aS)), (13, (pV aR)), (18, af), (45, (sV ao ap order.length ag)), (46, (nV ((order.length : Int)))), (47, (nV aS)), (77, (sV bC bD ac.length bB)), (78, (nV ((ac.length : Int)))), (79, (nV ah)), (85, (pV aw))] w0 aa [blk aK [nV c_.params, nV c_.regs, sV aV aW c_.blocks.length aX] 49, blk aL [nV 0, nV 0, .slice none 0 0] 49, owm aM aQ, blk aO [nV c_.params, nV c_.regs, .slice aI aB.1.length aJ] 49, ow [.slice aI aB.1.length aJ] aB.1, ow [.slice aT aN.length aP] aZ, blk aR [.slice aE aA.phis.length aF, .slice aG aA.ins.length aH, nV aA.jump, nV aA.on, .slice aC aA.next_.length aD] 63, ow [.slice aE aA.phis.length aF] aA.phis, ow [.slice aG aA.ins.length aH] aA.ins, ow [.slice aC aA.next_.length aD] aY, owm af bm, itc aa bF aw bK] a w) (fun a hf => ⟨hf.sb rfl, hm.pk [2, 3, 4, 5, 6, 7, 8, 9, 10, 11, 1, 0] rfl rfl⟩) ?_ ?_)
     ·repeat clear hm
      rintro bK bm a w ⟨hf, hm⟩ hmo
      refine gv (m := some ()) (r := ()) hf ?_ rfl
      refine gS (gR (gf rfl (fun a hf => e_nextS 11 hf hm rfl hmo rfl rfl) ?_))
      rintro _ w ⟨bo, be, dS, rfl, bp, bq, hm⟩
      refine gSw bp (gX rfl (gE (gS (gct rfl (gSk (gJ hm (fun bL => [(2, (pV aK)), (4, (pV aL)), (5, aM), (8, (sV ar au am.length bA)), (9, (pV aO)), (10, (.slice aT aN.length aP)), (11, (nV aS)), (13, (pV aR)), (18, af), (45, (sV ao ap order.length ag)), (46, (nV ((order.length : Int)))), (47, (nV aS)), (77, (sV bC bD ac.length bB)), (78, (nV ((ac.length : Int)))), (79, (nV ah)), (85, (pV aw))]) (fun bL => [blk aK [nV c_.params, nV c_.regs, sV aV aW c_.blocks.length aX] 49, blk aL [nV 0, nV 0, .slice none 0 0] 49, owm aM aQ, blk aO [nV c_.params, nV c_.regs, .slice aI aB.1.length aJ] 49, ow [.slice aI aB.1.length aJ] aB.1, ow [.slice aT aN.length aP] aZ, blk aR [.slice aE aA.phis.length aF, .slice aG aA.ins.length aH, nV aA.jump, nV aA.on, .slice aC aA.next_.length aD] 63, ow [.slice aE aA.phis.length aF] aA.phis, ow [.slice aG aA.ins.length aH] aA.ins, ow [.slice aC aA.next_.length aD] aY, owm af bL, itc aa bF aw (Array.push bK bo)]) (fun bL => ?_) ?_))))))
      ·refine gBk (gS (gR (gY (yG rfl (y_entryS 11 hm rfl bq rfl rfl)) (gX rfl (gX rfl (gA rfl (gA rfl (gE (gS (gR (gM rfl (gM rfl (gY (yG rfl (y_lookI2 (key := be.1) (m := (aQ : MapS Int)) underlying3 underlying123 zeroValue3 (hm.owm_rep 2 rfl) rfl rfl rfl)) (gM rfl (gX rfl (gX rfl (gA rfl (gA rfl (gE (gS (gR (gM rfl (gE (gJ hm (fun bM => [(2, (pV aK)), (4, (pV aL)), (5, aM), (8, (sV ar au am.length bA)), (9, (pV aO)), (10, (.slice aT aN.length aP)), (11, (nV aS)), (13, (pV aR)), (18, af), (45, (sV ao ap order.length ag)), (46, (nV ((order.length : Int)))), (47, (nV aS)), (77, (sV bC bD ac.length bB)), (78, (nV ((ac.length : Int)))), (79, (nV ah)), (85, (pV aw))]) (fun bM => [blk aK [nV c_.params, nV c_.regs, sV aV aW c_.blocks.length aX] 49, blk aL [nV 0, nV 0, .slice none 0 0] 49, owm aM aQ, blk aO [nV c_.params, nV c_.regs, .slice aI aB.1.length aJ] 49, ow [.slice aI aB.1.length aJ] aB.1, ow [.slice aT aN.length aP] aZ, blk aR [.slice aE aA.phis.length aF, .slice aG aA.ins.length aH, nV aA.jump, nV aA.on, .slice aC aA.next_.length aD] 63, ow [.slice aE aA.phis.length aF] aA.phis, ow [.slice aG aA.ins.length aH] aA.ins, ow [.slice aC aA.next_.length aD] aY, owm af bM, itc aa bF aw (Array.push bK bo)]) (fun bM => ?_) ?_))))))))))))))))))))))))
       ·refine gs 97 rfl (fun cS => ?_) fun cS => ?_
        ·refine gct rfl (gR (gM rfl (gM rfl (gM rfl (gf0 rfl (fun a hf => e_insM (β := Int) (key := ((MapS.get aQ be.1).getD 0)) (u := be.2) (b := false) 10 underlying3 underlying123 hf hm rfl rfl rfl rfl rfl) ?_)))))
         rintro _ w hm
         exact gE (gz hm [0, 1, 2, 3, 4, 5, 6, 7, 8, 9, 10, 11] rfl)
        exact gcf rfl (gSk (gz hm [0, 1, 2, 3, 4, 5, 6, 7, 8, 9, 10, 11] rfl))
       repeat clear hm
       intro bM w hm
       exact gz hm [0, 1, 2, 3, 4, 5, 6, 7, 8, 9, 10, 11] rfl
      repeat clear hm
      intro bL w hm
      exact gZr bq bp fun a hf => ⟨hf.sb rfl, hm.pk [0, 1, 2, 3, 4, 5, 6, 7, 8, 9, 10, 11] rfl rfl⟩
     repeat clear hm
     rintro dT dU a w ⟨hf, hm⟩ hno hk
     refine gv hf ?_ hk
     exact gS (gR (gY (yG rfl (y_nextE 11 hm rfl hno rfl rfl)) (gX rfl (gE (gS (gcf rfl (gXt (gHh (gz hm [0, 1, 2, 3, 4, 5, 6, 7, 8, 9, 10] rfl)))))))))
    repeat clear hm
    intro ab w hm
    refine gR (gM rfl (gM rfl (gM rfl (gM rfl (gg fun ai br ax => ?_)))))
    obtain ⟨aj, ak, dV, he⟩ := idx_form' (hm.ow_rep 5 rfl) ax
    obtain ⟨rfl, _, rfl⟩ := sl3 he
    obtain ⟨_, _, bt, cT⟩ := ro_get' (hm.ow_rep 5 rfl) ax
    have bf := cT
    obtain ⟨bu, rfl, -⟩ := id bf
    replace bf : GT.rep (hp _) [bu] ai := bf
    replace bt : CellsAt (hp _) aj (ak + (aS).toNat * 1) [bu] := bt
    have hL2_3 := rep_slice_len (hm.ow_rep 5 rfl)
    refine gI st_116 br (idx_lt2 ax hL2_3) rfl ?_
    obtain ⟨_, cU, hm⟩ := hm.openE 5 rfl ax
    have cV := hm.ow_rep 0 rfl
    have bN := cV
    obtain ⟨ae, rfl, -⟩ := id bN
    replace bN : GT.rep (hp _) [ae] ai := bN
    clear cU bN
    replace hm : Mem w0 aa _ [ow [ae] (ai : List (MapS Int)), blk aK [nV c_.params, nV c_.regs, sV aV aW c_.blocks.length aX] 49, blk aL [nV 0, nV 0, .slice none 0 0] 49, owm aM aQ, blk aO [nV c_.params, nV c_.regs, .slice aI aB.1.length aJ] 49, ow [.slice aI aB.1.length aJ] aB.1, holeE aj ak aN.length aP (aZ : List (List (MapS Int))) (aS).toNat [ae], blk aR [.slice aE aA.phis.length aF, .slice aG aA.ins.length aH, nV aA.jump, nV aA.on, .slice aC aA.next_.length aD] 63, ow [.slice aE aA.phis.length aF] aA.phis, ow [.slice aG aA.ins.length aH] aA.ins, ow [.slice aC aA.next_.length aD] aY, owm af ab] := hm
    replace hm := hm.pk (L' := [ow [ae] ai, blk aK [nV c_.params, nV c_.regs, sV aV aW c_.blocks.length aX] 49, blk aL [nV 0, nV 0, .slice none 0 0] 49, owm aM aQ, blk aO [nV c_.params, nV c_.regs, .slice aI aB.1.length aJ] 49, ow [.slice aI aB.1.length aJ] aB.1, holeE aj ak aN.length aP (aZ : List (List (MapS Int))) (aS).toNat [ae], blk aR [.slice aE aA.phis.length aF, .slice aG aA.ins.length aH, nV aA.jump, nV aA.on, .slice aC aA.next_.length aD] 63, ow [.slice aE aA.phis.length aF] aA.phis, ow [.slice aG aA.ins.length aH] aA.ins, ow [.slice aC aA.next_.length aD] aY, owm af ab]) [0, 1, 2, 3, 4, 5, 6, 7, 8, 9, 10, 11] rfl rfl
    refine gY (yl isAgg122 ((hm.holeE_at 6 rfl).cell (j := 0) rfl) rfl) (gM rfl ?_)
    obtain ⟨ay, he⟩ := owm_form hm 11 rfl
    subst he
    refine gf rfl (fun a hf => e_build (vs := #[(0, (.map (some ay)))]) (cs := [(.map (some ay))]) et_122 hf hm rfl rfl (by kernel_rfl) rfl rfl) ?_
    rintro _ w ⟨bg, rfl, hm⟩
    replace hm := hm.els_nil (α := MapS Int)
    have dW := owm_cells hm 13 rfl
    replace hm := hm.imp (c' := ow [(.map (some ay))] (ab : MapS Int)) 13 rfl (fun F h0 => own_owm h0)
    replace hm := hm.imp (c' := ow [(.map (some ay))] (ab : MapS Int)) 13 rfl (fun F h0 => h0)
    replace hm := (hm.els_cons 0 13 (by decide) rfl rfl).pk (L' := [els [(.map (some ay))] ([ab] : List (MapS Int)), blk bg [(.map (some ay))] 123, ow [ae] ai, blk aK [nV c_.params, nV c_.regs, sV aV aW c_.blocks.length aX] 49, blk aL [nV 0, nV 0, .slice none 0 0] 49, owm aM aQ, blk aO [nV c_.params, nV c_.regs, .slice aI aB.1.length aJ] 49, ow [.slice aI aB.1.length aJ] aB.1, holeE aj ak aN.length aP (aZ : List (List (MapS Int))) (aS).toNat [ae], blk aR [.slice aE aA.phis.length aF, .slice aG aA.ins.length aH, nV aA.jump, nV aA.on, .slice aC aA.next_.length aD] 63, ow [.slice aE aA.phis.length aF] aA.phis, ow [.slice aG aA.ins.length aH] aA.ins, ow [.slice aC aA.next_.length aD] aY]) [0, 1, 2, 3, 4, 5, 6, 7, 8, 9, 10, 11, 12] rfl rfl
    replace hm := (hm.lit_els 1 0 (by decide) rfl rfl rfl rfl).pk (L' := [ow [sV bg 0 1 1] ([ab] : List (MapS Int)), ow [ae] ai, blk aK [nV c_.params, nV c_.regs, sV aV aW c_.blocks.length aX] 49, blk aL [nV 0, nV 0, .slice none 0 0] 49, owm aM aQ, blk aO [nV c_.params, nV c_.regs, .slice aI aB.1.length aJ] 49, ow [.slice aI aB.1.length aJ] aB.1, holeE aj ak aN.length aP (aZ : List (List (MapS Int))) (aS).toNat [ae], blk aR [.slice aE aA.phis.length aF, .slice aG aA.ins.length aH, nV aA.jump, nV aA.on, .slice aC aA.next_.length aD] 63, ow [.slice aE aA.phis.length aF] aA.phis, ow [.slice aG aA.ins.length aH] aA.ins, ow [.slice aC aA.next_.length aD] aY]) [1, 2, 3, 4, 5, 6, 7, 8, 9, 10, 11, 12] rfl rfl
    refine gb fun bG cW => ?_
    obtain ⟨cX, cY⟩ := appM_some.1 cW
    replace hm := (hm.both 1 0 (by decide) rfl rfl).pk (L' := [both (ow [ae] ai) (ow [sV bg 0 1 1] ([ab] : List (MapS Int))), blk aK [nV c_.params, nV c_.regs, sV aV aW c_.blocks.length aX] 49, blk aL [nV 0, nV 0, .slice none 0 0] 49, owm aM aQ, blk aO [nV c_.params, nV c_.regs, .slice aI aB.1.length aJ] 49, ow [.slice aI aB.1.length aJ] aB.1, holeE aj ak aN.length aP (aZ : List (List (MapS Int))) (aS).toNat [ae], blk aR [.slice aE aA.phis.length aF, .slice aG aA.ins.length aH, nV aA.jump, nV aA.on, .slice aC aA.next_.length aD] 63, ow [.slice aE aA.phis.length aF] aA.phis, ow [.slice aG aA.ins.length aH] aA.ins, ow [.slice aC aA.next_.length aD] aY]) [1, 2, 3, 4, 5, 6, 7, 8, 9, 10, 11] rfl rfl
    refine gf rfl (fun a hf => e_appendD (xs := ai) (ys := ([ab] : List (MapS Int))) 0 et_122 hf hm rfl rfl rfl rfl cX) ?_
    rintro bH w hm
    rw [cY] at hm
    have hL2_4 := hm.holeE_len 6 rfl
    refine gI st_116 br (idx_lt2 ax hL2_4) rfl ?_
    have bv : ∀ u ∈ ([bH] : List Value), u.oneCell' = true := (one_cons (rep_one (hm.ow_rep 0 rfl)) one_nil)
    refine gf0 rfl (fun a hf => e_storeH (j := 0) (vs := [bH]) 6 hf hm rfl rfl rfl sizeOf122 rfl rfl (cells_one (bv _ (List.mem_singleton.2 rfl))) bv rfl) ?_
    rintro _ w hm
    replace hm : Mem w0 aa _ [ow [bH] bG, blk aK [nV c_.params, nV c_.regs, sV aV aW c_.blocks.length aX] 49, blk aL [nV 0, nV 0, .slice none 0 0] 49, owm aM aQ, blk aO [nV c_.params, nV c_.regs, .slice aI aB.1.length aJ] 49, ow [.slice aI aB.1.length aJ] aB.1, holeE aj ak aN.length aP (aZ : List (List (MapS Int))) (aS).toNat [bH], blk aR [.slice aE aA.phis.length aF, .slice aG aA.ins.length aH, nV aA.jump, nV aA.on, .slice aC aA.next_.length aD] 63, ow [.slice aE aA.phis.length aF] aA.phis, ow [.slice aG aA.ins.length aH] aA.ins, ow [.slice aC aA.next_.length aD] aY] := hm
    refine gE ?_
    replace hm := hm.imp (c' := ow [bH] (bG : List (MapS Int))) 0 rfl (fun F h0 => h0)
    replace hm := (hm.shutE (y := (bG : List (MapS Int))) 6 0 (by decide) rfl rfl).pk (L' := [blk aK [nV c_.params, nV c_.regs, sV aV aW c_.blocks.length aX] 49, blk aL [nV 0, nV 0, .slice none 0 0] 49, owm aM aQ, blk aO [nV c_.params, nV c_.regs, .slice aI aB.1.length aJ] 49, ow [.slice aI aB.1.length aJ] aB.1, ow [sV aj ak aN.length aP] (aZ.set (aS).toNat bG), blk aR [.slice aE aA.phis.length aF, .slice aG aA.ins.length aH, nV aA.jump, nV aA.on, .slice aC aA.next_.length aD] 63, ow [.slice aE aA.phis.length aF] aA.phis, ow [.slice aG aA.ins.length aH] aA.ins, ow [.slice aC aA.next_.length aD] aY]) [1, 2, 3, 4, 5, 6, 7, 8, 9, 10] rfl rfl
    have dX := List.getElem?_set_self (a := (bG : List (MapS Int))) (idx_lt ax)
    exact gR (gP (by omega) (by omega) rfl (gM rfl (gE (gze hm [0, 1, 2, 3, 4, 5, 6, 7, 8, 9] rfl))))
   repeat clear hm
   intro dY bO w hm dZ d7
   refine gS (gR (gB rfl (gE (gS (go _ 80 rfl (decide_eq_false (by omega)) (gcf rfl (gXt (gHh (gR (gF fo_49_2 rfl (gL hm 3 isAgg47 rfl (gY (yn (hm.blk_at 6 rfl) isAgg63 sizeOf63 rfl) (gf rfl (fun a hf => e_build (vs := #[(0, (.agg #[.slice aE aA.phis.length aF, .slice aG aA.ins.length aH, nV aA.jump, nV aA.on, .slice aC aA.next_.length aD]))]) (cs := [.slice aE aA.phis.length aF, .slice aG aA.ins.length aH, nV aA.jump, nV aA.on, .slice aC aA.next_.length aD]) et_47 hf hm rfl rfl (by kernel_rfl) rfl rfl) ?_)))))))))))))
   rintro _ w ⟨bP, rfl, hm⟩
   replace hm := hm.els_nil (α := Block_)
   replace hm := (mk_Block_ aA.jump aA.on hm 9 10 11 rfl).pk (L' := [els [] ([] : List Block_), blk bP [.slice aE aA.phis.length aF, .slice aG aA.ins.length aH, nV aA.jump, nV aA.on, .slice aC aA.next_.length aD] 63, blk aK [nV c_.params, nV c_.regs, sV aV aW c_.blocks.length aX] 49, blk aL [nV 0, nV 0, .slice none 0 0] 49, owm aM aQ, blk aO [nV c_.params, nV c_.regs, .slice aI aB.1.length aJ] 49, ow [.slice aI aB.1.length aJ] aB.1, ow [.slice aT aN.length aP] bO, blk aR [.slice aE aA.phis.length aF, .slice aG aA.ins.length aH, nV aA.jump, nV aA.on, .slice aC aA.next_.length aD] 63, ow [.slice aE aA.phis.length aF, .slice aG aA.ins.length aH, nV aA.jump, nV aA.on, .slice aC aA.next_.length aD] ((⟨aA.phis, aA.ins, aA.jump, aA.on, aY⟩ : Block_) : Block_)]) [0, 1, 2, 3, 4, 5, 6, 7, 8, 9] rfl rfl
   replace hm := (hm.els_cons 0 9 (by decide) rfl rfl).pk (L' := [els [.slice aE aA.phis.length aF, .slice aG aA.ins.length aH, nV aA.jump, nV aA.on, .slice aC aA.next_.length aD] ([(⟨aA.phis, aA.ins, aA.jump, aA.on, aY⟩ : Block_)] : List Block_), blk bP [.slice aE aA.phis.length aF, .slice aG aA.ins.length aH, nV aA.jump, nV aA.on, .slice aC aA.next_.length aD] 63, blk aK [nV c_.params, nV c_.regs, sV aV aW c_.blocks.length aX] 49, blk aL [nV 0, nV 0, .slice none 0 0] 49, owm aM aQ, blk aO [nV c_.params, nV c_.regs, .slice aI aB.1.length aJ] 49, ow [.slice aI aB.1.length aJ] aB.1, ow [.slice aT aN.length aP] bO, blk aR [.slice aE aA.phis.length aF, .slice aG aA.ins.length aH, nV aA.jump, nV aA.on, .slice aC aA.next_.length aD] 63]) [0, 1, 2, 3, 4, 5, 6, 7, 8] rfl rfl
   replace hm := (hm.lit_els 1 0 (by decide) rfl rfl rfl rfl).pk (L' := [ow [sV bP 0 1 1] ([(⟨aA.phis, aA.ins, aA.jump, aA.on, aY⟩ : Block_)] : List Block_), blk aK [nV c_.params, nV c_.regs, sV aV aW c_.blocks.length aX] 49, blk aL [nV 0, nV 0, .slice none 0 0] 49, owm aM aQ, blk aO [nV c_.params, nV c_.regs, .slice aI aB.1.length aJ] 49, ow [.slice aI aB.1.length aJ] aB.1, ow [.slice aT aN.length aP] bO, blk aR [.slice aE aA.phis.length aF, .slice aG aA.ins.length aH, nV aA.jump, nV aA.on, .slice aC aA.next_.length aD] 63]) [1, 2, 3, 4, 5, 6, 7, 8] rfl rfl
   refine gb fun d8 cZ => ?_
   obtain ⟨c4, c5⟩ := appM_some.1 cZ
   replace hm := (hm.both 5 0 (by decide) rfl rfl).pk (L' := [blk aK [nV c_.params, nV c_.regs, sV aV aW c_.blocks.length aX] 49, blk aL [nV 0, nV 0, .slice none 0 0] 49, owm aM aQ, blk aO [nV c_.params, nV c_.regs, .slice aI aB.1.length aJ] 49, both (ow [.slice aI aB.1.length aJ] aB.1) (ow [sV bP 0 1 1] ([(⟨aA.phis, aA.ins, aA.jump, aA.on, aY⟩ : Block_)] : List Block_)), ow [.slice aT aN.length aP] bO, blk aR [.slice aE aA.phis.length aF, .slice aG aA.ins.length aH, nV aA.jump, nV aA.on, .slice aC aA.next_.length aD] 63]) [1, 2, 3, 4, 5, 6, 7] rfl rfl
   refine gf rfl (fun a hf => e_appendD (xs := aB.1) (ys := ([(⟨aA.phis, aA.ins, aA.jump, aA.on, aY⟩ : Block_)] : List Block_)) 4 et_47 hf hm rfl rfl rfl rfl c4) ?_
   rintro c6 w hm
   rw [c5] at hm
   exact gF fo_49_2 rfl (gS1 hm 3 sizeOf47 (rep_one (hm.ow_rep 4 rfl)) rfl fun w hm => gE (gR (gP (by omega) (by omega) rfl (gM rfl (gE (gZe fun a hf => ⟨c6, hf.sb rfl, hm.pk [0, 1, 2, 3, 4, 5] rfl rfl⟩))))))
  repeat clear hm
  rintro d9 bQ a w ⟨bh, hf, hm⟩ da db
  refine gv hf (gS (gR (gB rfl (gE (gS (go _ 48 rfl (decide_eq_false (by omega)) (gcf rfl (gXt (gHh (gS (gR (gM rfl ?_))))))))))))
  obtain ⟨c7, hle, hm1, hsub, c8⟩ := hm.take2 (L1 := [blk aO [nV c_.params, nV c_.regs, bh] 49, ow [bh] bQ.1]) (L2 := [blk aK [nV c_.params, nV c_.regs, v1] 49, blk aL [nV 0, nV 0, .slice none 0 0] 49, owm aM aQ, ow [.slice aT aN.length aP] bQ.2]) [3, 4] [0, 1, 2, 5] (by decide) rfl rfl
  refine gCg rfl call120 (impl_settle_ok _ c7 (⟨c_.params, c_.regs, bQ.1⟩ : Code_) aO bh bQ.2 (.slice aT aN.length aP) (fz_ow (hsub 3 _ rfl)) hm1 ) ?_
  rintro dc dd de w ⟨c9, rfl, hB⟩
  replace hm := c8 _ _ hB; clear hB
  refine gE (gS (gR (gY (yn (hm.blk_at 0 rfl) isAgg49 sizeOf49 rfl) (gSN hm 3 sizeOf49 (one_cons rfl (one_cons rfl (one_cons (rep_one (hm.ow_rep 1 rfl)) one_nil))) rfl fun w hm => gE (gRt ?_)))))
  replace hm := hm.thaw an
  exact grc 3 results199 hm rfl isAgg49 sizeOf49 ⟨c9, rfl, hm.pk [1] rfl rfl⟩
theorem impl_reachedOnly_ok (w0 : World) (c_ : Code_) (v1 : Value) (h1 : GT.rep (hp w0) [v1] c_.blocks) :
    ConM Tryz.prog 118 [(.agg #[nV c_.params, nV c_.regs, v1])] w0 (impl_reachedOnly c_) fun r v w' => ∃ (x1 : Value), v = (.agg #[nV r.params, nV r.regs, x1]) ∧ Mem w0 (hp w0) w' [ow [x1] r.blocks] := by
  unfold impl_reachedOnly
  refine gcon func118 rfl fun r => ?_
  have hm := Mem.start w0
  refine gS (gR (gBx hm rfl fun aA w hm => gAl hm zeroValue49 rfl fun aB w hm => gE (gS (gW (.q 0 (.e 1 (.e 2 (.e 3 (.e 4 .fin .nil) .nil) .nil) .nil)) [1, 2] [] hm [0, 1] [blk aB [nV 0, nV 0, .slice none 0 0] 49, blk aA [nV c_.params, nV c_.regs, v1] 49] rfl mxo (by kernel_rfl) (fun _ _ _ h => h.2) fun w hm hS => tQ rfl hS (fun w hm => yn (hm.blk_at 1 rfl) isAgg49 sizeOf49 rfl) (tO (tY rfl (yn (hm.blk_at 1 rfl) isAgg49 sizeOf49 rfl) (tAs hS (tO (gb fun aC aD => tf rfl rfl (fun a hf => e_call hf rfl call200 rfl (impl_ReachedIn_ok _ c_ v1 (hm.now h1) _ aD)) ?_)))))))))
  rintro aE w ⟨_, rfl, hB⟩
  replace hm := hm.give hB; clear hB
  refine tAk hm [1, 2] rfl fun hS => tO (gb fun aH aF => tf rfl rfl (fun a hf => e_call hf rfl call199 rfl (impl_picked_ok _ c_ v1 (hm.now h1) aC aE (hm.ow_rep 0 rfl) _ aF)) ?_)
  rintro aI w ⟨aG, rfl, hB⟩
  replace hm := hm.give hB; clear hB
  refine tAn rfl (tO (tf0 rfl rfl (fun a hf => e_storeN 2 hf hm rfl sizeOf49 rfl rfl rfl (one_cons rfl (one_cons rfl (one_cons (rep_one (hm.ow_rep 0 rfl)) one_nil))) rfl rfl) ?_))
  rintro _ w hm
  exact tAn rfl (tE (gRt (grc 2 results118 hm rfl isAgg49 sizeOf49 ⟨aG, rfl, hm.pk [0] rfl rfl⟩)))
theorem impl_joinNext_ok (w0 : World) (c_ : Code_) (v1 : Value) (h1 : GT.rep (hp w0) [v1] c_.blocks) (b_ : Int) :
    ConM Tryz.prog 119 [(.agg #[nV c_.params, nV c_.regs, v1]), nV b_] w0 (impl_joinNext c_ b_) fun r v w' => v = (nV r) ∧ Below w0.heap.size w0 w' := by
  unfold impl_joinNext
  refine gcon func119 rfl fun r => ?_
  have hm := Mem.start w0
  refine gS (gR (gBx hm rfl fun aX w hm => gA rfl (gE (gS (gR (gF fo_49_2 rfl (gL hm 0 isAgg47 rfl (gM rfl (gg fun aY aG aB => ?_)))))))))
  obtain ⟨aH, aI, aJ, he⟩ := idx_form' h1 aB
  subst he
  obtain ⟨aZ, aa, ab, aK, aL, aM, aC⟩ := rk_Block_ h1 aB
  refine gI st_47 aG (idx_lt aB) rfl (gY (yn (aK.mono hm.lez) isAgg63 sizeOf63 rfl) (gAl hm zeroValue63 rfl fun ac w hm => gSN hm 0 sizeOf63 (one_cons (rep_one aL) (one_cons (rep_one aM) (one_cons rfl (one_cons rfl (one_cons (rep_one aC) one_nil))))) rfl fun w hm => gE (gS (gS (gR (gF fo_63_2 rfl (gL hm 0 isAgg3 rfl (gB rfl (gE (gsd 14 rfl (fun aN => ?_) fun aN => ?_))))))))))
  ·exact gct rfl (gS (gR (gA rfl (gE (gRt (gr1 results119 rfl ⟨rfl, hm.below⟩))))))
  refine gcf rfl (gSk (gS (gR (gF fo_63_4 rfl (gL hm 0 isAgg43 rfl (gg fun aD aO aE => ?_))))))
  obtain ⟨ae, af, ag, he⟩ := idx_form aC aE
  subst he
  refine gI st_43 aO (idx_lt aE) rfl (gY (yl isAgg3 ((flat_cells (cs := [nV aD]) (hm.now aC) aE rfl).cell (j := 0) rfl) rfl) (gA rfl (gE (gS (gS (gJ hm (fun aA => [(6, (nV aD)), (42, (.bool (aA)))]) (fun aA => []) (fun aA => ?_) ?_))))))
  ·refine gR (gM rfl (gM rfl (gB rfl (gM rfl (gsd 22 rfl (fun aP => ?_) fun aP => ?_)))))
   ·exact gO rfl (gO rfl (gKt rfl (gM rfl (gO rfl (gO rfl (gO rfl (gO rfl (gO rfl (gO rfl (gO rfl (gO rfl (gKt rfl (gM rfl (gO rfl (gO rfl (gO rfl (gO rfl (gO rfl (gKt rfl (gE (gz hm [] rfl)))))))))))))))))))))
   refine gM rfl (gB rfl (gKf rfl (gM rfl (gsd 26 rfl (fun aQ => ?_) fun aQ => ?_))))
   ·exact gO rfl (gO rfl (gO rfl (gO rfl (gO rfl (gO rfl (gO rfl (gO rfl (gKt rfl (gM rfl (gO rfl (gO rfl (gO rfl (gO rfl (gO rfl (gKt rfl (gE (gz hm [] rfl)))))))))))))))))
   refine gF fo_49_2 rfl (gL hm 1 isAgg47 rfl (gM rfl (gg fun ah aR aF => ?_)))
   obtain ⟨ai, aj, ak, aS, aT, am, an⟩ := rk_Block_ h1 aF
   refine gI st_47 aR (idx_lt aF) rfl (gF fo_63_0 rfl (gY (yl isAgg60 ((aS.mono hm.lez).cell (j := 0) rfl) rfl) ?_))
   obtain ⟨ao, ap, rfl, aq⟩ := ro_slice aT
   refine gY (yV st_60 rfl) (gB rfl (gKf rfl (gM rfl (gsd 36 rfl (fun aV => ?_) fun aV => ?_))))
   ·exact gO rfl (gO rfl (gO rfl (gO rfl (gO rfl (gKt rfl (gE (gz hm [] rfl)))))))
   refine gY (yn (hm.blk_at 1 rfl) isAgg49 sizeOf49 rfl) (gM rfl (gCg rfl call113 (impl_PredsOf_ok _ c_ (sV aH aI c_.blocks.length aJ) (hm.now h1) aD) ?_))
   rintro ar au av w ⟨_, rfl, hB⟩
   replace hm := hm.give hB; clear hB
   obtain ⟨aw, ax, rfl, ay⟩ := ro_slice (hm.ow_rep 0 rfl)
   exact gY (yV st_43 rfl) (gB rfl (gKf rfl (gE (gz hm [] rfl))))
  repeat clear hm
  intro aA w hm
  refine gs 42 rfl (fun aW => ?_) fun aW => ?_
  ·exact gct rfl (gS (gR (gA rfl (gE (gRt (gr1 results119 rfl ⟨rfl, hm.below⟩))))))
  exact gcf rfl (gSk (gS (gR (gM rfl (gA rfl (gE (gRt (gr1 results119 rfl ⟨rfl, hm.below⟩))))))))
theorem impl_joined_ok (w0 : World) (c_ : Code_) (v1 : Value) (h1 : GT.rep (hp w0) [v1] c_.blocks) :
    ConM Tryz.prog 70 [(.agg #[nV c_.params, nV c_.regs, v1])] w0 (impl_joined c_) fun r v w' => ∃ (x1 : Value), v = (.agg #[nV r.params, nV r.regs, x1]) ∧ Mem w0 (hp w0) w' [ow [x1] r.blocks] := by
  unfold impl_joined
  refine gcon func70 rfl fun r => ?_
  have hm := Mem.start w0
  refine gS (gR (gBx hm rfl fun aI w hm => gAl hm zeroValue49 rfl fun aK w hm => gE (gSc (gS (gR (gY (yn (hm.blk_at 1 rfl) isAgg49 sizeOf49 rfl) (gCg rfl call118 (impl_reachedOnly_ok _ c_ v1 (hm.now h1)) ?_)))))))
  rintro bW cB cC w ⟨cD, rfl, hB⟩
  replace hm := hm.give hB; clear hB
  refine gSN hm 2 sizeOf49 (one_cons rfl (one_cons rfl (one_cons (rep_one (hm.ow_rep 0 rfl)) one_nil))) rfl fun w hm => gE (gS (gLb ?_))
  obtain ⟨bX, bY, rfl, cE⟩ := ro_slice (hm.ow_rep 0 rfl)
  refine gBk (gMg (fun aA a w => ∃ (bG : Value), St 106 [(1, (pV aI)), (2, (pV aK))] w0 (hp w0) [blk aI [nV aA.1, nV aA.2.1, bG] 49, ow [bG] aA.2.2, blk aK [nV 0, nV 0, .slice none 0 0] 49] a w) (fun a hf => ⟨.slice bX bW.blocks.length bY, hf.sb rfl, hm.pk [2, 0, 1] rfl rfl⟩) ?_)
  repeat clear hm
  rintro cF bZ aA a w ⟨bG, hf, hm⟩ cG b8
  refine gv hf (gJge (fun ax a w => ∃ (ay : Value), St 106 [(1, (pV aI)), (2, (pV aK))] w0 (hp w0) [blk aI [nV ax.1, nV ax.2.1, ay] 49, ow [ay] ax.2.2, blk aK [nV 0, nV 0, .slice none 0 0] 49] a w) (fun cH b9 => ?_) ?_)
  ·refine gBk (gS (gS (gR (gF fo_49_2 rfl (gL hm 0 isAgg47 rfl ?_)))))
   obtain ⟨aq, aE, rfl, cI⟩ := ro_slice (hm.ow_rep 1 rfl)
   refine gY (yV st_47 rfl) (gM rfl (gE (gBk (gNf hm (fun aH bL => [(1, (pV aI)), (2, (pV aK)), (16, (nV ((aA.2.2.length : Int)))), (17, (nV aH))]) (fun aH bL => [blk aI [nV aA.1, nV aA.2.1, .slice aq aA.2.2.length aE] 49, ow [.slice aq aA.2.2.length aE] aA.2.2, blk aK [nV 0, nV 0, .slice none 0 0] 49]) [0, 1, 2] rfl ?_ ?_))))
   ·repeat clear hm
    intro cJ ba aH bL w hm cK cL cM bb
    refine gS (gR (gB rfl (gE (gS (go _ 18 rfl (decide_eq_true (by omega)) (gct rfl (gSk (gS (gBk (gS (gR (gM rfl (gA rfl (gE (gS (gR (gY (yn (hm.blk_at 0 rfl) isAgg49 sizeOf49 rfl) (gM rfl (gC hm rfl call119 (impl_joinNext_ok _ (⟨aA.1, aA.2.1, aA.2.2⟩ : Code_) (.slice aq aA.2.2.length aE) (hm.ow_rep 1 rfl) aH) fun aC cN w hm => gA rfl (gE (gS (gS (gR (gM rfl (gB rfl (gE (gsd 24 rfl (fun bc => ?_) fun bc => ?_)))))))))))))))))))))))))))
    ·exact gct rfl (gXt (gHh (gR (gP (by omega) (by omega) rfl (gM rfl (gE (gze hm [0, 1, 2] rfl)))))))
    refine gcf rfl (gSk (gS (gR (gY (yn (hm.blk_at 0 rfl) isAgg49 sizeOf49 rfl) (gCg rfl call108 (impl_phisOf_ok _ (⟨aA.1, aA.2.1, aA.2.2⟩ : Code_) (.slice aq aA.2.2.length aE) (hm.ow_rep 1 rfl)) ?_)))))
    rintro aL cO aW w ⟨_, rfl, hB⟩
    replace hm := hm.give hB; clear hB
    refine gA rfl (gE (gS (gg fun aD bM az => ?_)))
    obtain ⟨aF, aG, cP, he⟩ := idx_form' (hm.ow_rep 2 rfl) az
    obtain ⟨rfl, _, rfl⟩ := sl3 he
    obtain ⟨aM, an, aR, hm⟩ := pin_Block_ hm 2 rfl az
    refine gg fun aB bN bO => gb fun cQ bA => ?_
    replace bA := neI_some bA bM bN
    obtain ⟨aO, aY, aJ, hm⟩ := pinb_Block_ hm 5 rfl bO bA
    refine gW (.p 0 (.p 2 (.p 4 (.p 6 (.q 1 (.p 3 (.p 8 (.e 5 (.p 7 (.p 9 .fin)) .nil)))))))) [5] [0, 2, 3, 4, 6, 7, 8, 9] hm [0, 1, 2, 3, 4, 5, 6, 7, 8, 9] [ow [aJ] aB.next_, ow [aY] aB.ins, ow [aO] aB.phis, ow [aR] aD.next_, ow [an] aD.ins, ow [aM] aD.phis, ow [aW] aL, blk aI [nV aA.1, nV aA.2.1, sV aF aG aA.2.2.length aE] 49, hole2E aF aG aA.2.2.length aE (aA.2.2 : List Block_) (aH).toNat [aM, an, nV aD.jump, nV aD.on, aR] (aC).toNat [aO, aY, nV aB.jump, nV aB.on, aJ], blk aK [nV 0, nV 0, .slice none 0 0] 49] rfl mxo (by kernel_rfl) (fun _ _ _ h => h.2) fun w hm hS => tP rfl (fun w => yF fo_49_2 rfl) (tP rfl (fun w => yM rfl) (tP rfl (fun w => yF fo_49_2 rfl) (tP rfl (fun w => yM rfl) (tQ rfl hS (fun w hm => yL hm 7 isAgg47 rfl) ?_))))
    have hL3_1 := hm.hole2E_len 8 rfl
    refine tP rfl (fun w => yI st_47 bM (idx_lt2 az hL3_1) rfl) (tP rfl (fun w => yA rfl) (tO (tY rfl (yL hm 7 isAgg47 rfl) (tAs hS ?_))))
    have hL3_2 := hm.hole2E_len 8 rfl
    refine tP rfl (fun w => yI st_47 bN (idx_lt2 bO hL3_2) rfl) (tP rfl (fun w => yA rfl) (tE (gS (gW (.p 0 (.p 1 (.p 2 (.p 3 (.p 5 (.p 6 (.p 7 (.q 4 (.e 8 (.e 9 (.p 10 (.p 11 (.e 12 .fin .nil))) .nil) .nil))))))))) [8] [0, 1, 2, 3, 5, 6, 7, 10, 11] hm [0, 1, 2, 3, 4, 5, 6, 7, 8, 9] [ow [aJ] aB.next_, ow [aY] aB.ins, ow [aO] aB.phis, ow [aR] aD.next_, ow [an] aD.ins, ow [aM] aD.phis, ow [aW] aL, blk aI [nV aA.1, nV aA.2.1, sV aF aG aA.2.2.length aE] 49, hole2E aF aG aA.2.2.length aE (aA.2.2 : List Block_) (aH).toNat [aM, an, nV aD.jump, nV aD.on, aR] (aC).toNat [aO, aY, nV aB.jump, nV aB.on, aJ], blk aK [nV 0, nV 0, .slice none 0 0] 49] rfl mxo (by kernel_rfl) (fun _ _ _ h => h.2) fun w hm hS => tP rfl (fun w => yM rfl) (tP rfl (fun w => yM rfl) (tP rfl (fun w => yG rfl (y_nilptr rfl rfl)) (tP rfl (fun w => yF fo_63_1 rfl) (tP rfl (fun w => yM rfl) (tP rfl (fun w => yG rfl (y_nilptr rfl rfl)) (tP rfl (fun w => yF fo_63_1 rfl) (tQ rfl hS (fun w hm => yl isAgg61 ((hm.hole2E_at 8 rfl).cell (j := 1) rfl) rfl) (tO (tY rfl (yl isAgg61 ((hm.hole2E_at2 8 rfl).cell (j := 1) rfl) rfl) (tAs hS (tO (gb fun aP bd => ?_))))))))))))))))
    obtain ⟨be, bf⟩ := appM_some.1 bd
    replace hm := (hm.both 4 1 (by decide) rfl rfl).pk (L' := [ow [aJ] aB.next_, ow [aO] aB.phis, ow [aR] aD.next_, both (ow [an] aD.ins) (ow [aY] aB.ins), ow [aM] aD.phis, ow [aW] aL, blk aI [nV aA.1, nV aA.2.1, sV aF aG aA.2.2.length aE] 49, hole2E aF aG aA.2.2.length aE (aA.2.2 : List Block_) (aH).toNat [aM, an, nV aD.jump, nV aD.on, aR] (aC).toNat [aO, aY, nV aB.jump, nV aB.on, aJ], blk aK [nV 0, nV 0, .slice none 0 0] 49]) [0, 2, 3, 4, 5, 6, 7, 8, 9] rfl rfl
    refine tf rfl rfl (fun a hf => e_appendD (xs := aD.ins) (ys := aB.ins) 3 et_61 hf hm rfl rfl rfl rfl be) ?_
    rintro aQ w hm
    rw [bf] at hm
    refine tAn rfl (tP rfl (fun w => yG rfl (y_nilptr rfl rfl)) (tP rfl (fun w => yF fo_63_1 rfl) (tO ?_)))
    have bP : ∀ u ∈ ([aQ] : List Value), u.oneCell' = true := (one_cons (rep_one (hm.ow_rep 3 rfl)) one_nil)
    refine tf0 rfl rfl (fun a hf => e_storeH2 (j := 1) (vs := [aQ]) 7 hf hm rfl rfl rfl sizeOf61 rfl rfl (cells_one (bP _ (List.mem_singleton.2 rfl))) bP rfl) ?_
    rintro _ w hm
    replace hm : Mem w0 (hp w0) _ [ow [aJ] aB.next_, ow [aO] aB.phis, ow [aR] aD.next_, ow [aQ] aP, ow [aM] aD.phis, ow [aW] aL, blk aI [nV aA.1, nV aA.2.1, sV aF aG aA.2.2.length aE] 49, hole2E aF aG aA.2.2.length aE (aA.2.2 : List Block_) (aH).toNat [aM, aQ, nV aD.jump, nV aD.on, aR] (aC).toNat [aO, aY, nV aB.jump, nV aB.on, aJ], blk aK [nV 0, nV 0, .slice none 0 0] 49] := hm
    refine tAn rfl (tE (gS (gW (.p 0 (.p 1 (.p 2 (.p 3 (.p 4 (.p 5 (.p 7 (.p 8 (.p 9 (.p 11 (.p 12 (.p 13 (.q 6 (.q 10 (.e 14 (.p 15 (.p 16 (.e 17 (.p 18 (.p 19 (.e 20 (.p 21 (.p 22 (.e 23 .fin .nil))) .nil))) .nil))) .nil))))))))))))))) [6, 10, 14] [0, 1, 2, 3, 4, 5, 7, 8, 9, 11, 12, 13, 15, 16, 18, 19, 21, 22] hm [0, 1, 2, 3, 4, 5, 6, 7, 8] [ow [aJ] aB.next_, ow [aO] aB.phis, ow [aR] aD.next_, ow [aQ] aP, ow [aM] aD.phis, ow [aW] aL, blk aI [nV aA.1, nV aA.2.1, sV aF aG aA.2.2.length aE] 49, hole2E aF aG aA.2.2.length aE (aA.2.2 : List Block_) (aH).toNat [aM, aQ, nV aD.jump, nV aD.on, aR] (aC).toNat [aO, aY, nV aB.jump, nV aB.on, aJ], blk aK [nV 0, nV 0, .slice none 0 0] 49] rfl mxo (by kernel_rfl) (fun _ _ _ h => h.2) fun w hm hS => tP rfl (fun w => yM rfl) (tP rfl (fun w => yM rfl) (tP rfl (fun w => yM rfl) (tP rfl (fun w => yM rfl) (tP rfl (fun w => yG rfl (y_nilptr rfl rfl)) (tP rfl (fun w => yF fo_63_2 rfl) (tP rfl (fun w => yM rfl) (tP rfl (fun w => yG rfl (y_nilptr rfl rfl)) (tP rfl (fun w => yF fo_63_3 rfl) (tP rfl (fun w => yM rfl) (tP rfl (fun w => yG rfl (y_nilptr rfl rfl)) (tP rfl (fun w => yF fo_63_4 rfl) (tQ rfl hS (fun w hm => yl isAgg3 ((hm.hole2E_at2 7 rfl).cell (j := 2) rfl) rfl) (tQ rfl hS (fun w hm => yl isAgg3 ((hm.hole2E_at2 7 rfl).cell (j := 3) rfl) rfl) (tO (tY rfl (yl isAgg43 ((hm.hole2E_at2 7 rfl).cell (j := 4) rfl) rfl) (tAs hS (tP rfl (fun w => yG rfl (y_nilptr rfl rfl)) (tP rfl (fun w => yF fo_63_2 rfl) (tO ?_))))))))))))))))))))))
    have bg : ∀ u ∈ ([nV aB.jump] : List Value), u.oneCell' = true := (one_cons rfl one_nil)
    refine tf0 rfl rfl (fun a hf => e_storeH2 (j := 2) (vs := [nV aB.jump]) 7 hf hm rfl rfl rfl sizeOf3 rfl rfl rfl bg rfl) ?_
    rintro _ w hm
    replace hm : Mem w0 (hp w0) _ [ow [aJ] aB.next_, ow [aO] aB.phis, ow [aR] aD.next_, ow [aQ] aP, ow [aM] aD.phis, ow [aW] aL, blk aI [nV aA.1, nV aA.2.1, sV aF aG aA.2.2.length aE] 49, hole2E aF aG aA.2.2.length aE (aA.2.2 : List Block_) (aH).toNat [aM, aQ, nV aB.jump, nV aD.on, aR] (aC).toNat [aO, aY, nV aB.jump, nV aB.on, aJ], blk aK [nV 0, nV 0, .slice none 0 0] 49] := hm
    refine tAn rfl (tP rfl (fun w => yG rfl (y_nilptr rfl rfl)) (tP rfl (fun w => yF fo_63_3 rfl) (tO ?_)))
    have bh : ∀ u ∈ ([nV aB.on] : List Value), u.oneCell' = true := (one_cons rfl one_nil)
    refine tf0 rfl rfl (fun a hf => e_storeH2 (j := 3) (vs := [nV aB.on]) 7 hf hm rfl rfl rfl sizeOf3 rfl rfl rfl bh rfl) ?_
    rintro _ w hm
    replace hm : Mem w0 (hp w0) _ [ow [aJ] aB.next_, ow [aO] aB.phis, ow [aR] aD.next_, ow [aQ] aP, ow [aM] aD.phis, ow [aW] aL, blk aI [nV aA.1, nV aA.2.1, sV aF aG aA.2.2.length aE] 49, hole2E aF aG aA.2.2.length aE (aA.2.2 : List Block_) (aH).toNat [aM, aQ, nV aB.jump, nV aB.on, aR] (aC).toNat [aO, aY, nV aB.jump, nV aB.on, aJ], blk aK [nV 0, nV 0, .slice none 0 0] 49] := hm
    refine tAn rfl (tP rfl (fun w => yG rfl (y_nilptr rfl rfl)) (tP rfl (fun w => yF fo_63_4 rfl) (tO ?_)))
    have bQ : ∀ u ∈ ([aJ] : List Value), u.oneCell' = true := (one_cons (rep_one (hm.ow_rep 0 rfl)) one_nil)
    refine tf0 rfl rfl (fun a hf => e_storeH2 (j := 4) (vs := [aJ]) 7 hf hm rfl rfl rfl sizeOf43 rfl rfl (cells_one (bQ _ (List.mem_singleton.2 rfl))) bQ rfl) ?_
    rintro _ w hm
    replace hm : Mem w0 (hp w0) _ [ow [aJ] aB.next_, ow [aO] aB.phis, ow [aR] aD.next_, ow [aQ] aP, ow [aM] aD.phis, ow [aW] aL, blk aI [nV aA.1, nV aA.2.1, sV aF aG aA.2.2.length aE] 49, hole2E aF aG aA.2.2.length aE (aA.2.2 : List Block_) (aH).toNat [aM, aQ, nV aB.jump, nV aB.on, aJ] (aC).toNat [aO, aY, nV aB.jump, nV aB.on, aJ], blk aK [nV 0, nV 0, .slice none 0 0] 49] := hm
    refine tAn rfl (tE (gS (gR (gM rfl (gM rfl (gf rfl (fun a hf => e_build (vs := #[(0, (nV aC))]) (cs := [nV aC]) et_43 hf hm rfl rfl (by kernel_rfl) rfl rfl) ?_))))))
    rintro _ w ⟨aZ, rfl, hm⟩
    replace hm := hm.lit (xs := ([aC] : List Int)) 0 rfl rfl rfl rfl
    refine gY (yG rfl (y_build (vs := [(2, (nV 1)), (4, (sV aZ 0 1 1))]) (cs := #[.slice none 0 0, .slice none 0 0, nV 1, nV 0, sV aZ 0 1 1]) rfl rfl (by kernel_rfl))) (gY (yG rfl (y_nilptr rfl rfl)) ?_)
    have bi : ∀ u ∈ ([.slice none 0 0, .slice none 0 0, nV 1, nV 0, sV aZ 0 1 1] : List Value), u.oneCell' = true := (one_cons rfl (one_cons rfl (one_cons rfl (one_cons rfl (one_cons rfl one_nil)))))
    replace hm : Mem w0 (hp w0) _ [ow [sV aZ 0 1 1] ([aC] : List Int), ow [aJ] aB.next_, ow [aO] aB.phis, ow [aR] aD.next_, ow [aQ] aP, ow [aM] aD.phis, ow [aW] aL, blk aI [nV aA.1, nV aA.2.1, sV aF aG aA.2.2.length aE] 49, hole2E aF aG aA.2.2.length aE (aA.2.2 : List Block_) (aC).toNat [aO, aY, nV aB.jump, nV aB.on, aJ] (aH).toNat [aM, aQ, nV aB.jump, nV aB.on, aJ], blk aK [nV 0, nV 0, .slice none 0 0] 49] := hm.hole2E_swap 8 rfl
    refine gf0 rfl (fun a hf => e_storeH2 (j := 0) (vs := [.slice none 0 0, .slice none 0 0, nV 1, nV 0, sV aZ 0 1 1]) 8 hf hm rfl rfl rfl sizeOf63 rfl rfl rfl bi rfl) ?_
    rintro _ w hm
    replace hm : Mem w0 (hp w0) _ [ow [sV aZ 0 1 1] ([aC] : List Int), ow [aJ] aB.next_, ow [aO] aB.phis, ow [aR] aD.next_, ow [aQ] aP, ow [aM] aD.phis, ow [aW] aL, blk aI [nV aA.1, nV aA.2.1, sV aF aG aA.2.2.length aE] 49, hole2E aF aG aA.2.2.length aE (aA.2.2 : List Block_) (aC).toNat [.slice none 0 0, .slice none 0 0, nV 1, nV 0, sV aZ 0 1 1] (aH).toNat [aM, aQ, nV aB.jump, nV aB.on, aJ], blk aK [nV 0, nV 0, .slice none 0 0] 49] := hm
    refine gE (gS (gS ?_))
    replace hm : Mem w0 (hp w0) _ [ow [sV aZ 0 1 1] ([aC] : List Int), ow [aJ] aB.next_, ow [aO] aB.phis, ow [aR] aD.next_, ow [aQ] aP, ow [aM] aD.phis, ow [aW] aL, blk aI [nV aA.1, nV aA.2.1, sV aF aG aA.2.2.length aE] 49, hole2E aF aG aA.2.2.length aE (aA.2.2 : List Block_) (aH).toNat [aM, aQ, nV aB.jump, nV aB.on, aJ] (aC).toNat [.slice none 0 0, .slice none 0 0, nV 1, nV 0, sV aZ 0 1 1], blk aK [nV 0, nV 0, .slice none 0 0] 49] := hm.hole2E_swap 8 rfl
    replace hm := hm.nilow (α := Phi_)
    replace hm := hm.nilow (α := Ins_)
    replace hm := (mk_Block_ 1 0 hm 1 0 2 rfl).pk (L' := [ow [.slice none 0 0, .slice none 0 0, nV 1, nV 0, sV aZ 0 1 1] ((⟨[], [], 1, 0, ([aC] : List Int)⟩ : Block_) : Block_), ow [aJ] aB.next_, ow [aO] aB.phis, ow [aR] aD.next_, ow [aQ] aP, ow [aM] aD.phis, ow [aW] aL, blk aI [nV aA.1, nV aA.2.1, sV aF aG aA.2.2.length aE] 49, hole2E aF aG aA.2.2.length aE (aA.2.2 : List Block_) (aH).toNat [aM, aQ, nV aB.jump, nV aB.on, aJ] (aC).toNat [.slice none 0 0, .slice none 0 0, nV 1, nV 0, sV aZ 0 1 1], blk aK [nV 0, nV 0, .slice none 0 0] 49]) [1, 3, 4, 5, 6, 7, 8, 9, 10, 11] rfl rfl
    replace hm := (hm.shut2E (y := ((⟨[], [], 1, 0, ([aC] : List Int)⟩ : Block_) : Block_)) 8 0 (by decide) rfl rfl).pk (L' := [ow [aJ] aB.next_, ow [aO] aB.phis, ow [aR] aD.next_, ow [aQ] aP, ow [aM] aD.phis, ow [aW] aL, blk aI [nV aA.1, nV aA.2.1, sV aF aG aA.2.2.length aE] 49, holeE aF aG aA.2.2.length aE ((aA.2.2.set (aC).toNat (⟨[], [], 1, 0, ([aC] : List Int)⟩ : Block_)) : List Block_) (aH).toNat [aM, aQ, nV aB.jump, nV aB.on, aJ], blk aK [nV 0, nV 0, .slice none 0 0] 49]) [1, 2, 3, 4, 5, 6, 7, 8, 9] rfl rfl
    have bj : ((aA.2.2.set (aC).toNat (⟨[], [], 1, 0, ([aC] : List Int)⟩ : Block_)) : List Block_)[(aH).toNat]? = some aD := (List.getElem?_set_ne (Ne.symm (Ne.symm (Ne.symm bA)))).trans az
    refine gR (gM rfl (gY (yG rfl (y_nilptr rfl rfl)) (gF fo_63_4 rfl (gY (yl isAgg43 ((hm.holeE_at 7 rfl).cell (j := 4) rfl) rfl) (gCg rfl call112 (impl_once_ok _ aB.next_ aJ (hm.ow_rep 0 rfl)) ?_)))))
    rintro aN cR cS w ⟨_, rfl, hB⟩
    replace hm := hm.give hB; clear hB
    obtain ⟨ar, aX, rfl, cT⟩ := ro_slice (hm.ow_rep 0 rfl)
    refine gY (yV st_43 rfl) (gM rfl (gE ?_))
    obtain ⟨ao, aV, rfl, cU⟩ := ro_slice (hm.ow_rep 6 rfl)
    refine gBk ?_
    replace hm := (mk_Block_ aB.jump aB.on hm 5 4 1 rfl).pk (L' := [ow [.slice ar aN.length aX] aN, ow [aO] aB.phis, ow [aR] aD.next_, ow [aM, aQ, nV aB.jump, nV aB.on, aJ] ((⟨aD.phis, aP, aB.jump, aB.on, aB.next_⟩ : Block_) : Block_), ow [.slice ao aL.length aV] aL, blk aI [nV aA.1, nV aA.2.1, sV aF aG aA.2.2.length aE] 49, holeE aF aG aA.2.2.length aE ((aA.2.2.set (aC).toNat (⟨[], [], 1, 0, ([aC] : List Int)⟩ : Block_)) : List Block_) (aH).toNat [aM, aQ, nV aB.jump, nV aB.on, aJ], blk aK [nV 0, nV 0, .slice none 0 0] 49]) [0, 2, 3, 5, 6, 7, 8, 9] rfl rfl
    replace hm := (hm.shutE (y := ((⟨aD.phis, aP, aB.jump, aB.on, aB.next_⟩ : Block_) : Block_)) 6 3 (by decide) rfl rfl).pk (L' := [ow [.slice ar aN.length aX] aN, ow [aO] aB.phis, ow [aR] aD.next_, ow [.slice ao aL.length aV] aL, blk aI [nV aA.1, nV aA.2.1, sV aF aG aA.2.2.length aE] 49, ow [sV aF aG aA.2.2.length aE] ((aA.2.2.set (aC).toNat (⟨[], [], 1, 0, ([aC] : List Int)⟩ : Block_)).set (aH).toNat (⟨aD.phis, aP, aB.jump, aB.on, aB.next_⟩ : Block_)), blk aK [nV 0, nV 0, .slice none 0 0] 49]) [0, 1, 2, 4, 5, 6, 7] rfl rfl
    have cV := List.getElem?_set_self (a := ((⟨aD.phis, aP, aB.jump, aB.on, aB.next_⟩ : Block_) : Block_)) (idx_lt bj)
    refine gNf hm (fun bB aa => [(1, (pV aI)), (2, (pV aK)), (3, (nV aH)), (4, (nV aC)), (5, (.slice ao aL.length aV)), (77, (.slice ar aN.length aX)), (78, (nV ((aN.length : Int)))), (79, (nV bB))]) (fun bB aa => [blk aI [nV aA.1, nV aA.2.1, sV aF aG aA.2.2.length aE] 49, ow [sV aF aG aA.2.2.length aE] ((aA.2.2.set (aC).toNat (⟨[], [], 1, 0, ([aC] : List Int)⟩ : Block_)).set (aH).toNat (⟨aD.phis, aP, aB.jump, aB.on, aB.next_⟩ : Block_)), blk aK [nV 0, nV 0, .slice none 0 0] 49, ow [.slice ao aL.length aV] aa, ow [.slice ar aN.length aX] aN]) [4, 5, 6, 3, 0] rfl ?_ ?_
    ·repeat clear hm
     intro _ _ bB aa w hm cW cX cY _
     refine gS (gR (gB rfl (gE (gS (go _ 80 rfl (decide_eq_true (by omega)) (gct rfl (gSk (gS (gBk (gS (gR (gg fun ac bk bH => ?_))))))))))))
     obtain ⟨ag, ah, cZ, he⟩ := idx_form (hm.ow_rep 4 rfl) bH
     obtain ⟨rfl, _, rfl⟩ := sl3 he
     refine gI st_43 bk (idx_lt bH) rfl (gY (yl isAgg3 ((flat_cells (cs := [nV ac]) (hm.ow_rep 4 rfl) bH rfl).cell (j := 0) rfl) rfl) (gA rfl (gE (gS (gR (gM rfl (gM rfl (gg fun aT bl au => ?_))))))))
     obtain ⟨ae, af, c4, he⟩ := idx_form' (hm.ow_rep 3 rfl) au
     obtain ⟨rfl, _, rfl⟩ := sl3 he
     obtain ⟨_, _, bR, bm⟩ := ro_get' (hm.ow_rep 3 rfl) au
     have bJ := bm
     obtain ⟨bS, rfl, -⟩ := id bJ
     replace bJ : GT.rep (hp _) [bS] aT := bJ
     replace bR : CellsAt (hp _) ae (af + (ac).toNat * 1) [bS] := bR
     have hL4_1 := rep_slice_len (hm.ow_rep 3 rfl)
     refine gI st_116 bl (idx_lt2 au hL4_1) rfl ?_
     obtain ⟨_, bo, hm⟩ := hm.openE 3 rfl au
     have bp := hm.ow_rep 0 rfl
     have bC := bp
     obtain ⟨av, rfl, -⟩ := id bC
     replace bC : GT.rep (hp _) [av] aT := bC
     clear bo bC
     replace hm : Mem w0 (hp w0) _ [ow [av] (aT : List (MapS Int)), blk aI [nV aA.1, nV aA.2.1, sV aF aG aA.2.2.length aE] 49, ow [sV aF aG aA.2.2.length aE] ((aA.2.2.set (aC).toNat (⟨[], [], 1, 0, ([aC] : List Int)⟩ : Block_)).set (aH).toNat (⟨aD.phis, aP, aB.jump, aB.on, aB.next_⟩ : Block_)), blk aK [nV 0, nV 0, .slice none 0 0] 49, holeE ae af aL.length aV (aa : List (List (MapS Int))) (ac).toNat [av], ow [sV ag ah aN.length aX] aN] := hm
     replace hm := hm.pk (L' := [ow [av] aT, blk aI [nV aA.1, nV aA.2.1, sV aF aG aA.2.2.length aE] 49, ow [sV aF aG aA.2.2.length aE] ((aA.2.2.set (aC).toNat (⟨[], [], 1, 0, ([aC] : List Int)⟩ : Block_)).set (aH).toNat (⟨aD.phis, aP, aB.jump, aB.on, aB.next_⟩ : Block_)), blk aK [nV 0, nV 0, .slice none 0 0] 49, holeE ae af aL.length aV (aa : List (List (MapS Int))) (ac).toNat [av], ow [sV ag ah aN.length aX] aN]) [0, 1, 2, 3, 4, 5] rfl rfl
     refine gY (yl isAgg122 ((hm.holeE_at 4 rfl).cell (j := 0) rfl) rfl) ?_
     obtain ⟨bD, ab, rfl, c5⟩ := ro_slice (hm.ow_rep 0 rfl)
     refine gY (yV st_122 rfl) (gM rfl (gE (gBk (gNf hm (fun ai ap => [(1, (pV aI)), (2, (pV aK)), (3, (nV aH)), (4, (nV aC)), (5, (sV ae af aL.length aV)), (77, (sV ag ah aN.length aX)), (78, (nV ((aN.length : Int)))), (79, (nV bB)), (86, (.slice bD aT.length ab)), (87, (nV ((aT.length : Int)))), (88, (nV ai))]) (fun ai ap => [blk aI [nV aA.1, nV aA.2.1, sV aF aG aA.2.2.length aE] 49, ow [sV aF aG aA.2.2.length aE] ((aA.2.2.set (aC).toNat (⟨[], [], 1, 0, ([aC] : List Int)⟩ : Block_)).set (aH).toNat (⟨aD.phis, aP, aB.jump, aB.on, aB.next_⟩ : Block_)), blk aK [nV 0, nV 0, .slice none 0 0] 49, holeE ae af aL.length aV (aa : List (List (MapS Int))) (ac).toNat [.slice bD aT.length ab], ow [.slice bD aT.length ab] ap, ow [sV ag ah aN.length aX] aN]) [1, 2, 3, 4, 0, 5] rfl ?_ ?_))))
     ·repeat clear hm
      intro _ _ ai ap w hm c6 c7 c8 _
      refine gS (gR (gB rfl (gE (gS (go _ 89 rfl (decide_eq_true (by omega)) (gct rfl (gSk (gS (gBk (gS (gR (gg fun aS bq aw => ?_))))))))))))
      obtain ⟨aj, ak, c9, he⟩ := idx_form' (hm.ow_rep 4 rfl) aw
      obtain ⟨rfl, _, rfl⟩ := sl3 he
      obtain ⟨_, _, bT, br⟩ := ro_get' (hm.ow_rep 4 rfl) aw
      have bK := br
      obtain ⟨bU, rfl, -⟩ := id bK
      replace bK : GT.rep (hp _) [bU] aS := bK
      replace bT : CellsAt (hp _) aj (ak + (ai).toNat * 1) [bU] := bT
      have hL5_1 := rep_slice_len (hm.ow_rep 4 rfl)
      refine gI st_122 bq (idx_lt2 aw hL5_1) rfl ?_
      obtain ⟨_, bt, hm⟩ := hm.openE 4 rfl aw
      have bu := hm.ow_rep 0 rfl
      have bE := bu
      obtain ⟨am, rfl, -⟩ := id bE
      replace bE : GT.rep (hp _) [am] aS := bE
      clear bt bE
      replace hm : Mem w0 (hp w0) _ [ow [am] (aS : MapS Int), blk aI [nV aA.1, nV aA.2.1, sV aF aG aA.2.2.length aE] 49, ow [sV aF aG aA.2.2.length aE] ((aA.2.2.set (aC).toNat (⟨[], [], 1, 0, ([aC] : List Int)⟩ : Block_)).set (aH).toNat (⟨aD.phis, aP, aB.jump, aB.on, aB.next_⟩ : Block_)), blk aK [nV 0, nV 0, .slice none 0 0] 49, holeE ae af aL.length aV (aa : List (List (MapS Int))) (ac).toNat [sV aj ak aT.length ab], holeE aj ak aT.length ab (ap : List (MapS Int)) (ai).toNat [am], ow [sV ag ah aN.length aX] aN] := hm
      replace hm := hm.pk (L' := [ow [am] aS, blk aI [nV aA.1, nV aA.2.1, sV aF aG aA.2.2.length aE] 49, ow [sV aF aG aA.2.2.length aE] ((aA.2.2.set (aC).toNat (⟨[], [], 1, 0, ([aC] : List Int)⟩ : Block_)).set (aH).toNat (⟨aD.phis, aP, aB.jump, aB.on, aB.next_⟩ : Block_)), blk aK [nV 0, nV 0, .slice none 0 0] 49, holeE ae af aL.length aV (aa : List (List (MapS Int))) (ac).toNat [sV aj ak aT.length ab], holeE aj ak aT.length ab (ap : List (MapS Int)) (ai).toNat [am], ow [sV ag ah aN.length aX] aN]) [0, 1, 2, 3, 4, 5, 6] rfl rfl
      refine gY (yl isAgg123 ((hm.holeE_at 5 rfl).cell (j := 0) rfl) rfl) (gA rfl (gE (gS (gR (gM rfl (gM rfl (gM rfl (gM rfl (gY (yG rfl (y_lookI (key := aC) (m := (aS : MapS Int)) underlying3 underlying123 zeroValue3 (hm.ow_rep 0 rfl) rfl rfl rfl)) (gb fun ca bv => ?_))))))))))
      replace hm := hm.ow_owm 0 rfl bv
      refine gf0 rfl (fun a hf => e_insM (β := Int) (key := aH) (u := ((MapS.get aS aC).getD 0)) (b := false) 0 underlying3 underlying123 hf hm rfl rfl rfl rfl rfl) ?_
      rintro _ w hm
      refine gE (gR (gM rfl (gM rfl (gf0 rfl (fun a hf => e_delM (β := Int) (key := aC) 0 underlying3 underlying123 hf hm rfl rfl rfl rfl rfl) ?_))))
      rintro _ w hm
      refine gE ?_
      have cb := owm_cells hm 0 rfl
      replace hm := hm.imp (c' := ow [am] ((MapS.del (MapS.ins aS aH ((MapS.get aS aC).getD 0)) aC) : MapS Int)) 0 rfl (fun F h0 => own_owm h0)
      replace hm := hm.imp (c' := ow [am] ((MapS.del (MapS.ins aS aH ((MapS.get aS aC).getD 0)) aC) : MapS Int)) 0 rfl (fun F h0 => h0)
      replace hm := (hm.shutE (y := ((MapS.del (MapS.ins aS aH ((MapS.get aS aC).getD 0)) aC) : MapS Int)) 5 0 (by decide) rfl rfl).pk (L' := [blk aI [nV aA.1, nV aA.2.1, sV aF aG aA.2.2.length aE] 49, ow [sV aF aG aA.2.2.length aE] ((aA.2.2.set (aC).toNat (⟨[], [], 1, 0, ([aC] : List Int)⟩ : Block_)).set (aH).toNat (⟨aD.phis, aP, aB.jump, aB.on, aB.next_⟩ : Block_)), blk aK [nV 0, nV 0, .slice none 0 0] 49, holeE ae af aL.length aV (aa : List (List (MapS Int))) (ac).toNat [sV aj ak aT.length ab], ow [sV aj ak aT.length ab] (ap.set (ai).toNat (MapS.del (MapS.ins aS aH ((MapS.get aS aC).getD 0)) aC)), ow [sV ag ah aN.length aX] aN]) [1, 2, 3, 4, 5, 6] rfl rfl
      have cc := List.getElem?_set_self (a := ((MapS.del (MapS.ins aS aH ((MapS.get aS aC).getD 0)) aC) : MapS Int)) (idx_lt aw)
      exact gR (gP (by omega) (by omega) rfl (gM rfl (gE (gze hm [0, 1, 2, 3, 4, 5] rfl))))
     repeat clear hm
     intro cd bF w hm ce cf
     refine gS (gR (gB rfl (gE (gS (go _ 89 rfl (decide_eq_false (by omega)) (gcf rfl (gXt (gHh ?_))))))))
     replace hm := hm.imp (c' := ow [.slice bD aT.length ab] (bF : List (MapS Int))) 4 rfl (fun F h0 => h0)
     replace hm := (hm.shutE (y := (bF : List (MapS Int))) 3 4 (by decide) rfl rfl).pk (L' := [blk aI [nV aA.1, nV aA.2.1, sV aF aG aA.2.2.length aE] 49, ow [sV aF aG aA.2.2.length aE] ((aA.2.2.set (aC).toNat (⟨[], [], 1, 0, ([aC] : List Int)⟩ : Block_)).set (aH).toNat (⟨aD.phis, aP, aB.jump, aB.on, aB.next_⟩ : Block_)), blk aK [nV 0, nV 0, .slice none 0 0] 49, ow [sV ae af aL.length aV] (aa.set (ac).toNat bF), ow [sV ag ah aN.length aX] aN]) [0, 1, 2, 3, 5] rfl rfl
     have cg := List.getElem?_set_self (a := (bF : List (MapS Int))) (idx_lt au)
     exact gR (gP (by omega) (by omega) rfl (gM rfl (gE (gze hm [0, 1, 2, 3, 4] rfl))))
    repeat clear hm
    intro ci bV w hm cj cl
    refine gS (gR (gB rfl (gE (gS (go _ 80 rfl (decide_eq_false (by omega)) (gcf rfl (gXt (gHh (gS (gR (gM rfl ?_)))))))))))
    obtain ⟨bw, hle, hm1, hsub, bx⟩ := hm.take2 (L1 := [blk aI [nV aA.1, nV aA.2.1, sV aF aG aA.2.2.length aE] 49, ow [sV aF aG aA.2.2.length aE] ((aA.2.2.set (aC).toNat (⟨[], [], 1, 0, ([aC] : List Int)⟩ : Block_)).set (aH).toNat (⟨aD.phis, aP, aB.jump, aB.on, aB.next_⟩ : Block_))]) (L2 := [blk aK [nV 0, nV 0, .slice none 0 0] 49, ow [.slice ao aL.length aV] bV, ow [.slice ar aN.length aX] aN]) [0, 1] [2, 3, 4] (by decide) rfl rfl
    refine gCg rfl call120 (impl_settle_ok _ bw (⟨aA.1, aA.2.1, ((aA.2.2.set (aC).toNat (⟨[], [], 1, 0, ([aC] : List Int)⟩ : Block_)).set (aH).toNat (⟨aD.phis, aP, aB.jump, aB.on, aB.next_⟩ : Block_))⟩ : Code_) aI (sV aF aG aA.2.2.length aE) bV (.slice ao aL.length aV) (fz_ow (hsub 1 _ rfl)) hm1 ) ?_
    rintro cm cn co w ⟨bz, rfl, hB⟩
    replace hm := bx _ _ hB; clear hB
    exact gE (gXt (gHm rfl (gHm rfl (gHh (gLr bb ba (gZe fun a hf => ⟨bz, hf.sb rfl, hm.pk [0, 1, 2] rfl rfl⟩))))))
   repeat clear hm
   intro cq cr w hm ct cu
   refine gS (gR (gB rfl (gE (gS (go _ 18 rfl (decide_eq_false (by omega)) (gcf rfl (gXt (gHh (gS (gR (gY (yn (hm.blk_at 0 rfl) isAgg49 sizeOf49 rfl) (gCg rfl call118 (impl_reachedOnly_ok _ (⟨aA.1, aA.2.1, aA.2.2⟩ : Code_) (.slice aq aA.2.2.length aE) (hm.ow_rep 1 rfl)) ?_))))))))))))
   rintro cv cw cx w ⟨cA, rfl, hB⟩
   replace hm := hm.give hB; clear hB
   exact gSN hm 3 sizeOf49 (one_cons rfl (one_cons rfl (one_cons (rep_one (hm.ow_rep 0 rfl)) one_nil))) rfl fun w hm => gE (gRt (gEr b9 (gLp b8 bZ (grc 3 results70 hm rfl isAgg49 sizeOf49 ⟨cA, rfl, hm.pk [0] rfl rfl⟩))))
  repeat clear hm
  rintro ax a w ⟨ay, hf, hm⟩
  exact gv hf (gZe fun a hf => ⟨ay, hf.sb rfl, hm.pk [0, 1, 2] rfl rfl⟩)
end Go.Proofs.YtabgclojkbijbaaGreat
