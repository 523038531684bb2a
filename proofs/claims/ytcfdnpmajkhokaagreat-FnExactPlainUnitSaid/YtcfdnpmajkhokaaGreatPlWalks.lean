/- A part of the proof of FnExactPlainUnitSaid. -/
import Derived.Test.YtcfdnpmajkhokaaGreatPlWalksB
namespace Go.Proofs.YtcfdnpmajkhokaaGreat
open Go Go.Wk Go.RowKit
set_option maxRecDepth 4000
set_option maxHeartbeats 4000000
open Tryz
theorem impl_OrderMoves_ok (w0 : World) (list : List (List Int)) (v1 : Value) (h1 : GT.rep (hp w0) [v1] list) (spare : Int) :
    ConM Tryz.prog 126 [v1, (nV spare)] w0 (impl_OrderMoves list spare) fun r v w' => ∃ (x1 : Value), v = (.tuple #[x1, (.bool (r.2))]) ∧ Mem w0 (hp w0) w' [ow [x1] r.1] := by
  unfold impl_OrderMoves
  refine gcon func126 rfl fun r => ?_
  have hm := Mem.start w0
  refine gS (gR (gA rfl (gA rfl (gE (gS (gS (gJ hm (fun ak => [(0, v1), (1, (nV spare)), (31, (.bool (ak)))]) (fun ak => []) (fun ak => ?_) ?_)))))))
  ·
   refine gR (gM rfl (gC hm rfl call194 (impl_areMoves_ok _ list v1 (hm.now h1)) fun cd ce w hm => gN rfl (gM rfl (gsn 17 rfl (fun bf => ?_) fun bf => ?_))))
   ·
    exact gO rfl (gO rfl (gO rfl (gKt rfl (gM rfl (gO rfl (gO rfl (gO rfl (gKt rfl (gM rfl (gO rfl (gO rfl (gO rfl (gKt rfl (gE (gz hm [] rfl)))))))))))))))
   refine gM rfl (gC hm rfl call75 (impl_atOnce_ok _ list v1 (hm.now h1)) fun cf cg w hm => gN rfl (gKf rfl (gM rfl (gsn 22 rfl (fun bg => ?_) fun bg => ?_))))
   ·
    exact gO rfl (gO rfl (gO rfl (gKt rfl (gM rfl (gO rfl (gO rfl (gO rfl (gKt rfl (gE (gz hm [] rfl))))))))))
   refine gM rfl (gC hm rfl call43 (impl_within_ok _ spare 0 299) fun cj ck w hm => gN rfl (gKf rfl (gM rfl (gsn 27 rfl (fun bh => ?_) fun bh => ?_))))
   ·
    exact gO rfl (gO rfl (gO rfl (gKt rfl (gE (gz hm [] rfl)))))
   exact gM rfl (gM rfl (gC hm rfl call195 (impl_namesReg_ok _ list v1 (hm.now h1) spare) fun cl cm w hm => gKf rfl (gE (gz hm [] rfl))))
  repeat clear hm
  intro ak w hm
  refine gs 31 rfl (fun bj => ?_) fun bj => ?_
  ·
   refine gct rfl (gS (gR (gA rfl (gA rfl (gE (gRt ?_))))))
   replace hm := hm.nilow (α := List Int)
   exact gr2 results126 rfl ⟨(.slice none 0 0), rfl, hm.pk [0] rfl rfl⟩
  refine gcf rfl (gSk (gS (gR (gAl hm zeroValue64 rfl fun aC w hm => gA rfl (gE (gS (gS (gR (gM rfl ?_)))))))))
  obtain ⟨bR, ay, rfl, cn⟩ := ro_slice h1
  refine gY (yV st_64 rfl) (gM rfl (gE (gBk ?_)))
  replace hm := hm.nilow (α := List Int)
  refine gNg (fun aY aS a w => ∃ (aG : Value), St 98 [(1, (nV spare)), (6, (pV aC)), (7, (.slice none 0 0)), (32, (.slice bR list.length ay)), (33, (nV ((list.length : Int)))), (34, (nV aY))] w0 (hp w0) [blk aC [aG] 64, ow [aG] aS] a w) (fun a hf => ⟨(.slice none 0 0), hf.sb rfl, hm.pk [1, 0] rfl rfl⟩) ?_ ?_
  ·
   repeat clear hm
   rintro _ _ aY aS a w ⟨aG, hf, hm⟩ co cq cr _
   refine gv hf (gS (gR (gB rfl (gE (gS (go _ 35 rfl (decide_eq_true (by omega)) (gct rfl (gSk (gS (gJg (fun az a w => ∃ (al : Value), St 98 [(1, (nV spare)), (6, (pV aC)), (7, (.slice none 0 0)), (32, (.slice bR list.length ay)), (33, (nV ((list.length : Int)))), (34, (nV aY))] w0 (hp w0) [blk aC [al] 64, ow [al] az] a w) (fun az => ?_) ?_))))))))))
   ·
    refine gBk (gS (gR (gg fun bA bk bB => ?_)))
    obtain ⟨bS, bT, ct, he⟩ := idx_form' h1 bB
    obtain ⟨rfl, _, rfl⟩ := sl3 he
    obtain ⟨_, _, bC, bl⟩ := ro_get' h1 bB
    have aV := bl
    obtain ⟨bU, rfl, -⟩ := id aV
    replace aV : GT.rep (hp w0) [bU] bA := aV
    replace bC : CellsAt (hp w0) bS (bT + (aY).toNat * 1) [bU] := bC
    refine gI st_64 bk (idx_lt bB) rfl (gY (yl isAgg57 ((bC.mono hm.lez).cell (j := 0) rfl) rfl) (gA rfl (gE (gS (gW (.p 0 (.p 1 (.p 3 (.p 4 (.q 2 (.e 5 (.p 6 .fin) .nil)))))) [5] [0, 1, 3, 4, 6] hm [0, 1] [blk aC [aG] 64, ow [aG] aS] rfl mxo (by kernel_rfl) (fun _ _ _ h => h.2) fun w hm hS => tP rfl (fun w => yM rfl) (gg fun bm bo bD => ?_))))))
    obtain ⟨bp, bq, br, he⟩ := idx_form aV bD
    subst he
    refine tP rfl (fun w => yI st_57 bo (idx_lt bD) rfl) (tP rfl (fun w => yM rfl) (gg fun bt bu bV => tP rfl (fun w => yI st_57 bu (idx_lt bV) rfl) (tQ rfl hS (fun w hm => yl isAgg3 ((flat_cells (cs := [(nV bm)]) (hm.now aV) bD rfl).cell (j := 0) rfl) rfl) (tO (tY rfl (yl isAgg3 ((flat_cells (cs := [(nV bt)]) (hm.now aV) bV rfl).cell (j := 0) rfl) rfl) (tAs hS (tP rfl (fun w => yB rfl) (tE (gJg (fun bE a w => ∃ (am : Value), St 98 [(1, (nV spare)), (6, (pV aC)), (7, (.slice none 0 0)), (32, (sV bS bT list.length ay)), (33, (nV ((list.length : Int)))), (34, (nV aY))] w0 (hp w0) [blk aC [am] 64, ow [am] bE] a w) (fun bE => ?_) ?_)))))))))
    ·
     refine gsd 44 rfl (fun bv => ?_) fun bv => ?_
     ·
      refine gct rfl (gW (.p 1 (.q 0 (.e 2 (.e 3 (.e 4 (.e 5 .fin .nil) .nil) .nil) .nil))) [2, 3] [1] hm [0, 1] [blk aC [aG] 64, ow [aG] aS] rfl mxo (by kernel_rfl) (fun _ _ _ h => h.2) fun w hm hS => tP rfl (fun w => yM rfl) (tQ rfl hS (fun w hm => yL hm 0 isAgg64 rfl) (tO (gb fun aQ bw => tf rfl rfl (fun a hf => e_call hf rfl call143 rfl (slices_Clone_S_int_int_ok _ bA (sV bp bq bA.length br) (hm.now aV) _ bw)) ?_))))
      rintro cu w ⟨_, rfl, hB⟩
      replace hm := hm.give hB; clear hB
      refine tAk hm [1, 2] rfl fun hS => tO ?_
      obtain ⟨aZ, aa, rfl, cv⟩ := ro_slice (hm.ow_rep 0 rfl)
      refine tf rfl rfl (fun a hf => e_build (vs := #[(0, (.slice aZ aQ.length aa))]) (cs := [(.slice aZ aQ.length aa)]) et_64 hf hm rfl rfl (by kernel_rfl) rfl rfl) ?_
      rintro _ w ⟨bF, rfl, hm⟩
      replace hm := hm.els_nil (α := List Int)
      replace hm := hm.imp (c' := ow [(.slice aZ aQ.length aa)] (aQ : List Int)) 2 rfl (fun F h0 => h0)
      replace hm := (hm.els_cons 0 2 (by decide) rfl rfl).pk (L' := [els [(.slice aZ aQ.length aa)] ([aQ] : List (List Int)), blk bF [(.slice aZ aQ.length aa)] 57, blk aC [aG] 64, ow [aG] aS]) [0, 1, 3, 4] rfl rfl
      replace hm := (hm.lit_els 1 0 (by decide) rfl rfl rfl rfl).pk (L' := [ow [(sV bF 0 1 1)] ([aQ] : List (List Int)), blk aC [aG] 64, ow [aG] aS]) [1, 2, 3] rfl rfl
      refine tAk hm [1, 2] rfl fun hS => tO (gb fun cw bx => ?_)
      obtain ⟨bz, cA⟩ := appM_some.1 bx
      replace hm := (hm.both 2 0 (by decide) rfl rfl).pk (L' := [blk aC [aG] 64, both (ow [aG] aS) (ow [(sV bF 0 1 1)] ([aQ] : List (List Int)))]) [1, 2] rfl rfl
      refine tf rfl rfl (fun a hf => e_appendD (xs := aS) (ys := ([aQ] : List (List Int))) 1 et_64 hf hm rfl rfl rfl rfl bz) ?_
      rintro cB w hm
      rw [cA] at hm
      refine tAn rfl (tO (tf0 rfl rfl (fun a hf => e_store1 0 hf hm rfl sizeOf64 rfl rfl rfl (rep_one (hm.ow_rep 1 rfl)) rfl) ?_))
      rintro _ w hm
      exact tAn rfl (tE (gZ fun a hf => ⟨cB, hf.sb rfl, hm.pk [0, 1] rfl rfl⟩))
     exact gcf rfl (gSk (gZ fun a hf => ⟨aG, hf.sb rfl, hm.pk [0, 1] rfl rfl⟩))
    repeat clear hm
    rintro bE a w ⟨am, hf, hm⟩
    exact gv hf (gZ fun a hf => ⟨am, hf.sb rfl, hm.pk [0, 1] rfl rfl⟩)
   repeat clear hm
   rintro az a w ⟨al, hf, hm⟩
   exact gv hf (gR (gP (by omega) (by omega) rfl (gM rfl (gE (gZe fun a hf => ⟨al, hf.sb rfl, hm.pk [0, 1] rfl rfl⟩)))))
  repeat clear hm
  rintro cx cC a w ⟨cy, hf, hm⟩ cz dA
  refine gv hf (gS (gR (gB rfl (gE (gS (go _ 35 rfl (decide_eq_false (by omega)) (gcf rfl (gXt (gHh (gS ?_))))))))))
  obtain ⟨cD, cE, rfl, dB⟩ := ro_slice (hm.ow_rep 1 rfl)
  refine gJg (fun bG a w => ∃ (an : Value), St 98 [(7, an)] w0 (hp w0) [ow [an] bG] a w) (fun bG => ?_) ?_
  ·
   refine gBk ?_
   replace hm := hm.nilow (α := List Int)
   refine gMg (fun aA a w => ∃ (bH aH : Value), St 98 [(1, (nV spare)), (6, (pV aC)), (7, aH)] w0 (hp w0) [blk aC [bH] 64, ow [bH] aA.1, ow [aH] aA.2] a w) (fun a hf => ⟨(.slice cD cC.length cE), (.slice none 0 0), hf.sb rfl, hm.pk [1, 2, 0] rfl rfl⟩) ?_
   repeat clear hm
   rintro dC cF aA a w ⟨bH, aH, hf, hm⟩ dD cG
   refine gv hf (gS (gS (gR (gL hm 0 isAgg64 rfl ?_))))
   obtain ⟨bW, aB, rfl, dE⟩ := ro_slice (hm.ow_rep 1 rfl)
   refine gY (yV st_64 rfl) (gB rfl (gE (gsd 53 rfl (fun cH => ?_) fun cH => ?_)))
   ·
    refine gct rfl (gSk (gJg (fun ao a w => ∃ (ap aq : Value), St 98 [(1, (nV spare)), (6, (pV aC)), (7, aq)] w0 (hp w0) [blk aC [ap] 64, ow [ap] ao.1, ow [aq] ao.2] a w) (fun ao => ?_) ?_))
    ·
     refine gBk (gS (gR (gL hm 0 isAgg64 rfl (gY (yU rfl) (gC hm rfl call50 (slices_IndexFunc_S_S_int_S_int_ok _ aA.1 (.slice bW aA.1.length aB) (hm.ow_rep 1 rfl) (fun y0 => impl_OrderMoves_1 y0 aA.1) (.func (.func 196) #[] #[(pV aC)]) (fun w y0 cI cJ r hB hq => ⟨196, [(pV aC)], rfl, call196, impl_OrderMoves_1_ok w y0 cI cJ aA.1 (.slice bW aA.1.length aB) (rep_later (hm.ow_rep 1 rfl) hB) aC (hm.blk_later 0 rfl hB) r hq⟩)) fun aJ dF w hm => gA rfl (gE (gS (gS (gR (gM rfl (gB rfl (gE (gsd 58 rfl (fun cK => ?_) fun cK => ?_)))))))))))))
     ·
      refine gct rfl (gS (gR (gM rfl (gL hm 0 isAgg64 rfl (gM rfl (gg fun aK bX ab => ?_))))))
      obtain ⟨aL, aM, dG, he⟩ := idx_form' (hm.ow_rep 1 rfl) ab
      obtain ⟨rfl, _, rfl⟩ := sl3 he
      obtain ⟨_, _, ar, cL⟩ := ro_get' (hm.ow_rep 1 rfl) ab
      have bJ := cL
      obtain ⟨bK, rfl, -⟩ := id bJ
      replace bJ : GT.rep (hp _) [bK] aK := bJ
      replace ar : CellsAt (hp _) aL (aM + (aJ).toNat * 1) [bK] := ar
      refine gI st_64 bX (idx_lt ab) rfl (gY (yl isAgg57 (ar.cell (j := 0) rfl) rfl) ?_)
      have dH := (List.getElem?_eq_some_iff.1 ab).1
      replace hm : Mem w0 (hp w0) _ [ow [bK] aK, blk aC [(sV aL aM aA.1.length aB)] 64, gap aL aM aA.1.length aB (List.take (aJ).toNat aA.1 : List (List Int)) (List.drop (aJ + 1).toNat aA.1 : List (List Int)), ow [aH] aA.2] := hm.gap_at (j := (aJ + 1).toNat) 1 rfl ab (by omega) ar rfl
      obtain ⟨dI, hgl3_1m⟩ := hm.gap_max 2 rfl
      obtain ⟨ac, ae, rfl, dJ⟩ := ro_slice (hm.ow_rep 0 rfl)
      refine gf rfl (fun a hf => e_build (vs := #[(0, (.slice ac aK.length ae))]) (cs := [(.slice ac aK.length ae)]) et_64 hf hm rfl rfl (by kernel_rfl) rfl rfl) ?_
      rintro _ w ⟨bL, rfl, hm⟩
      replace hm := hm.els_nil (α := List Int)
      replace hm := hm.imp (c' := ow [(.slice ac aK.length ae)] (aK : List Int)) 2 rfl (fun F h0 => h0)
      replace hm := (hm.els_cons 0 2 (by decide) rfl rfl).pk (L' := [els [(.slice ac aK.length ae)] ([aK] : List (List Int)), blk bL [(.slice ac aK.length ae)] 57, blk aC [(sV aL aM aA.1.length aB)] 64, gap aL aM aA.1.length aB (List.take (aJ).toNat aA.1 : List (List Int)) (List.drop (aJ + 1).toNat aA.1 : List (List Int)), ow [aH] aA.2]) [0, 1, 3, 4, 5] rfl rfl
      replace hm := (hm.lit_els 1 0 (by decide) rfl rfl rfl rfl).pk (L' := [ow [(sV bL 0 1 1)] ([aK] : List (List Int)), blk aC [(sV aL aM aA.1.length aB)] 64, gap aL aM aA.1.length aB (List.take (aJ).toNat aA.1 : List (List Int)) (List.drop (aJ + 1).toNat aA.1 : List (List Int)), ow [aH] aA.2]) [1, 2, 3, 4] rfl rfl
      refine gb fun bY cM => ?_
      obtain ⟨cN, cO⟩ := appM_some.1 cM
      replace hm := (hm.both 3 0 (by decide) rfl rfl).pk (L' := [blk aC [(sV aL aM aA.1.length aB)] 64, gap aL aM aA.1.length aB (List.take (aJ).toNat aA.1 : List (List Int)) (List.drop (aJ + 1).toNat aA.1 : List (List Int)), both (ow [aH] aA.2) (ow [(sV bL 0 1 1)] ([aK] : List (List Int)))]) [1, 2, 3] rfl rfl
      refine gf rfl (fun a hf => e_appendD (xs := aA.2) (ys := ([aK] : List (List Int))) 2 et_64 hf hm rfl rfl rfl rfl cN) ?_
      rintro bM w hm
      rw [cO] at hm
      refine gA rfl (gE (gS (gR (gL hm 0 isAgg64 rfl (gM rfl (gM rfl (gB rfl ?_)))))))
      obtain ⟨cP, hle, hm1, hsub, cQ⟩ := hm.take2 (L1 := [gap aL aM aA.1.length aB (List.take (aJ).toNat aA.1 : List (List Int)) (List.drop (aJ + 1).toNat aA.1 : List (List Int))]) (L2 := [blk aC [(sV aL aM aA.1.length aB)] 64, ow [bM] bY]) [1] [0, 2] (by decide) rfl rfl
      refine gCg rfl call199 (slices_Delete_S_S_int_S_int_ok _ cP hm1 bX (by simp only [List.length_take]; omega) (w64_id (by omega) (by omega)) (by simp only [List.length_take, List.length_drop]; omega)) ?_
      rintro cR dK bZ w b6
      replace hm : Mem w0 (hp w0) _ [ow [bZ] cR, blk aC [(sV aL aM aA.1.length aB)] 64, ow [bM] bY] := cQ _ _ b6
      clear b6
      exact gS1 hm 1 sizeOf64 (rep_one (hm.ow_rep 0 rfl)) rfl fun w hm => gE (gXt (gHh (gZ fun a hf => ⟨bZ, bM, hf.sb rfl, hm.pk [1, 0, 2] rfl rfl⟩)))
     refine gcf rfl (gSk (gS (gR (gL hm 0 isAgg64 rfl (gg fun aT cS af => ?_)))))
     obtain ⟨aD, aE, dL, he⟩ := idx_form' (hm.ow_rep 1 rfl) af
     obtain ⟨rfl, _, rfl⟩ := sl3 he
     obtain ⟨_, _, b7, cT⟩ := ro_get' (hm.ow_rep 1 rfl) af
     have bN := cT
     obtain ⟨b8, rfl, -⟩ := id bN
     replace bN : GT.rep (hp _) [b8] aT := bN
     replace b7 : CellsAt (hp _) aD (aE + (0 : Int).toNat * 1) [b8] := b7
     refine gI st_64 cS (idx_lt af) rfl ?_
     obtain ⟨_, cU, hm⟩ := hm.openE 1 rfl af
     have cV := hm.ow_rep 0 rfl
     have au := cV
     obtain ⟨ag, rfl, -⟩ := id au
     replace au : GT.rep (hp _) [ag] aT := au
     clear cU au
     replace hm : Mem w0 (hp w0) _ [ow [ag] (aT : List Int), blk aC [(sV aD aE aA.1.length aB)] 64, holeE aD aE aA.1.length aB (aA.1 : List (List Int)) (0 : Int).toNat [ag], ow [aH] aA.2] := hm
     replace hm := hm.pk (L' := [ow [ag] aT, blk aC [(sV aD aE aA.1.length aB)] 64, holeE aD aE aA.1.length aB (aA.1 : List (List Int)) (0 : Int).toNat [ag], ow [aH] aA.2]) [0, 1, 2, 3] rfl rfl
     refine gY (yl isAgg57 ((hm.holeE_at 2 rfl).cell (j := 0) rfl) rfl) (gg fun aN cW bO => ?_)
     obtain ⟨cX, cY, cZ, he⟩ := idx_form (hm.ow_rep 0 rfl) bO
     subst he
     refine gI st_57 cW (idx_lt bO) rfl (gY (yl isAgg3 ((flat_cells (cs := [(nV aN)]) (hm.ow_rep 0 rfl) bO rfl).cell (j := 0) rfl) rfl) (gA rfl (gE (gS ?_))))
     replace hm := hm.imp (c' := ow [(sV cX cY aT.length cZ)] (aT : List Int)) 0 rfl (fun F h0 => h0)
     replace hm := (hm.shutE (y := (aT : List Int)) 2 0 (by decide) rfl rfl).pk (L' := [blk aC [(sV aD aE aA.1.length aB)] 64, ow [(sV aD aE aA.1.length aB)] (aA.1.set (0 : Int).toNat aT), ow [aH] aA.2]) [1, 2, 3] rfl rfl
     rw [set_same af] at hm
     refine gR (gM rfl (gM rfl (gM rfl (gf rfl (fun a hf => e_build (vs := #[(0, (nV spare)), (1, (nV aN))]) (cs := [(nV spare), (nV aN)]) et_57 hf hm rfl rfl (by kernel_rfl) rfl rfl) ?_))))
     rintro _ w ⟨ah, rfl, hm⟩
     replace hm := hm.lit (xs := ([spare, aN] : List Int)) 0 rfl rfl rfl rfl
     refine gf rfl (fun a hf => e_build (vs := #[(0, (sV ah 0 2 2))]) (cs := [(sV ah 0 2 2)]) et_64 hf hm rfl rfl (by kernel_rfl) rfl rfl) ?_
     rintro _ w ⟨bP, rfl, hm⟩
     replace hm := hm.els_nil (α := List Int)
     replace hm := hm.imp (c' := ow [(sV ah 0 2 2)] (([spare, aN] : List Int) : List Int)) 2 rfl (fun F h0 => h0)
     replace hm := (hm.els_cons 0 2 (by decide) rfl rfl).pk (L' := [els [(sV ah 0 2 2)] ([([spare, aN] : List Int)] : List (List Int)), blk bP [(sV ah 0 2 2)] 57, blk aC [(sV aD aE aA.1.length aB)] 64, ow [(sV aD aE aA.1.length aB)] aA.1, ow [aH] aA.2]) [0, 1, 3, 4, 5] rfl rfl
     replace hm := (hm.lit_els 1 0 (by decide) rfl rfl rfl rfl).pk (L' := [ow [(sV bP 0 1 1)] ([([spare, aN] : List Int)] : List (List Int)), blk aC [(sV aD aE aA.1.length aB)] 64, ow [(sV aD aE aA.1.length aB)] aA.1, ow [aH] aA.2]) [1, 2, 3, 4] rfl rfl
     refine gb fun aF c4 => ?_
     obtain ⟨c5, c6⟩ := appM_some.1 c4
     replace hm := (hm.both 3 0 (by decide) rfl rfl).pk (L' := [blk aC [(sV aD aE aA.1.length aB)] 64, ow [(sV aD aE aA.1.length aB)] aA.1, both (ow [aH] aA.2) (ow [(sV bP 0 1 1)] ([([spare, aN] : List Int)] : List (List Int)))]) [1, 2, 3] rfl rfl
     refine gf rfl (fun a hf => e_appendD (xs := aA.2) (ys := ([([spare, aN] : List Int)] : List (List Int))) 2 et_64 hf hm rfl rfl rfl rfl c5) ?_
     rintro dM w hm
     rw [c6] at hm
     refine gA rfl (gE (gS (gR (gL hm 0 isAgg64 rfl (gY (yV st_64 rfl) (gM rfl (gE ?_)))))))
     obtain ⟨aO, aP, rfl, dN⟩ := ro_slice (hm.ow_rep 2 rfl)
     refine gBk (gNf hm (fun aR aW => [(1, (nV spare)), (6, (pV aC)), (7, (.slice aO aF.length aP)), (11, (nV aN)), (82, (sV aD aE aA.1.length aB)), (83, (nV ((aA.1.length : Int)))), (84, (nV aR))]) (fun aR aW => [blk aC [(sV aD aE aA.1.length aB)] 64, ow [(sV aD aE aA.1.length aB)] aW, ow [(.slice aO aF.length aP)] aF]) [0, 1, 2] rfl ?_ ?_)
     ·
      repeat clear hm
      intro _ _ aR aW w hm dO dP dQ _
      refine gS (gR (gB rfl (gE (gS (go _ 85 rfl (decide_eq_true (by omega)) (gct rfl (gSk (gS (gJ hm (fun av => [(1, (nV spare)), (6, (pV aC)), (7, (.slice aO aF.length aP)), (11, (nV aN)), (82, (sV aD aE aA.1.length aB)), (83, (nV ((aA.1.length : Int)))), (84, (nV aR))]) (fun av => [blk aC [(sV aD aE aA.1.length aB)] 64, ow [(sV aD aE aA.1.length aB)] av, ow [(.slice aO aF.length aP)] aF]) (fun av => ?_) ?_)))))))))
      ·
       refine gBk (gS (gR (gg fun aI c7 ai => ?_)))
       obtain ⟨_, _, b9, c8⟩ := ro_get' (hm.ow_rep 1 rfl) ai
       have bQ := c8
       obtain ⟨ba, rfl, -⟩ := id bQ
       replace bQ : GT.rep (hp _) [ba] aI := bQ
       replace b9 : CellsAt (hp _) aD (aE + (aR).toNat * 1) [ba] := b9
       have hL5_1 := rep_slice_len (hm.ow_rep 1 rfl)
       refine gI st_64 c7 (idx_lt2 ai hL5_1) rfl ?_
       obtain ⟨_, c9, hm⟩ := hm.openE 1 rfl ai
       have ca := hm.ow_rep 0 rfl
       have aw := ca
       obtain ⟨aj, rfl, -⟩ := id aw
       replace aw : GT.rep (hp _) [aj] aI := aw
       clear c9 aw
       replace hm : Mem w0 (hp w0) _ [ow [aj] (aI : List Int), blk aC [(sV aD aE aA.1.length aB)] 64, holeE aD aE aA.1.length aB (aW : List (List Int)) (aR).toNat [aj], ow [(.slice aO aF.length aP)] aF] := hm
       replace hm := hm.pk (L' := [ow [aj] aI, blk aC [(sV aD aE aA.1.length aB)] 64, holeE aD aE aA.1.length aB (aW : List (List Int)) (aR).toNat [aj], ow [(.slice aO aF.length aP)] aF]) [0, 1, 2, 3] rfl rfl
       refine gY (yl isAgg57 ((hm.holeE_at 2 rfl).cell (j := 0) rfl) rfl) (gA rfl (gE (gS (gR (gM rfl (gg fun cb bb aX => ?_))))))
       obtain ⟨bc, bd, be, he⟩ := idx_form (hm.ow_rep 0 rfl) aX
       subst he
       refine gI st_57 bb (idx_lt aX) rfl (gY (yl isAgg3 ((flat_cells (cs := [(nV cb)]) (hm.ow_rep 0 rfl) aX rfl).cell (j := 0) rfl) rfl) (gM rfl (gB rfl (gE (gJ hm (fun ax => [(1, (nV spare)), (6, (pV aC)), (7, (.slice aO aF.length aP)), (11, (nV aN)), (82, (sV aD aE aA.1.length aB)), (83, (nV ((aA.1.length : Int)))), (84, (nV aR))]) (fun ax => [blk aC [(sV aD aE aA.1.length aB)] 64, ow [(sV aD aE aA.1.length aB)] ax, ow [(.slice aO aF.length aP)] aF]) (fun ax => ?_) ?_)))))
       ·
        refine gsd 92 rfl (fun cc => ?_) fun cc => ?_
        ·
         refine gct rfl (gR (gM rfl (gM rfl (gI st_57 bb (idx_lt aX) rfl (gf0 rfl (fun a hf => e_setElem (x1 := spare) (j := 0) (vs := [(nV spare)]) 0 hf hm rfl aX rfl sizeOf3 rfl rfl rfl (one_cons rfl one_nil) rfl rfl) ?_)))))
         rintro _ w hm
         have dR := List.getElem?_set_self (a := spare) (idx_lt aX)
         refine gE ?_
         replace hm := hm.imp (c' := ow [(sV bc bd aI.length be)] ((aI.set (1 : Int).toNat spare) : List Int)) 0 rfl (fun F h0 => h0)
         replace hm := (hm.shutE (y := ((aI.set (1 : Int).toNat spare) : List Int)) 2 0 (by decide) rfl rfl).pk (L' := [blk aC [(sV aD aE aA.1.length aB)] 64, ow [(sV aD aE aA.1.length aB)] (aW.set (aR).toNat (aI.set (1 : Int).toNat spare)), ow [(.slice aO aF.length aP)] aF]) [1, 2, 3] rfl rfl
         have dS := List.getElem?_set_self (a := ((aI.set (1 : Int).toNat spare) : List Int)) (idx_lt ai)
         exact gz hm [0, 1, 2] rfl
        refine gcf rfl (gSk ?_)
        replace hm := hm.imp (c' := ow [(sV bc bd aI.length be)] (aI : List Int)) 0 rfl (fun F h0 => h0)
        replace hm := (hm.shutE (y := (aI : List Int)) 2 0 (by decide) rfl rfl).pk (L' := [blk aC [(sV aD aE aA.1.length aB)] 64, ow [(sV aD aE aA.1.length aB)] (aW.set (aR).toNat aI), ow [(.slice aO aF.length aP)] aF]) [1, 2, 3] rfl rfl
        rw [set_same ai] at hm
        exact gz hm [0, 1, 2] rfl
       repeat clear hm
       intro ax w hm
       exact gz hm [0, 1, 2] rfl
      repeat clear hm
      intro av w hm
      exact gR (gP (by omega) (by omega) rfl (gM rfl (gE (gze hm [0, 1, 2] rfl))))
     repeat clear hm
     intro dT dU w hm dV dW
     exact gS (gR (gB rfl (gE (gS (go _ 85 rfl (decide_eq_false (by omega)) (gcf rfl (gXt (gHh (gZ fun a hf => ⟨(sV aD aE aA.1.length aB), (.slice aO aF.length aP), hf.sb rfl, hm.pk [0, 1, 2] rfl rfl⟩)))))))))
    repeat clear hm
    rintro ao a w ⟨ap, aq, hf, hm⟩
    exact gv hf (gZe fun a hf => ⟨ap, aq, hf.sb rfl, hm.pk [0, 1, 2] rfl rfl⟩)
   exact gcf rfl (gXt (gHh (gLp cG cF (gZ fun a hf => ⟨aH, hf.sb rfl, hm.pk [2] rfl rfl⟩))))
  repeat clear hm
  rintro bG a w ⟨an, hf, hm⟩
  exact gv hf (gS (gR (gM rfl (gA rfl (gA rfl (gE (gRt (gr2 results126 rfl ⟨an, rfl, hm.pk [0] rfl rfl⟩))))))))
theorem impl_mapped_S_int_impl_Ins_ok (w0 : World) (list : List (List Int)) (v1 : Value) (h1 : GT.rep (hp w0) [v1] list) (f : (List Int) → Option Ins_) (fv1 : Value) (hfn1 : ∀ (w : World) (y0 : List Int) (z1 : Value) (_ : GT.rep (hp w) [z1] y0) (r : Ins_), Below w0.heap.size w0 w → f y0 = some r → FnOk Tryz.prog fv1 [z1] w (fun v w' => ∃ (x1 : Value), v = (.agg #[(nV r.op), (nV r.to), x1, (nV r.n_)]) ∧ Mem w (hp w) w' [ow [x1] r.args])) :
    ConM Tryz.prog 127 [v1, fv1] w0 (impl_mapped_S_int_impl_Ins list f) fun r v w' => ∃ (x1 : Value), v = x1 ∧ Mem w0 (hp w0) w' [ow [x1] r] := by
  unfold impl_mapped_S_int_impl_Ins
  refine gcon func127 rfl fun r => ?_
  have hm := Mem.start w0
  refine gS (gR (gA rfl (gE (gS (gR (gA rfl (gE (gS (gS (gR (gM rfl ?_)))))))))))
  obtain ⟨aL, aM, rfl, aY⟩ := ro_slice h1
  refine gY (yV st_64 rfl) (gM rfl (gE (gBk ?_)))
  replace hm := hm.nilow (α := Ins_)
  refine gNg (fun aG aB a w => ∃ (aC : Value), St 22 [(1, fv1), (5, aC), (8, (.slice aL list.length aM)), (9, (nV ((list.length : Int)))), (10, (nV aG))] w0 (hp w0) [ow [aC] aB] a w) (fun a hf => ⟨(.slice none 0 0), hf.sb rfl, hm.pk [0] rfl rfl⟩) ?_ ?_
  ·
   repeat clear hm
   rintro _ _ aG aB a w ⟨aC, hf, hm⟩ aZ aa ab _
   refine gv hf (gS (gR (gB rfl (gE (gS (go _ 11 rfl (decide_eq_true (by omega)) (gct rfl (gSk (gS (gBk (gS (gR (gg fun aK aN aH => ?_)))))))))))))
   obtain ⟨aO, aP, ac, he⟩ := idx_form' h1 aH
   obtain ⟨rfl, _, rfl⟩ := sl3 he
   obtain ⟨_, _, aI, aQ⟩ := ro_get' h1 aH
   have aE := aQ
   obtain ⟨aJ, rfl, -⟩ := id aE
   replace aE : GT.rep (hp w0) [aJ] aK := aE
   replace aI : CellsAt (hp w0) aO (aP + (aG).toNat * 1) [aJ] := aI
   refine gI st_64 aN (idx_lt aH) rfl (gY (yl isAgg57 ((aI.mono hm.lez).cell (j := 0) rfl) rfl) (gA rfl (gE (gR (gM rfl (gM rfl (gM rfl (gb fun aA aR => gf rfl (fun a hf => e_callv hf rfl rfl rfl (hfn1 _ aK aJ (hm.now aE) _ hm.below aR)) ?_))))))))
   rintro ae w ⟨aD, rfl, hB⟩
   replace hm := hm.give hB; clear hB
   refine gf rfl (fun a hf => e_build (vs := #[(0, (.agg #[(nV aA.op), (nV aA.to), aD, (nV aA.n_)]))]) (cs := [(nV aA.op), (nV aA.to), aD, (nV aA.n_)]) et_56 hf hm rfl rfl (by kernel_rfl) rfl rfl) ?_
   rintro _ w ⟨aF, rfl, hm⟩
   replace hm := hm.els_nil (α := Ins_)
   replace hm : Mem w0 (hp w0) _ [els [] ([] : List Ins_), blk aF [(nV aA.op), (nV aA.to), aD, (nV aA.n_)] 61, ow [(nV aA.op), (nV aA.to), aD, (nV aA.n_)] (aA : Ins_), ow [aC] aB] := mk_Ins_ aA.op aA.to aA.n_ hm 2 rfl
   replace hm := (hm.els_cons 0 2 (by decide) rfl rfl).pk (L' := [els [(nV aA.op), (nV aA.to), aD, (nV aA.n_)] ([aA] : List Ins_), blk aF [(nV aA.op), (nV aA.to), aD, (nV aA.n_)] 61, ow [aC] aB]) [0, 1, 3] rfl rfl
   replace hm := (hm.lit_els 1 0 (by decide) rfl rfl rfl rfl).pk (L' := [ow [(sV aF 0 1 1)] ([aA] : List Ins_), ow [aC] aB]) [1, 2] rfl rfl
   refine gb fun af aS => ?_
   obtain ⟨aT, aV⟩ := appM_some.1 aS
   replace hm := (hm.both 1 0 (by decide) rfl rfl).pk (L' := [both (ow [aC] aB) (ow [(sV aF 0 1 1)] ([aA] : List Ins_))]) [1] rfl rfl
   refine gf rfl (fun a hf => e_appendD (xs := aB) (ys := ([aA] : List Ins_)) 0 et_56 hf hm rfl rfl rfl rfl aT) ?_
   rintro aW w hm
   rw [aV] at hm
   exact gA rfl (gE (gR (gP (by omega) (by omega) rfl (gM rfl (gE (gZe fun a hf => ⟨aW, hf.sb rfl, hm.pk [0] rfl rfl⟩))))))
  repeat clear hm
  rintro ag ah a w ⟨aX, hf, hm⟩ ai aj
  exact gv hf (gS (gR (gB rfl (gE (gS (go _ 11 rfl (decide_eq_false (by omega)) (gcf rfl (gXt (gHh (gS (gR (gM rfl (gA rfl (gE (gRt (gr1 results127 rfl ⟨aX, rfl, hm.pk [0] rfl rfl⟩))))))))))))))))
theorem impl_copies_1_ok (w0 : World) (m : List Int) (v1 : Value) (h1 : GT.rep (hp w0) [v1] m) :
    ConM Tryz.prog 128 [v1] w0 (impl_copies_1 m) fun r v w' => ∃ (x1 : Value), v = (.agg #[(nV r.op), (nV r.to), x1, (nV r.n_)]) ∧ Mem w0 (hp w0) w' [ow [x1] r.args] := by
  unfold impl_copies_1
  refine gcon func128 rfl fun r => ?_
  have hm := Mem.start w0
  refine gS (gR (gAl hm zeroValue61 rfl fun aF w hm => gE (gS (gW (.p 0 (.p 1 (.p 3 (.p 4 (.q 2 (.e 5 (.e 6 (.p 7 (.e 8 .fin .nil)) .nil) .nil)))))) [5, 6] [0, 1, 3, 4, 7] hm [0] [blk aF [(nV 0), (nV 0), (.slice none 0 0), (nV 0)] 61] rfl mxo (by kernel_rfl) (fun _ _ _ h => h.2) fun w hm hS => tP rfl (fun w => yM rfl) (gg fun aB aG aC => ?_)))))
  obtain ⟨aI, aJ, aK, he⟩ := idx_form h1 aC
  subst he
  refine tP rfl (fun w => yI st_57 aG (idx_lt aC) rfl) (tP rfl (fun w => yM rfl) (gg fun aA aH aE => tP rfl (fun w => yI st_57 aH (idx_lt aE) rfl) (tQ rfl hS (fun w hm => yl isAgg3 ((flat_cells (cs := [(nV aB)]) (hm.now h1) aC rfl).cell (j := 0) rfl) rfl) (tO (tY rfl (yl isAgg3 ((flat_cells (cs := [(nV aA)]) (hm.now h1) aE rfl).cell (j := 0) rfl) rfl) (tAs hS (tO (tf rfl rfl (fun a hf => e_build (vs := #[(0, (nV aA))]) (cs := [(nV aA)]) et_57 hf hm rfl rfl (by kernel_rfl) rfl rfl) ?_))))))))
  rintro _ w ⟨aD, rfl, hm⟩
  replace hm := hm.lit (xs := ([aA] : List Int)) 0 rfl rfl rfl rfl
  refine tAk hm [1] rfl fun hS => tP rfl (fun w => yG rfl (y_build (vs := [(0, (nV 2)), (1, (nV aB)), (2, (sV aD 0 1 1))]) (cs := #[(nV 2), (nV aB), (sV aD 0 1 1), (nV 0)]) rfl rfl (by kernel_rfl))) (tO (tf0 rfl rfl (fun a hf => e_storeN 1 hf hm rfl sizeOf61 rfl rfl rfl (one_cons rfl (one_cons rfl (one_cons rfl (one_cons rfl one_nil)))) rfl rfl) ?_))
  rintro _ w hm
  exact tAn rfl (tE (gRt (grc 1 results128 hm rfl isAgg61 sizeOf61 ⟨(sV aD 0 1 1), rfl, hm.pk [0] rfl rfl⟩)))
theorem impl_copies_ok (w0 : World) (moves : List (List Int)) (v1 : Value) (h1 : GT.rep (hp w0) [v1] moves) (spare : Int) :
    ConM Tryz.prog 80 [v1, (nV spare)] w0 (impl_copies moves spare) fun r v w' => ∃ (x1 : Value), v = x1 ∧ Mem w0 (hp w0) w' [ow [x1] r] := by
  unfold impl_copies
  refine gcon func80 rfl fun r => ?_
  have hm := Mem.start w0
  refine gS (gR (gA rfl (gE (gS (gR (gM rfl (gM rfl (gCg rfl call126 (impl_OrderMoves_ok _ moves v1 (hm.now h1) spare) ?_))))))))
  rintro aA aF aG w ⟨aB, rfl, hB⟩
  replace hm := hm.give hB; clear hB
  refine gM rfl (gX rfl (gX rfl (gA rfl (gA rfl (gE (gS (gR (gM rfl (gCg rfl call127 (impl_mapped_S_int_impl_Ins_ok _ aA.1 aB (hm.ow_rep 0 rfl) (fun y0 => impl_copies_1 y0) (.func (.func 128) #[] #[]) (fun w y0 aC aD r hB hq => ⟨128, [], rfl, call128, impl_copies_1_ok w y0 aC aD  r hq⟩)) ?_)))))))))
  rintro aH aI aE w ⟨_, rfl, hB⟩
  replace hm := hm.give hB; clear hB
  exact gA rfl (gE (gRt (gr1 results80 rfl ⟨aE, rfl, hm.pk [0] rfl rfl⟩)))
theorem impl_plain_ok (w0 : World) (c_ : Code_) (v1 : Value) (h1 : GT.rep (hp w0) [v1] c_.blocks) :
    ConM Tryz.prog 33 [(.agg #[(nV c_.params), (nV c_.regs), v1])] w0 (impl_plain c_) fun r v w' => ∃ (x1 : Value), v = (.tuple #[(.agg #[(nV r.1.params), (nV r.1.regs), x1]), (.bool (r.2))]) ∧ Mem w0 (hp w0) w' [ow [x1] r.1.blocks] := by
  unfold impl_plain
  refine gcon func33 rfl fun r => ?_
  have hm := Mem.start w0
  refine gS (gR (gBx hm rfl fun aJ w hm => gAl hm zeroValue44 rfl fun aK w hm => gA rfl (gE (gS (gR (gY (yn (hm.blk_at 1 rfl) isAgg44 sizeOf44 rfl) (gCg rfl call73 (impl_cloneCode_ok _ c_ v1 (hm.now h1)) ?_)))))))
  rintro aA cM cN w ⟨bf, rfl, hB⟩
  replace hm := hm.give hB; clear hB
  refine gAl hm zeroValue44 rfl fun aL w hm => gSN hm 0 sizeOf44 (one_cons rfl (one_cons rfl (one_cons (rep_one (hm.ow_rep 1 rfl)) one_nil))) rfl fun w hm => gE (gS (gS (gR (gY (yn (hm.blk_at 3 rfl) isAgg44 sizeOf44 rfl) (gC hm rfl call74 (impl_phiCount_ok _ c_ v1 (hm.now h1)) fun cO cP w hm => gB rfl (gE (gsd 16 rfl (fun bg => ?_) fun bg => ?_)))))))
  ·
   exact gct rfl (gS (gR (gY (yn (hm.blk_at 0 rfl) isAgg44 sizeOf44 rfl) (gSN hm 2 sizeOf44 (one_cons rfl (one_cons rfl (one_cons (rep_one (hm.ow_rep 1 rfl)) one_nil))) rfl fun w hm => gA rfl (gE (gRt (grct 2 results33 hm rfl isAgg44 sizeOf44 ⟨bf, rfl, hm.pk [1] rfl rfl⟩)))))))
  refine gcf rfl (gSk (gS (gR (gF fo_44_1 rfl (gL hm 3 isAgg3 rfl (gA rfl (gE (gS (gR (gF fo_44_1 rfl (gL hm 0 isAgg3 rfl (gB rfl (gF fo_44_1 rfl (gS1 hm 0 sizeOf3 rfl rfl fun w hm => gE (gS (gS (gR (gF fo_44_2 rfl (gL hm 3 isAgg42 rfl ?_)))))))))))))))))))
  obtain ⟨bC, aI, rfl, cQ⟩ := ro_slice h1
  refine gY (yV st_42 rfl) (gM rfl (gE ?_))
  obtain ⟨bA, aF, rfl, cR⟩ := ro_slice (hm.ow_rep 1 rfl)
  refine gBk (gNf hm (fun aR ak => [(1, (pV aJ)), (2, (pV aK)), (4, (pV aL)), (5, (nV c_.regs)), (25, (.slice bC c_.blocks.length aI)), (26, (nV ((c_.blocks.length : Int)))), (27, (nV aR))]) (fun aR ak => [blk aJ [(nV c_.params), (nV c_.regs), (.slice bC c_.blocks.length aI)] 44, blk aK [(nV 0), (nV 0), (.slice none 0 0)] 44, blk aL [(nV aA.params), (nV (w64 (aA.regs + 1))), (.slice bA aA.blocks.length aF)] 44, ow [(.slice bA aA.blocks.length aF)] ak]) [3, 2, 0, 1] rfl ?_ ?_)
  ·
   repeat clear hm
   intro cS bh aR ak w hm cT cU cV bj
   refine gS (gR (gB rfl (gE (gS (go _ 28 rfl (decide_eq_true (by omega)) (gct rfl (gSk (gS (gJe hm (fun bO => [(1, (pV aJ)), (2, (pV aK)), (4, (pV aL)), (5, (nV c_.regs)), (25, (.slice bC c_.blocks.length aI)), (26, (nV ((c_.blocks.length : Int)))), (27, (nV aR))]) (fun bO => [blk aJ [(nV c_.params), (nV c_.regs), (.slice bC c_.blocks.length aI)] 44, blk aK [(nV 0), (nV 0), (.slice none 0 0)] 44, blk aL [(nV aA.params), (nV (w64 (aA.regs + 1))), (.slice bA aA.blocks.length aF)] 44, ow [(.slice bA aA.blocks.length aF)] bO]) (fun cW bk => ?_) ?_)))))))))
   ·
    refine gBk (gS (gR (gM rfl (gg fun aB bl bP => ?_))))
    obtain ⟨aM, aN, cX, he⟩ := idx_form' h1 bP
    obtain ⟨rfl, _, rfl⟩ := sl3 he
    obtain ⟨cY, aV, aW, bm, bD, bo, bp⟩ := rk_Block_ h1 bP
    refine gI st_42 bl (idx_lt bP) rfl (gY (yn (bm.mono hm.lez) isAgg59 sizeOf59 rfl) (gAl hm zeroValue59 rfl fun aO w hm => gA rfl (gSN hm 0 sizeOf59 (one_cons (rep_one bD) (one_cons (rep_one bo) (one_cons rfl (one_cons rfl (one_cons (rep_one bp) one_nil))))) rfl fun w hm => gE (gS (gS (gR (gF fo_59_0 rfl (gL hm 0 isAgg55 rfl ?_))))))))
    obtain ⟨aS, aT, rfl, cZ⟩ := ro_slice bD
    refine gY (yV st_55 rfl) (gB rfl (gE (gsd 35 rfl (fun bq => ?_) fun bq => ?_)))
    ·
     exact gct rfl (gXt (gHh (gze hm [1, 2, 3, 4] rfl)))
    refine gcf rfl (gSk (gS (gR (gF fo_44_2 rfl (gL hm 3 isAgg42 rfl (gM rfl (gg fun aP br bB => ?_)))))))
    obtain ⟨aG, aH, c4, he⟩ := idx_form' (hm.ow_rep 4 rfl) bB
    obtain ⟨rfl, _, rfl⟩ := sl3 he
    obtain ⟨c5, c6, c7, c8, c9, ca, cb⟩ := rk_Block_ (hm.ow_rep 4 rfl) bB
    have hL2_1 := rep_slice_len (hm.ow_rep 4 rfl)
    refine gI st_42 br (idx_lt2 bB hL2_1) rfl (gF fo_59_0 rfl ?_)
    obtain ⟨bQ, bE, bF, hm⟩ := pin_Block_ hm 4 rfl bB
    have bW : ∀ u ∈ ([(.slice none 0 0)] : List Value), u.oneCell' = true := (one_cons rfl one_nil)
    refine gf0 rfl (fun a hf => e_storeH (j := 0) (vs := [(.slice none 0 0)]) 7 hf hm rfl rfl rfl sizeOf55 rfl rfl (cells_one (bW _ (List.mem_singleton.2 rfl))) bW rfl) ?_
    rintro _ w hm
    replace hm : Mem w0 (hp w0) _ [ow [bF] aP.next_, ow [bE] aP.ins, ow [bQ] aP.phis, blk aO [(.slice aS aB.phis.length aT), aV, (nV aB.jump), (nV aB.on), aW] 59, blk aJ [(nV c_.params), (nV c_.regs), (sV aM aN c_.blocks.length aI)] 44, blk aK [(nV 0), (nV 0), (.slice none 0 0)] 44, blk aL [(nV aA.params), (nV (w64 (aA.regs + 1))), (sV aG aH aA.blocks.length aF)] 44, holeE aG aH aA.blocks.length aF (ak : List Block_) (aR).toNat [(.slice none 0 0), bE, (nV aP.jump), (nV aP.on), bF]] := hm
    refine gE (gS (gS ?_))
    replace hm := hm.nilow (α := Phi_)
    replace hm := (mk_Block_ aP.jump aP.on hm 0 2 1 rfl).pk (L' := [ow [(.slice none 0 0), bE, (nV aP.jump), (nV aP.on), bF] ((⟨[], aP.ins, aP.jump, aP.on, aP.next_⟩ : Block_) : Block_), ow [bQ] aP.phis, blk aO [(.slice aS aB.phis.length aT), aV, (nV aB.jump), (nV aB.on), aW] 59, blk aJ [(nV c_.params), (nV c_.regs), (sV aM aN c_.blocks.length aI)] 44, blk aK [(nV 0), (nV 0), (.slice none 0 0)] 44, blk aL [(nV aA.params), (nV (w64 (aA.regs + 1))), (sV aG aH aA.blocks.length aF)] 44, holeE aG aH aA.blocks.length aF (ak : List Block_) (aR).toNat [(.slice none 0 0), bE, (nV aP.jump), (nV aP.on), bF]]) [0, 3, 4, 5, 6, 7, 8] rfl rfl
    replace hm := (hm.shutE (y := ((⟨[], aP.ins, aP.jump, aP.on, aP.next_⟩ : Block_) : Block_)) 6 0 (by decide) rfl rfl).pk (L' := [ow [bQ] aP.phis, blk aO [(.slice aS aB.phis.length aT), aV, (nV aB.jump), (nV aB.on), aW] 59, blk aJ [(nV c_.params), (nV c_.regs), (sV aM aN c_.blocks.length aI)] 44, blk aK [(nV 0), (nV 0), (.slice none 0 0)] 44, blk aL [(nV aA.params), (nV (w64 (aA.regs + 1))), (sV aG aH aA.blocks.length aF)] 44, ow [(sV aG aH aA.blocks.length aF)] (ak.set (aR).toNat (⟨[], aP.ins, aP.jump, aP.on, aP.next_⟩ : Block_))]) [1, 2, 3, 4, 5, 6] rfl rfl
    have cc := List.getElem?_set_self (a := ((⟨[], aP.ins, aP.jump, aP.on, aP.next_⟩ : Block_) : Block_)) (idx_lt bB)
    refine gJ hm (fun bG => [(1, (pV aJ)), (2, (pV aK)), (4, (pV aL)), (5, (nV c_.regs)), (6, (nV aR)), (7, (pV aO)), (25, (sV aM aN c_.blocks.length aI)), (26, (nV ((c_.blocks.length : Int)))), (27, (nV aR)), (49, (.bool (bG)))]) (fun bG => [blk aJ [(nV c_.params), (nV c_.regs), (sV aM aN c_.blocks.length aI)] 44, blk aK [(nV 0), (nV 0), (.slice none 0 0)] 44, blk aL [(nV aA.params), (nV (w64 (aA.regs + 1))), (sV aG aH aA.blocks.length aF)] 44, ow [(sV aG aH aA.blocks.length aF)] (ak.set (aR).toNat (⟨[], aP.ins, aP.jump, aP.on, aP.next_⟩ : Block_)), blk aO [(.slice aS aB.phis.length aT), aV, (nV aB.jump), (nV aB.on), aW] 59]) (fun bG => ?_) ?_
    ·
     refine gR (gM rfl (gB rfl (gM rfl (gsd 43 rfl (fun bt => ?_) fun bt => ?_))))
     ·
      exact gO rfl (gO rfl (gO rfl (gO rfl (gO rfl (gKt rfl (gE (gz hm [2, 3, 4, 5, 1] rfl)))))))
     refine gF fo_59_0 rfl (gL hm 1 isAgg55 rfl (gCg rfl call76 (impl_mapped_impl_Phi_S_int_ok _ aB.phis (.slice aS aB.phis.length aT) (hm.now bD) (fun y0 => impl_plain_1 y0) (.func (.func 77) #[] #[]) (fun w y0 bR bS r hB hq => ⟨77, [], rfl, call77, impl_plain_1_ok w y0 bR bS  r hq⟩)) ?_))
     rintro bu cd bv w ⟨_, rfl, hB⟩
     replace hm := hm.give hB; clear hB
     exact gC hm rfl call75 (impl_atOnce_ok _ bu bv (hm.ow_rep 0 rfl)) fun ce cf w hm => gN rfl (gKf rfl (gE (gz hm [3, 4, 5, 6, 2] rfl)))
    repeat clear hm
    intro bG w hm
    refine gs 49 rfl (fun bw => ?_) fun bw => ?_
    ·
     refine gct rfl (gS (gR (gY (yG rfl (y_build (vs := []) (cs := #[(nV 0), (nV 0), (.slice none 0 0)]) rfl rfl (by kernel_rfl))) (gSN hm 1 sizeOf44 (one_cons rfl (one_cons rfl (one_cons rfl one_nil))) rfl fun w hm => gA rfl (gE (gRt (gEr bk (gLr bj bh ?_))))))))
     replace hm := hm.nilow (α := Block_)
     exact grct 2 results33 hm rfl isAgg44 sizeOf44 ⟨(.slice none 0 0), rfl, hm.pk [0] rfl rfl⟩
    refine gcf rfl (gSk (gS (gR (gY (yn (hm.blk_at 0 rfl) isAgg44 sizeOf44 rfl) (gM rfl (gCg rfl call78 (impl_PredsOf_ok _ c_ (sV aM aN c_.blocks.length aI) (hm.now h1) aR) ?_))))))
    rintro aE cg cj w ⟨_, rfl, hB⟩
    replace hm := hm.give hB; clear hB
    refine gA rfl (gE (gS (gR (gM rfl ?_))))
    obtain ⟨al, aQ, rfl, ck⟩ := ro_slice (hm.ow_rep 0 rfl)
    refine gY (yV st_57 rfl) (gM rfl (gE (gBk (gNf hm (fun aX ae => [(1, (pV aJ)), (2, (pV aK)), (4, (pV aL)), (5, (nV c_.regs)), (6, (nV aR)), (7, (pV aO)), (8, (.slice al aE.length aQ)), (25, (sV aM aN c_.blocks.length aI)), (26, (nV ((c_.blocks.length : Int)))), (27, (nV aR)), (54, (.slice al aE.length aQ)), (55, (nV ((aE.length : Int)))), (56, (nV aX))]) (fun aX ae => [blk aJ [(nV c_.params), (nV c_.regs), (sV aM aN c_.blocks.length aI)] 44, blk aK [(nV 0), (nV 0), (.slice none 0 0)] 44, blk aL [(nV aA.params), (nV (w64 (aA.regs + 1))), (sV aG aH aA.blocks.length aF)] 44, ow [(sV aG aH aA.blocks.length aF)] ae, blk aO [(.slice aS aB.phis.length aT), aV, (nV aB.jump), (nV aB.on), aW] 59, ow [(.slice al aE.length aQ)] aE]) [1, 2, 3, 4, 5, 0] rfl ?_ ?_))))
    ·
     repeat clear hm
     intro _ _ aX ae w hm cl cm cn _
     refine gS (gR (gB rfl (gE (gS (go _ 57 rfl (decide_eq_true (by omega)) (gct rfl (gSk (gS (gJ hm (fun bH => [(1, (pV aJ)), (2, (pV aK)), (4, (pV aL)), (5, (nV c_.regs)), (6, (nV aR)), (7, (pV aO)), (8, (.slice al aE.length aQ)), (25, (sV aM aN c_.blocks.length aI)), (26, (nV ((c_.blocks.length : Int)))), (27, (nV aR)), (54, (.slice al aE.length aQ)), (55, (nV ((aE.length : Int)))), (56, (nV aX))]) (fun bH => [blk aJ [(nV c_.params), (nV c_.regs), (sV aM aN c_.blocks.length aI)] 44, blk aK [(nV 0), (nV 0), (.slice none 0 0)] 44, blk aL [(nV aA.params), (nV (w64 (aA.regs + 1))), (sV aG aH aA.blocks.length aF)] 44, ow [(sV aG aH aA.blocks.length aF)] bH, blk aO [(.slice aS aB.phis.length aT), aV, (nV aB.jump), (nV aB.on), aW] 59, ow [(.slice al aE.length aQ)] aE]) (fun bH => ?_) ?_)))))))))
     ·
      refine gBk (gS (gR (gM rfl (gg fun ah bx bT => ?_))))
      obtain ⟨aY, aZ, co, he⟩ := idx_form (hm.ow_rep 5 rfl) bT
      obtain ⟨rfl, _, rfl⟩ := sl3 he
      refine gI st_57 bx (idx_lt bT) rfl (gY (yl isAgg3 ((flat_cells (cs := [(nV ah)]) (hm.ow_rep 5 rfl) bT rfl).cell (j := 0) rfl) rfl) (gAl hm zeroValue3 rfl fun ac w hm => gS1 hm 0 sizeOf3 rfl rfl fun w hm => gA rfl (gE (gS (gR (gF fo_59_0 rfl (gL hm 5 isAgg55 rfl (gY (yU rfl) (gCg rfl call76 (impl_mapped_impl_Phi_S_int_ok _ aB.phis (.slice aS aB.phis.length aT) (hm.now bD) (fun y0 => impl_plain_2 y0 aX) (.func (.func 79) #[] #[(pV ac)]) (fun w y0 bR bS r hB hq => ⟨79, [(pV ac)], rfl, call79, impl_plain_2_ok w y0 bR bS aX ac (hm.blk_later 0 rfl hB) r hq⟩)) ?_)))))))))
      rintro aa cq ab w ⟨_, rfl, hB⟩
      replace hm := hm.give hB; clear hB
      refine gA rfl (gE (gS (gR (gM rfl (gY (yV st_57 rfl) (gB rfl (gE (gJ hm (fun bJ => [(1, (pV aJ)), (2, (pV aK)), (4, (pV aL)), (5, (nV c_.regs)), (6, (nV aR)), (7, (pV aO)), (8, (sV aY aZ aE.length aQ)), (25, (sV aM aN c_.blocks.length aI)), (26, (nV ((c_.blocks.length : Int)))), (27, (nV aR)), (54, (sV aY aZ aE.length aQ)), (55, (nV ((aE.length : Int)))), (56, (nV aX))]) (fun bJ => [blk aJ [(nV c_.params), (nV c_.regs), (sV aM aN c_.blocks.length aI)] 44, blk aK [(nV 0), (nV 0), (.slice none 0 0)] 44, blk aL [(nV aA.params), (nV (w64 (aA.regs + 1))), (sV aG aH aA.blocks.length aF)] 44, ow [(sV aG aH aA.blocks.length aF)] bJ, blk aO [(.slice aS aB.phis.length aT), aV, (nV aB.jump), (nV aB.on), aW] 59, ow [(sV aY aZ aE.length aQ)] aE]) (fun bJ => ?_) ?_))))))))
      ·
       refine gsd 67 rfl (fun bz => ?_) fun bz => ?_
       ·
        refine gct rfl (gJ hm (fun bK => [(1, (pV aJ)), (2, (pV aK)), (4, (pV aL)), (5, (nV c_.regs)), (6, (nV aR)), (7, (pV aO)), (8, (sV aY aZ aE.length aQ)), (25, (sV aM aN c_.blocks.length aI)), (26, (nV ((c_.blocks.length : Int)))), (27, (nV aR)), (54, (sV aY aZ aE.length aQ)), (55, (nV ((aE.length : Int)))), (56, (nV aX))]) (fun bK => [blk aJ [(nV c_.params), (nV c_.regs), (sV aM aN c_.blocks.length aI)] 44, blk aK [(nV 0), (nV 0), (.slice none 0 0)] 44, blk aL [(nV aA.params), (nV (w64 (aA.regs + 1))), (sV aG aH aA.blocks.length aF)] 44, ow [(sV aG aH aA.blocks.length aF)] bK, blk aO [(.slice aS aB.phis.length aT), aV, (nV aB.jump), (nV aB.on), aW] 59, ow [(sV aY aZ aE.length aQ)] aE]) (fun bK => ?_) ?_)
        ·
         refine gW (.p 0 (.p 2 (.p 3 (.p 4 (.p 6 (.p 8 (.q 1 (.q 7 (.p 9 (.p 10 (.e 5 (.e 11 (.e 12 (.p 13 (.p 14 (.e 15 .fin .nil))) .nil) .nil) (.e 11 (.e 5 (.e 12 (.p 13 (.p 14 (.e 15 .fin .nil))) .nil) .nil) .nil)))))))))))) [1, 5, 7, 11, 12] [0, 2, 3, 4, 6, 8, 9, 10, 13, 14] hm [0, 1, 2, 3, 4, 6, 7] [ow [ab] aa, blk ac [(nV aX)] 3, blk aJ [(nV c_.params), (nV c_.regs), (sV aM aN c_.blocks.length aI)] 44, blk aK [(nV 0), (nV 0), (.slice none 0 0)] 44, blk aL [(nV aA.params), (nV (w64 (aA.regs + 1))), (sV aG aH aA.blocks.length aF)] 44, blk aO [(.slice aS aB.phis.length aT), aV, (nV aB.jump), (nV aB.on), aW] 59, ow [(sV aY aZ aE.length aQ)] aE] rfl mxo (by kernel_rfl) (fun _ _ _ h => h.2) fun w hm hS => tP rfl (fun w => yF fo_44_2 rfl) (tP rfl (fun w => yM rfl) (tP rfl (fun w => yM rfl) (tP rfl (fun w => yM rfl) (tP rfl (fun w => yF fo_44_2 rfl) (tP rfl (fun w => yM rfl) (tQ rfl hS (fun w hm => yL hm 4 isAgg42 rfl) (tQ rfl hS (fun w hm => yL hm 4 isAgg42 rfl) (gg fun aC bU ai => ?_))))))))
         obtain ⟨cr, ct, cu, cv, cw, cx, cy⟩ := rk_Block_ (hm.ow_rep 5 rfl) ai
         have hL6_1 := rep_slice_len (hm.ow_rep 5 rfl)
         refine tP rfl (fun w => yI st_42 bU (idx_lt2 ai hL6_1) rfl) (tP rfl (fun w => yF fo_59_1 rfl) (gb fun bL bX => gb fun af bY => tMo ?_ ?_))
         ·
          refine tf rfl rfl (fun a hf => e_call hf rfl call80 rfl (impl_copies_ok _ aa ab (hm.ow_rep 0 rfl) c_.regs _ bX)) ?_
          rintro cA w ⟨_, rfl, hB⟩
          replace hm := hm.give hB; clear hB
          refine tAk hm [1, 2, 3, 4, 5, 7, 8] rfl fun hS => tO ?_
          obtain ⟨am, bZ, an, hm⟩ := pin_Block_ hm 6 rfl ai
          refine tY rfl (yl isAgg56 ((hm.holeE_at 9 rfl).cell (j := 1) rfl) rfl) (tAk hm [4, 5, 6, 7, 8, 10, 11] rfl fun hS => tO ?_)
          obtain ⟨cB, cC⟩ := appM_some.1 bY
          replace hm := (hm.both 3 1 (by decide) rfl rfl).pk (L' := [ow [an] aC.next_, ow [am] aC.phis, both (ow [cA] bL) (ow [bZ] aC.ins), ow [ab] aa, blk ac [(nV aX)] 3, blk aJ [(nV c_.params), (nV c_.regs), (sV aM aN c_.blocks.length aI)] 44, blk aK [(nV 0), (nV 0), (.slice none 0 0)] 44, blk aL [(nV aA.params), (nV (w64 (aA.regs + 1))), (sV aG aH aA.blocks.length aF)] 44, holeE aG aH aA.blocks.length aF (ae : List Block_) (aR).toNat [am, bZ, (nV aC.jump), (nV aC.on), an], blk aO [(.slice aS aB.phis.length aT), aV, (nV aB.jump), (nV aB.on), aW] 59, ow [(sV aY aZ aE.length aQ)] aE]) [0, 2, 3, 4, 5, 6, 7, 8, 9, 10, 11] rfl rfl
          refine tf rfl rfl (fun a hf => e_appendD (xs := bL) (ys := aC.ins) 2 et_56 hf hm rfl rfl rfl rfl cB) ?_
          rintro ao w hm
          rw [cC] at hm
          refine tAk hm [3, 4, 5, 6, 7, 9, 10] rfl fun hS => ?_
          have hL6_2 := hm.holeE_len 8 rfl
          refine tP rfl (fun w => yI st_42 bU (idx_lt2 ai hL6_2) rfl) (tP rfl (fun w => yF fo_59_1 rfl) (tO ?_))
          have b6 : ∀ u ∈ ([ao] : List Value), u.oneCell' = true := (one_cons (rep_one (hm.ow_rep 2 rfl)) one_nil)
          refine tf0 rfl rfl (fun a hf => e_storeH (j := 1) (vs := [ao]) 8 hf hm rfl rfl rfl sizeOf56 rfl rfl (cells_one (b6 _ (List.mem_singleton.2 rfl))) b6 rfl) ?_
          rintro _ w hm
          replace hm : Mem w0 (hp w0) _ [ow [an] aC.next_, ow [am] aC.phis, ow [ao] af, ow [ab] aa, blk ac [(nV aX)] 3, blk aJ [(nV c_.params), (nV c_.regs), (sV aM aN c_.blocks.length aI)] 44, blk aK [(nV 0), (nV 0), (.slice none 0 0)] 44, blk aL [(nV aA.params), (nV (w64 (aA.regs + 1))), (sV aG aH aA.blocks.length aF)] 44, holeE aG aH aA.blocks.length aF (ae : List Block_) (aR).toNat [am, ao, (nV aC.jump), (nV aC.on), an], blk aO [(.slice aS aB.phis.length aT), aV, (nV aB.jump), (nV aB.on), aW] 59, ow [(sV aY aZ aE.length aQ)] aE] := hm
          refine tAn rfl (tE ?_)
          replace hm := (mk_Block_ aC.jump aC.on hm 1 2 0 rfl).pk (L' := [ow [am, ao, (nV aC.jump), (nV aC.on), an] ((⟨aC.phis, af, aC.jump, aC.on, aC.next_⟩ : Block_) : Block_), ow [ab] aa, blk ac [(nV aX)] 3, blk aJ [(nV c_.params), (nV c_.regs), (sV aM aN c_.blocks.length aI)] 44, blk aK [(nV 0), (nV 0), (.slice none 0 0)] 44, blk aL [(nV aA.params), (nV (w64 (aA.regs + 1))), (sV aG aH aA.blocks.length aF)] 44, holeE aG aH aA.blocks.length aF (ae : List Block_) (aR).toNat [am, ao, (nV aC.jump), (nV aC.on), an], blk aO [(.slice aS aB.phis.length aT), aV, (nV aB.jump), (nV aB.on), aW] 59, ow [(sV aY aZ aE.length aQ)] aE]) [1, 3, 4, 5, 6, 7, 8, 9, 10] rfl rfl
          replace hm := (hm.shutE (y := ((⟨aC.phis, af, aC.jump, aC.on, aC.next_⟩ : Block_) : Block_)) 6 0 (by decide) rfl rfl).pk (L' := [ow [ab] aa, blk ac [(nV aX)] 3, blk aJ [(nV c_.params), (nV c_.regs), (sV aM aN c_.blocks.length aI)] 44, blk aK [(nV 0), (nV 0), (.slice none 0 0)] 44, blk aL [(nV aA.params), (nV (w64 (aA.regs + 1))), (sV aG aH aA.blocks.length aF)] 44, ow [(sV aG aH aA.blocks.length aF)] (ae.set (aR).toNat (⟨aC.phis, af, aC.jump, aC.on, aC.next_⟩ : Block_)), blk aO [(.slice aS aB.phis.length aT), aV, (nV aB.jump), (nV aB.on), aW] 59, ow [(sV aY aZ aE.length aQ)] aE]) [1, 2, 3, 4, 5, 6, 7, 8] rfl rfl
          have cz := List.getElem?_set_self (a := ((⟨aC.phis, af, aC.jump, aC.on, aC.next_⟩ : Block_) : Block_)) (idx_lt ai)
          exact gz hm [2, 3, 4, 5, 6, 7] rfl
         refine tO ?_
         obtain ⟨ap, b7, aq, hm⟩ := pin_Block_ hm 5 rfl ai
         refine tY rfl (yl isAgg56 ((hm.holeE_at 8 rfl).cell (j := 1) rfl) rfl) (tAk hm [3, 4, 5, 6, 7, 9, 10] rfl fun hS => tO (tf rfl rfl (fun a hf => e_call hf rfl call80 rfl (impl_copies_ok _ aa ab (hm.ow_rep 3 rfl) c_.regs _ bX)) ?_))
         rintro cD w ⟨_, rfl, hB⟩
         replace hm := hm.give hB; clear hB
         refine tAk hm [4, 5, 6, 7, 8, 10, 11] rfl fun hS => tO ?_
         obtain ⟨cE, cF⟩ := appM_some.1 bY
         replace hm := (hm.both 0 2 (by decide) rfl rfl).pk (L' := [both (ow [cD] bL) (ow [b7] aC.ins), ow [aq] aC.next_, ow [ap] aC.phis, ow [ab] aa, blk ac [(nV aX)] 3, blk aJ [(nV c_.params), (nV c_.regs), (sV aM aN c_.blocks.length aI)] 44, blk aK [(nV 0), (nV 0), (.slice none 0 0)] 44, blk aL [(nV aA.params), (nV (w64 (aA.regs + 1))), (sV aG aH aA.blocks.length aF)] 44, holeE aG aH aA.blocks.length aF (ae : List Block_) (aR).toNat [ap, b7, (nV aC.jump), (nV aC.on), aq], blk aO [(.slice aS aB.phis.length aT), aV, (nV aB.jump), (nV aB.on), aW] 59, ow [(sV aY aZ aE.length aQ)] aE]) [0, 1, 3, 4, 5, 6, 7, 8, 9, 10, 11] rfl rfl
         refine tf rfl rfl (fun a hf => e_appendD (xs := bL) (ys := aC.ins) 0 et_56 hf hm rfl rfl rfl rfl cE) ?_
         rintro ar w hm
         rw [cF] at hm
         refine tAk hm [3, 4, 5, 6, 7, 9, 10] rfl fun hS => ?_
         have hL6_3 := hm.holeE_len 8 rfl
         refine tP rfl (fun w => yI st_42 bU (idx_lt2 ai hL6_3) rfl) (tP rfl (fun w => yF fo_59_1 rfl) (tO ?_))
         have b8 : ∀ u ∈ ([ar] : List Value), u.oneCell' = true := (one_cons (rep_one (hm.ow_rep 0 rfl)) one_nil)
         refine tf0 rfl rfl (fun a hf => e_storeH (j := 1) (vs := [ar]) 8 hf hm rfl rfl rfl sizeOf56 rfl rfl (cells_one (b8 _ (List.mem_singleton.2 rfl))) b8 rfl) ?_
         rintro _ w hm
         replace hm : Mem w0 (hp w0) _ [ow [ar] af, ow [aq] aC.next_, ow [ap] aC.phis, ow [ab] aa, blk ac [(nV aX)] 3, blk aJ [(nV c_.params), (nV c_.regs), (sV aM aN c_.blocks.length aI)] 44, blk aK [(nV 0), (nV 0), (.slice none 0 0)] 44, blk aL [(nV aA.params), (nV (w64 (aA.regs + 1))), (sV aG aH aA.blocks.length aF)] 44, holeE aG aH aA.blocks.length aF (ae : List Block_) (aR).toNat [ap, ar, (nV aC.jump), (nV aC.on), aq], blk aO [(.slice aS aB.phis.length aT), aV, (nV aB.jump), (nV aB.on), aW] 59, ow [(sV aY aZ aE.length aQ)] aE] := hm
         refine tAn rfl (tE ?_)
         replace hm := (mk_Block_ aC.jump aC.on hm 2 0 1 rfl).pk (L' := [ow [ap, ar, (nV aC.jump), (nV aC.on), aq] ((⟨aC.phis, af, aC.jump, aC.on, aC.next_⟩ : Block_) : Block_), ow [ab] aa, blk ac [(nV aX)] 3, blk aJ [(nV c_.params), (nV c_.regs), (sV aM aN c_.blocks.length aI)] 44, blk aK [(nV 0), (nV 0), (.slice none 0 0)] 44, blk aL [(nV aA.params), (nV (w64 (aA.regs + 1))), (sV aG aH aA.blocks.length aF)] 44, holeE aG aH aA.blocks.length aF (ae : List Block_) (aR).toNat [ap, ar, (nV aC.jump), (nV aC.on), aq], blk aO [(.slice aS aB.phis.length aT), aV, (nV aB.jump), (nV aB.on), aW] 59, ow [(sV aY aZ aE.length aQ)] aE]) [2, 3, 4, 5, 6, 7, 8, 9, 10] rfl rfl
         replace hm := (hm.shutE (y := ((⟨aC.phis, af, aC.jump, aC.on, aC.next_⟩ : Block_) : Block_)) 6 0 (by decide) rfl rfl).pk (L' := [ow [ab] aa, blk ac [(nV aX)] 3, blk aJ [(nV c_.params), (nV c_.regs), (sV aM aN c_.blocks.length aI)] 44, blk aK [(nV 0), (nV 0), (.slice none 0 0)] 44, blk aL [(nV aA.params), (nV (w64 (aA.regs + 1))), (sV aG aH aA.blocks.length aF)] 44, ow [(sV aG aH aA.blocks.length aF)] (ae.set (aR).toNat (⟨aC.phis, af, aC.jump, aC.on, aC.next_⟩ : Block_)), blk aO [(.slice aS aB.phis.length aT), aV, (nV aB.jump), (nV aB.on), aW] 59, ow [(sV aY aZ aE.length aQ)] aE]) [1, 2, 3, 4, 5, 6, 7, 8] rfl rfl
         have dA := List.getElem?_set_self (a := ((⟨aC.phis, af, aC.jump, aC.on, aC.next_⟩ : Block_) : Block_)) (idx_lt ai)
         exact gz hm [2, 3, 4, 5, 6, 7] rfl
        repeat clear hm
        intro bK w hm
        exact gz hm [0, 1, 2, 3, 4, 5] rfl
       refine gcf rfl (gJ hm (fun bM => [(1, (pV aJ)), (2, (pV aK)), (4, (pV aL)), (5, (nV c_.regs)), (6, (nV aR)), (7, (pV aO)), (8, (sV aY aZ aE.length aQ)), (25, (sV aM aN c_.blocks.length aI)), (26, (nV ((c_.blocks.length : Int)))), (27, (nV aR)), (54, (sV aY aZ aE.length aQ)), (55, (nV ((aE.length : Int)))), (56, (nV aX))]) (fun bM => [blk aJ [(nV c_.params), (nV c_.regs), (sV aM aN c_.blocks.length aI)] 44, blk aK [(nV 0), (nV 0), (.slice none 0 0)] 44, blk aL [(nV aA.params), (nV (w64 (aA.regs + 1))), (sV aG aH aA.blocks.length aF)] 44, ow [(sV aG aH aA.blocks.length aF)] bM, blk aO [(.slice aS aB.phis.length aT), aV, (nV aB.jump), (nV aB.on), aW] 59, ow [(sV aY aZ aE.length aQ)] aE]) (fun bM => ?_) ?_)
       ·
        refine gW (.p 0 (.p 2 (.p 3 (.p 5 (.p 9 (.p 10 (.q 1 (.q 4 (.p 6 (.p 7 (.e 8 (.e 11 (.e 12 (.p 13 (.p 14 (.e 15 .fin .nil))) .nil) .nil) (.e 11 (.e 8 (.e 12 (.p 13 (.p 14 (.e 15 .fin .nil))) .nil) .nil) .nil)))))))))))) [1, 4, 8, 11, 12] [0, 2, 3, 5, 6, 7, 9, 10, 13, 14] hm [0, 1, 2, 3, 4, 6, 7] [ow [ab] aa, blk ac [(nV aX)] 3, blk aJ [(nV c_.params), (nV c_.regs), (sV aM aN c_.blocks.length aI)] 44, blk aK [(nV 0), (nV 0), (.slice none 0 0)] 44, blk aL [(nV aA.params), (nV (w64 (aA.regs + 1))), (sV aG aH aA.blocks.length aF)] 44, blk aO [(.slice aS aB.phis.length aT), aV, (nV aB.jump), (nV aB.on), aW] 59, ow [(sV aY aZ aE.length aQ)] aE] rfl mxo (by kernel_rfl) (fun _ _ _ h => h.2) fun w hm hS => tP rfl (fun w => yF fo_44_2 rfl) (tP rfl (fun w => yM rfl) (tP rfl (fun w => yF fo_44_2 rfl) (tP rfl (fun w => yM rfl) (tP rfl (fun w => yM rfl) (tP rfl (fun w => yM rfl) (tQ rfl hS (fun w hm => yL hm 4 isAgg42 rfl) (tQ rfl hS (fun w hm => yL hm 4 isAgg42 rfl) (gg fun aD bV aj => ?_))))))))
        obtain ⟨dB, dC, dD, dE, dF, dG, dH⟩ := rk_Block_ (hm.ow_rep 5 rfl) aj
        have hL6_4 := rep_slice_len (hm.ow_rep 5 rfl)
        refine tP rfl (fun w => yI st_42 bV (idx_lt2 aj hL6_4) rfl) (tP rfl (fun w => yF fo_59_1 rfl) (gb fun bN b9 => gb fun ag ba => tMo ?_ ?_))
        ·
         obtain ⟨au, bb, av, hm⟩ := pin_Block_ hm 5 rfl aj
         refine tY rfl (yl isAgg56 ((hm.holeE_at 8 rfl).cell (j := 1) rfl) rfl) (tAk hm [3, 4, 5, 6, 7, 9, 10] rfl fun hS => tO (tf rfl rfl (fun a hf => e_call hf rfl call80 rfl (impl_copies_ok _ aa ab (hm.ow_rep 3 rfl) c_.regs _ b9)) ?_))
         rintro cG w ⟨_, rfl, hB⟩
         replace hm := hm.give hB; clear hB
         refine tAk hm [4, 5, 6, 7, 8, 10, 11] rfl fun hS => tO ?_
         obtain ⟨cH, cI⟩ := appM_some.1 ba
         replace hm := (hm.both 2 0 (by decide) rfl rfl).pk (L' := [ow [av] aD.next_, both (ow [bb] aD.ins) (ow [cG] bN), ow [au] aD.phis, ow [ab] aa, blk ac [(nV aX)] 3, blk aJ [(nV c_.params), (nV c_.regs), (sV aM aN c_.blocks.length aI)] 44, blk aK [(nV 0), (nV 0), (.slice none 0 0)] 44, blk aL [(nV aA.params), (nV (w64 (aA.regs + 1))), (sV aG aH aA.blocks.length aF)] 44, holeE aG aH aA.blocks.length aF (ae : List Block_) (ah).toNat [au, bb, (nV aD.jump), (nV aD.on), av], blk aO [(.slice aS aB.phis.length aT), aV, (nV aB.jump), (nV aB.on), aW] 59, ow [(sV aY aZ aE.length aQ)] aE]) [1, 2, 3, 4, 5, 6, 7, 8, 9, 10, 11] rfl rfl
         refine tf rfl rfl (fun a hf => e_appendD (xs := aD.ins) (ys := bN) 1 et_56 hf hm rfl rfl rfl rfl cH) ?_
         rintro aw w hm
         rw [cI] at hm
         refine tAk hm [3, 4, 5, 6, 7, 9, 10] rfl fun hS => ?_
         have hL6_5 := hm.holeE_len 8 rfl
         refine tP rfl (fun w => yI st_42 bV (idx_lt2 aj hL6_5) rfl) (tP rfl (fun w => yF fo_59_1 rfl) (tO ?_))
         have bc : ∀ u ∈ ([aw] : List Value), u.oneCell' = true := (one_cons (rep_one (hm.ow_rep 1 rfl)) one_nil)
         refine tf0 rfl rfl (fun a hf => e_storeH (j := 1) (vs := [aw]) 8 hf hm rfl rfl rfl sizeOf56 rfl rfl (cells_one (bc _ (List.mem_singleton.2 rfl))) bc rfl) ?_
         rintro _ w hm
         replace hm : Mem w0 (hp w0) _ [ow [av] aD.next_, ow [aw] ag, ow [au] aD.phis, ow [ab] aa, blk ac [(nV aX)] 3, blk aJ [(nV c_.params), (nV c_.regs), (sV aM aN c_.blocks.length aI)] 44, blk aK [(nV 0), (nV 0), (.slice none 0 0)] 44, blk aL [(nV aA.params), (nV (w64 (aA.regs + 1))), (sV aG aH aA.blocks.length aF)] 44, holeE aG aH aA.blocks.length aF (ae : List Block_) (ah).toNat [au, aw, (nV aD.jump), (nV aD.on), av], blk aO [(.slice aS aB.phis.length aT), aV, (nV aB.jump), (nV aB.on), aW] 59, ow [(sV aY aZ aE.length aQ)] aE] := hm
         refine tAn rfl (tE ?_)
         replace hm := (mk_Block_ aD.jump aD.on hm 2 1 0 rfl).pk (L' := [ow [au, aw, (nV aD.jump), (nV aD.on), av] ((⟨aD.phis, ag, aD.jump, aD.on, aD.next_⟩ : Block_) : Block_), ow [ab] aa, blk ac [(nV aX)] 3, blk aJ [(nV c_.params), (nV c_.regs), (sV aM aN c_.blocks.length aI)] 44, blk aK [(nV 0), (nV 0), (.slice none 0 0)] 44, blk aL [(nV aA.params), (nV (w64 (aA.regs + 1))), (sV aG aH aA.blocks.length aF)] 44, holeE aG aH aA.blocks.length aF (ae : List Block_) (ah).toNat [au, aw, (nV aD.jump), (nV aD.on), av], blk aO [(.slice aS aB.phis.length aT), aV, (nV aB.jump), (nV aB.on), aW] 59, ow [(sV aY aZ aE.length aQ)] aE]) [2, 3, 4, 5, 6, 7, 8, 9, 10] rfl rfl
         replace hm := (hm.shutE (y := ((⟨aD.phis, ag, aD.jump, aD.on, aD.next_⟩ : Block_) : Block_)) 6 0 (by decide) rfl rfl).pk (L' := [ow [ab] aa, blk ac [(nV aX)] 3, blk aJ [(nV c_.params), (nV c_.regs), (sV aM aN c_.blocks.length aI)] 44, blk aK [(nV 0), (nV 0), (.slice none 0 0)] 44, blk aL [(nV aA.params), (nV (w64 (aA.regs + 1))), (sV aG aH aA.blocks.length aF)] 44, ow [(sV aG aH aA.blocks.length aF)] (ae.set (ah).toNat (⟨aD.phis, ag, aD.jump, aD.on, aD.next_⟩ : Block_)), blk aO [(.slice aS aB.phis.length aT), aV, (nV aB.jump), (nV aB.on), aW] 59, ow [(sV aY aZ aE.length aQ)] aE]) [1, 2, 3, 4, 5, 6, 7, 8] rfl rfl
         have dI := List.getElem?_set_self (a := ((⟨aD.phis, ag, aD.jump, aD.on, aD.next_⟩ : Block_) : Block_)) (idx_lt aj)
         exact gz hm [2, 3, 4, 5, 6, 7] rfl
        refine tO (tf rfl rfl (fun a hf => e_call hf rfl call80 rfl (impl_copies_ok _ aa ab (hm.ow_rep 0 rfl) c_.regs _ b9)) ?_)
        rintro cJ w ⟨_, rfl, hB⟩
        replace hm := hm.give hB; clear hB
        refine tAk hm [1, 2, 3, 4, 5, 7, 8] rfl fun hS => tO ?_
        obtain ⟨ax, bd, ay, hm⟩ := pin_Block_ hm 6 rfl aj
        refine tY rfl (yl isAgg56 ((hm.holeE_at 9 rfl).cell (j := 1) rfl) rfl) (tAk hm [4, 5, 6, 7, 8, 10, 11] rfl fun hS => tO ?_)
        obtain ⟨cK, cL⟩ := appM_some.1 ba
        replace hm := (hm.both 1 3 (by decide) rfl rfl).pk (L' := [ow [ay] aD.next_, both (ow [bd] aD.ins) (ow [cJ] bN), ow [ax] aD.phis, ow [ab] aa, blk ac [(nV aX)] 3, blk aJ [(nV c_.params), (nV c_.regs), (sV aM aN c_.blocks.length aI)] 44, blk aK [(nV 0), (nV 0), (.slice none 0 0)] 44, blk aL [(nV aA.params), (nV (w64 (aA.regs + 1))), (sV aG aH aA.blocks.length aF)] 44, holeE aG aH aA.blocks.length aF (ae : List Block_) (ah).toNat [ax, bd, (nV aD.jump), (nV aD.on), ay], blk aO [(.slice aS aB.phis.length aT), aV, (nV aB.jump), (nV aB.on), aW] 59, ow [(sV aY aZ aE.length aQ)] aE]) [0, 1, 2, 4, 5, 6, 7, 8, 9, 10, 11] rfl rfl
        refine tf rfl rfl (fun a hf => e_appendD (xs := aD.ins) (ys := bN) 1 et_56 hf hm rfl rfl rfl rfl cK) ?_
        rintro az w hm
        rw [cL] at hm
        refine tAk hm [3, 4, 5, 6, 7, 9, 10] rfl fun hS => ?_
        have hL6_6 := hm.holeE_len 8 rfl
        refine tP rfl (fun w => yI st_42 bV (idx_lt2 aj hL6_6) rfl) (tP rfl (fun w => yF fo_59_1 rfl) (tO ?_))
        have be : ∀ u ∈ ([az] : List Value), u.oneCell' = true := (one_cons (rep_one (hm.ow_rep 1 rfl)) one_nil)
        refine tf0 rfl rfl (fun a hf => e_storeH (j := 1) (vs := [az]) 8 hf hm rfl rfl rfl sizeOf56 rfl rfl (cells_one (be _ (List.mem_singleton.2 rfl))) be rfl) ?_
        rintro _ w hm
        replace hm : Mem w0 (hp w0) _ [ow [ay] aD.next_, ow [az] ag, ow [ax] aD.phis, ow [ab] aa, blk ac [(nV aX)] 3, blk aJ [(nV c_.params), (nV c_.regs), (sV aM aN c_.blocks.length aI)] 44, blk aK [(nV 0), (nV 0), (.slice none 0 0)] 44, blk aL [(nV aA.params), (nV (w64 (aA.regs + 1))), (sV aG aH aA.blocks.length aF)] 44, holeE aG aH aA.blocks.length aF (ae : List Block_) (ah).toNat [ax, az, (nV aD.jump), (nV aD.on), ay], blk aO [(.slice aS aB.phis.length aT), aV, (nV aB.jump), (nV aB.on), aW] 59, ow [(sV aY aZ aE.length aQ)] aE] := hm
        refine tAn rfl (tE ?_)
        replace hm := (mk_Block_ aD.jump aD.on hm 2 1 0 rfl).pk (L' := [ow [ax, az, (nV aD.jump), (nV aD.on), ay] ((⟨aD.phis, ag, aD.jump, aD.on, aD.next_⟩ : Block_) : Block_), ow [ab] aa, blk ac [(nV aX)] 3, blk aJ [(nV c_.params), (nV c_.regs), (sV aM aN c_.blocks.length aI)] 44, blk aK [(nV 0), (nV 0), (.slice none 0 0)] 44, blk aL [(nV aA.params), (nV (w64 (aA.regs + 1))), (sV aG aH aA.blocks.length aF)] 44, holeE aG aH aA.blocks.length aF (ae : List Block_) (ah).toNat [ax, az, (nV aD.jump), (nV aD.on), ay], blk aO [(.slice aS aB.phis.length aT), aV, (nV aB.jump), (nV aB.on), aW] 59, ow [(sV aY aZ aE.length aQ)] aE]) [2, 3, 4, 5, 6, 7, 8, 9, 10] rfl rfl
        replace hm := (hm.shutE (y := ((⟨aD.phis, ag, aD.jump, aD.on, aD.next_⟩ : Block_) : Block_)) 6 0 (by decide) rfl rfl).pk (L' := [ow [ab] aa, blk ac [(nV aX)] 3, blk aJ [(nV c_.params), (nV c_.regs), (sV aM aN c_.blocks.length aI)] 44, blk aK [(nV 0), (nV 0), (.slice none 0 0)] 44, blk aL [(nV aA.params), (nV (w64 (aA.regs + 1))), (sV aG aH aA.blocks.length aF)] 44, ow [(sV aG aH aA.blocks.length aF)] (ae.set (ah).toNat (⟨aD.phis, ag, aD.jump, aD.on, aD.next_⟩ : Block_)), blk aO [(.slice aS aB.phis.length aT), aV, (nV aB.jump), (nV aB.on), aW] 59, ow [(sV aY aZ aE.length aQ)] aE]) [1, 2, 3, 4, 5, 6, 7, 8] rfl rfl
        have dJ := List.getElem?_set_self (a := ((⟨aD.phis, ag, aD.jump, aD.on, aD.next_⟩ : Block_) : Block_)) (idx_lt aj)
        exact gz hm [2, 3, 4, 5, 6, 7] rfl
       repeat clear hm
       intro bM w hm
       exact gz hm [0, 1, 2, 3, 4, 5] rfl
      repeat clear hm
      intro bJ w hm
      exact gz hm [0, 1, 2, 3, 4, 5] rfl
     repeat clear hm
     intro bH w hm
     exact gR (gP (by omega) (by omega) rfl (gM rfl (gE (gze hm [0, 1, 2, 3, 4, 5] rfl))))
    repeat clear hm
    intro dK dL w hm dM dN
    exact gS (gR (gB rfl (gE (gS (go _ 57 rfl (decide_eq_false (by omega)) (gcf rfl (gXt (gHh (gze hm [0, 1, 2, 3] rfl)))))))))
   repeat clear hm
   intro bO w hm
   exact gR (gP (by omega) (by omega) rfl (gM rfl (gE (gze hm [0, 1, 2, 3] rfl))))
  repeat clear hm
  intro dO dP w hm dQ dR
  exact gS (gR (gB rfl (gE (gS (go _ 28 rfl (decide_eq_false (by omega)) (gcf rfl (gXt (gHh (gS (gR (gY (yn (hm.blk_at 2 rfl) isAgg44 sizeOf44 rfl) (gSN hm 1 sizeOf44 (one_cons rfl (one_cons rfl (one_cons rfl one_nil))) rfl fun w hm => gA rfl (gE (gRt (grct 1 results33 hm rfl isAgg44 sizeOf44 ⟨(.slice bA aA.blocks.length aF), rfl, hm.pk [3] rfl rfl⟩)))))))))))))))
theorem impl_PlainUnit_1_ok (w0 : World) (hz : Heap) (c_ : Code_) (v1 : Value) (h1 : GT.rep hz [v1] c_.blocks) (c0_ : Bool) (bpc0 : Nat) (hm0 : Mem w0 hz w0 [blk bpc0 [(.bool (c0_))] 4]) :
    ConM Tryz.prog 32 [(.agg #[(nV c_.params), (nV c_.regs), v1]), (pV bpc0)] w0 (impl_PlainUnit_1 c_ c0_) fun r v w' => ∃ (x1 : Value), v = (.agg #[(nV r.1.params), (nV r.1.regs), x1]) ∧ Mem w0 hz w' [blk bpc0 [(.bool (r.2))] 4, ow [x1] r.1.blocks] := by
  unfold impl_PlainUnit_1
  refine gcon func32 rfl fun r => ?_
  have hm := hm0
  refine gS (gR (gBx hm rfl fun aG w hm => gAl hm zeroValue44 rfl fun aD w hm => gE (gS (gR (gY (yn (hm.blk_at 1 rfl) isAgg44 sizeOf44 rfl) (gCg rfl call33 (impl_plain_ok _ c_ v1 (hm.now h1)) ?_))))))
  rintro aB aH aI w ⟨aC, rfl, hB⟩
  replace hm := hm.give hB; clear hB
  refine gM rfl (gX rfl (gX rfl (gAl hm zeroValue44 rfl fun aE w hm => gSN hm 0 sizeOf44 (one_cons rfl (one_cons rfl (one_cons (rep_one (hm.ow_rep 1 rfl)) one_nil))) rfl fun w hm => gA rfl (gE (gS (gJ hm (fun aA => [(3, (pV aD)), (4, (pV aE))]) (fun aA => [blk aD [(nV 0), (nV 0), (.slice none 0 0)] 44, blk aE [(nV aB.1.params), (nV aB.1.regs), aC] 44, ow [aC] aB.1.blocks, blk bpc0 [(.bool (aA))] 4]) (fun aA => ?_) ?_))))))
  ·
   refine gR (gL hm 4 isAgg4 rfl (gM rfl (gs 12 rfl (fun aF => ?_) fun aF => ?_)))
   ·
    exact gM rfl (gKt rfl (gS1 hm 4 sizeOf4 rfl rfl fun w hm => gE (gz hm [2, 0, 1, 4] rfl)))
   exact gO rfl (gKf rfl (gS1 hm 4 sizeOf4 rfl rfl fun w hm => gE (gz hm [2, 0, 1, 4] rfl)))
  repeat clear hm
  intro aA w hm
  exact gS (gR (gY (yn (hm.blk_at 1 rfl) isAgg44 sizeOf44 rfl) (gSN hm 0 sizeOf44 (one_cons rfl (one_cons rfl (one_cons (rep_one (hm.ow_rep 2 rfl)) one_nil))) rfl fun w hm => gE (gRt (grc 0 results32 hm rfl isAgg44 sizeOf44 ⟨aC, rfl, hm.pk [3, 2] rfl rfl⟩)))))
def FnSt {σ : Type} (vf : Value) (hzc : Heap) (K : σ → Ch) (f : Code_ → σ → Option (Code_ × σ)) : Prop :=
  ∀ (w : World) (hz : Heap) (s : σ) (x : Code_) (vx : Value), Heap.le hzc hz → Mem w hz w [K s] → GT.rep hz [vx] x.blocks → ∀ y, f x s = some y →
    FnOk Tryz.prog vf [(.agg #[(nV x.params), (nV x.regs), vx])] w fun v w' => ∃ vy : Value, v = (.agg #[(nV y.1.params), (nV y.1.regs), vy]) ∧ Mem w hz w' [K y.2, ow [vy] y.1.blocks]
theorem impl_mappedS_ok {σ : Type} (w0 : World) (hz : Heap) (list : List Code_) (v1 : Value) (h1 : GT.rep hz [v1] list) (vf : Value) (K : σ → Ch) (f : Code_ → σ → Option (Code_ × σ)) (s0 : σ) (hm0 : Mem w0 hz w0 [K s0]) (hfn : FnSt vf hz K f) :
    ConM Tryz.prog 31 [v1, vf] w0 (impl_mappedS f list s0) fun r v w' => ∃ (x1 : Value), v = x1 ∧ Mem w0 hz w' [K r.2, ow [x1] r.1] := by
  unfold impl_mappedS
  refine gcon func31 rfl fun r => ?_
  have hm := hm0
  refine gS (gR (gA rfl (gE (gS (gR (gA rfl (gE (gS (gS (gR (gM rfl ?_)))))))))))
  obtain ⟨aL, aM, rfl, aW⟩ := ro_slice h1
  refine gY (yV st_26 rfl) (gM rfl (gE (gBk ?_)))
  replace hm := hm.nilow (α := Code_)
  refine gNg (fun aI aB a w => ∃ (aC : Value), St 22 [(1, vf), (5, aC), (8, (.slice aL list.length aM)), (9, (nV ((list.length : Int)))), (10, (nV aI))] w0 hz [ow [aC] aB.1, K aB.2] a w) (fun a hf => ⟨(.slice none 0 0), hf.sb rfl, hm.pk [0, 1] rfl rfl⟩) ?_ ?_
  ·
   clear hm hm0
   rintro _ _ aI aB a w ⟨aC, hf, hm⟩ aX aY aZ _
   refine gv hf (gS (gR (gB rfl (gE (gS (go _ 11 rfl (decide_eq_true (by omega)) (gct rfl (gSk (gS (gBk (gS (gR (gg fun aE aN aG => ?_)))))))))))))
   obtain ⟨aa, ab, ac, he⟩ := idx_form' h1 aG
   obtain ⟨rfl, _, rfl⟩ := sl3 he
   obtain ⟨aH, aO, aJ⟩ := rk_Code_ h1 aG
   refine gI st_26 aN (idx_lt aG) rfl (gY (yn (aO.mono hm.lez) isAgg44 sizeOf44 rfl) (gAl hm zeroValue44 rfl fun aK w hm => gSN hm 0 sizeOf44 (one_cons rfl (one_cons rfl (one_cons (rep_one aJ) one_nil))) rfl fun w hm => gE (gR (gM rfl (gM rfl (gY (yn (hm.blk_at 0 rfl) isAgg44 sizeOf44 rfl) (gb fun aA aP => ?_)))))))
   obtain ⟨hz3, hle, hm1, hsub, hk⟩ := hm.take2 (L1 := [K aB.2]) (L2 := [blk aK [(nV aE.params), (nV aE.regs), aH] 44, ow [aC] aB.1]) [2] [0, 1] (by decide) rfl rfl
   refine gf rfl (fun a hf => e_callv hf rfl rfl rfl (hfn _ hz3 aB.2 aE aH hle hm1 (GT.mono hle aJ) aA aP)) ?_
   rintro ae w ⟨aD, rfl, hB⟩
   replace hm := hk _ _ hB; clear hB hk hsub hm1
   refine gf rfl (fun a hf => e_build (vs := #[(0, (.agg #[(nV aA.1.params), (nV aA.1.regs), aD]))]) (cs := [(nV aA.1.params), (nV aA.1.regs), aD]) et_26 hf hm rfl rfl (by kernel_rfl) rfl rfl) ?_
   rintro _ w ⟨aF, rfl, hm⟩
   replace hm := hm.els_nil (α := Code_)
   replace hm : Mem w0 hz _ [els [] ([] : List Code_), blk aF [(nV aA.1.params), (nV aA.1.regs), aD] 44, K aA.2, ow [(nV aA.1.params), (nV aA.1.regs), aD] (aA.1 : Code_), blk aK [(nV aE.params), (nV aE.regs), aH] 44, ow [aC] aB.1] := mk_Code_ aA.1.params aA.1.regs hm 3 rfl
   replace hm := (hm.els_cons 0 3 (by decide) rfl rfl).pk (L' := [els [(nV aA.1.params), (nV aA.1.regs), aD] ([aA.1] : List Code_), blk aF [(nV aA.1.params), (nV aA.1.regs), aD] 44, K aA.2, ow [aC] aB.1]) [0, 1, 2, 5] rfl rfl
   replace hm := (hm.lit_els 1 0 (by decide) rfl rfl rfl rfl).pk (L' := [ow [(sV aF 0 1 1)] ([aA.1] : List Code_), K aA.2, ow [aC] aB.1]) [1, 2, 3] rfl rfl
   refine gb fun af aQ => ?_
   obtain ⟨aR, aS⟩ := appM_some.1 aQ
   replace hm := (hm.both 2 0 (by decide) rfl rfl).pk (L' := [K aA.2, both (ow [aC] aB.1) (ow [(sV aF 0 1 1)] ([aA.1] : List Code_))]) [1, 2] rfl rfl
   refine gf rfl (fun a hf => e_appendD (xs := aB.1) (ys := ([aA.1] : List Code_)) 1 et_26 hf hm rfl rfl rfl rfl aR) ?_
   rintro aT w hm
   rw [aS] at hm
   exact gA rfl (gE (gR (gP (by omega) (by omega) rfl (gM rfl (gE (gZe fun a hf => ⟨aT, hf.sb rfl, hm.pk [1, 0] rfl rfl⟩))))))
  clear hm hm0
  rintro ag ah a w ⟨aV, hf, hm⟩ ai aj
  exact gv hf (gS (gR (gB rfl (gE (gS (go _ 11 rfl (decide_eq_false (by omega)) (gcf rfl (gXt (gHh (gS (gR (gM rfl (gA rfl (gE (gRt (gr1 results31 rfl ⟨aV, rfl, hm.pk [1, 0] rfl rfl⟩))))))))))))))))
theorem impl_PlainUnit_ok (w0 : World) (u : Unit_) (v1 : Value) (h1 : GT.rep (hp w0) [v1] u.codes) :
    ConM Tryz.prog 12 [(.agg #[v1])] w0 (impl_PlainUnit u) fun r v w' => ∃ (x1 : Value), v = (.tuple #[(.agg #[x1]), (.bool (r.2))]) ∧ Mem w0 (hp w0) w' [ow [x1] r.1.codes] := by
  unfold impl_PlainUnit
  refine gcon func12 rfl fun r => ?_
  have hm := Mem.start w0
  refine gS (gR (gBx hm rfl fun aF w hm => gAl hm zeroValue28 rfl fun aG w hm => gA rfl (gE (gS (gR (gY (yn (hm.blk_at 1 rfl) isAgg28 sizeOf28 rfl) (gCg rfl call30 (impl_SplitEdges_ok _ u v1 (hm.now h1)) ?_)))))))
  rintro aB aO aP w ⟨aC, rfl, hB⟩
  replace hm := hm.give hB; clear hB
  refine gM rfl (gX rfl (gX rfl (gAl hm zeroValue28 rfl fun aH w hm => gAl hm zeroValue4 rfl fun aA w hm => gSN hm 1 sizeOf28 (one_cons (rep_one (hm.ow_rep 2 rfl)) one_nil) rfl fun w hm => gS1 hm 0 sizeOf4 rfl rfl fun w hm => gE (gS (gS (gR (gL hm 0 isAgg4 rfl (gN rfl (gE (gsn 12 rfl (fun aI => ?_) fun aI => ?_))))))))))
  ·
   refine gct rfl (gS (gR (gY (yG rfl (y_build (vs := []) (cs := #[(.slice none 0 0)]) rfl rfl (by kernel_rfl))) (gSN hm 3 sizeOf28 (one_cons rfl one_nil) rfl fun w hm => gA rfl (gE (gRt ?_))))))
   replace hm := hm.nilow (α := Code_)
   exact grct 4 results12 hm rfl isAgg28 sizeOf28 ⟨(.slice none 0 0), rfl, hm.pk [0] rfl rfl⟩
  refine gcf rfl (gSk (gS (gR (gF fo_28_0 rfl (gL hm 1 isAgg26 rfl (gY (yU rfl) ?_))))))
  obtain ⟨aJ, hle, hm1, hsub, aK⟩ := hm.take2 (L1 := [blk aA [(.bool (aB.2))] 4]) (L2 := [blk aH [aC] 28, ow [aC] aB.1.codes, blk aG [(.slice none 0 0)] 28, blk aF [v1] 28]) [0] [1, 2, 3, 4] (by decide) rfl rfl
  refine gCg rfl call31 (impl_mappedS_ok _ aJ aB.1.codes aC (fz_ow (hsub 1 _ rfl)) (.func (.func 32) #[] #[(pV aA)]) (fun (y1 : Bool) => blk aA [(.bool (y1))] 4) (fun y0 y1 => impl_PlainUnit_1 y0 y1) aB.2 hm1 (fun w hz3 y1 x vx hle3 hm3 hx3 y hy => ⟨32, [(pV aA)], rfl, call32, impl_PlainUnit_1_ok w hz3 x vx hx3 y1 aA hm3 _ hy⟩)) ?_
  rintro aD aQ aE w ⟨_, rfl, hB⟩
  replace hm := aK _ _ hB; clear hB
  refine gF fo_28_0 rfl (gS1 hm 2 sizeOf26 (rep_one (hm.ow_rep 1 rfl)) rfl fun w hm => gE (gS (gR (gY (yn (hm.blk_at 2 rfl) isAgg28 sizeOf28 rfl) (gL hm 0 isAgg4 rfl ?_)))))
  obtain ⟨aL, hle, hm1, hsub, aM⟩ := hm.take2 (L1 := [ow [aE] aD.1]) (L2 := [blk aA [(.bool (aD.2))] 4, blk aH [aE] 28, ow [aC] aB.1.codes, blk aG [(.slice none 0 0)] 28, blk aF [v1] 28]) [1] [0, 2, 3, 4, 5] (by decide) rfl rfl
  refine gCg rfl call34 (impl_onlyValid_ok _ aL (⟨aD.1⟩ : Unit_) aE aD.2 hm1 ) ?_
  rintro aR aS aT w ⟨aN, rfl, hB⟩
  replace hm := aM _ _ hB; clear hB
  exact gX rfl (gX rfl (gSN hm 4 sizeOf28 (one_cons (rep_one (hm.ow_rep 0 rfl)) one_nil) rfl fun w hm => gA rfl (gE (gRt (grct 4 results12 hm rfl isAgg28 sizeOf28 ⟨aN, rfl, hm.pk [0] rfl rfl⟩)))))
theorem laws_eqIntS_ok (w0 : World) (a_ : List Int) (v1 : Value) (h1 : GT.rep (hp w0) [v1] a_) (b_ : List Int) (v2 : Value) (h2 : GT.rep (hp w0) [v2] b_) :
    ConM Tryz.prog 255 [v1, v2] w0 (laws_eqIntS a_ b_) fun r v w' => v = (.bool (r)) ∧ Below w0.heap.size w0 w' := by
  unfold laws_eqIntS
  refine gcon func255 rfl fun r => ?_
  have hm := Mem.start w0
  refine gS (gR (gA rfl (gE (gS (gS (gR (gM rfl ?_)))))))
  obtain ⟨aE, aF, rfl, aQ⟩ := ro_slice h1
  refine gY (yV st_57 rfl) (gM rfl ?_)
  obtain ⟨aG, aH, rfl, aR⟩ := ro_slice h2
  refine gY (yV st_57 rfl) (gB rfl (gE (gsd 10 rfl (fun aI => ?_) fun aI => ?_)))
  ·
   exact gct rfl (gS (gR (gA rfl (gE (gRt (gr1 results255 rfl ⟨rfl, hm.below⟩))))))
  refine gcf rfl (gSk (gS (gS (gR (gA rfl (gE (gBk (gNf hm (fun aA aD => [(0, (.slice aE a_.length aF)), (1, (.slice aG b_.length aH)), (5, (nV aA))]) (fun aA aD => []) [] rfl ?_ ?_))))))))
  ·
   repeat clear hm
   intro aS aJ aA aD w hm aT aV aW aK
   refine gS (gS (gR (gM rfl (gM rfl (gY (yV st_57 rfl) (gB rfl (gE (go _ 14 rfl (decide_eq_true (by omega)) (gct rfl (gSk (gS (gBk (gS (gW (.p 0 (.p 1 (.p 2 (.p 4 (.p 5 (.p 6 (.q 3 (.e 7 (.p 8 .fin) .nil)))))))) [7] [0, 1, 2, 4, 5, 6, 8] hm [] [] rfl mxo (by kernel_rfl) (fun _ _ _ h => h.2) fun w hm hS => tP rfl (fun w => yM rfl) (tP rfl (fun w => yM rfl) (gg fun aL aM aB => ?_))))))))))))))))
   obtain ⟨aX, aY, aZ, he⟩ := idx_form h1 aB
   obtain ⟨rfl, _, rfl⟩ := sl3 he
   refine tP rfl (fun w => yI st_57 aM (idx_lt aB) rfl) (tP rfl (fun w => yM rfl) (tP rfl (fun w => yM rfl) (gg fun aN aO aC => ?_)))
   obtain ⟨aa, ab, ac, he⟩ := idx_form h2 aC
   obtain ⟨rfl, _, rfl⟩ := sl3 he
   refine tP rfl (fun w => yI st_57 aO (idx_lt aC) rfl) (tQ rfl hS (fun w hm => yl isAgg3 ((flat_cells (cs := [(nV aL)]) (hm.now h1) aB rfl).cell (j := 0) rfl) rfl) (tO (tY rfl (yl isAgg3 ((flat_cells (cs := [(nV aN)]) (hm.now h2) aC rfl).cell (j := 0) rfl) rfl) (tAs hS (tP rfl (fun w => yB rfl) (tE (gsd 25 rfl (fun aP => ?_) fun aP => ?_)))))))
   ·
    exact gct rfl (gS (gR (gA rfl (gE (gRt (gLr aK aJ (gr1 results255 rfl ⟨rfl, hm.below⟩)))))))
   exact gcf rfl (gSk (gR (gM rfl (gP (by omega) (by omega) rfl (gA rfl (gE (gze hm [] rfl)))))))
  repeat clear hm
  intro ae af w hm ag ah
  exact gS (gS (gR (gM rfl (gM rfl (gY (yV st_57 rfl) (gB rfl (gE (go _ 14 rfl (decide_eq_false (by omega)) (gcf rfl (gXt (gHh (gS (gR (gA rfl (gE (gRt (gr1 results255 rfl ⟨rfl, hm.below⟩)))))))))))))))))
theorem laws_eqPhi_ok (w0 : World) (a_ : Phi_) (v1 : Value) (h1 : GT.rep (hp w0) [v1] a_.args) (b_ : Phi_) (v2 : Value) (h2 : GT.rep (hp w0) [v2] b_.args) :
    ConM Tryz.prog 287 [(.agg #[(nV a_.to), v1]), (.agg #[(nV b_.to), v2])] w0 (laws_eqPhi a_ b_) fun r v w' => v = (.bool (r)) ∧ Below w0.heap.size w0 w' := by
  unfold laws_eqPhi
  refine gcon func287 rfl fun r => ?_
  have hm := Mem.start w0
  refine gS (gR (gBx hm rfl fun aC w hm => gBx hm rfl fun aD w hm => gA rfl (gE (gS (gS (gR (gF fo_87_0 rfl (gL hm 1 isAgg3 rfl (gF fo_87_0 rfl (gL hm 0 isAgg3 rfl (gB rfl (gE (gsd 9 rfl (fun aA => ?_) fun aA => ?_)))))))))))))
  ·
   exact gct rfl (gS (gR (gA rfl (gE (gRt (gr1 results287 rfl ⟨rfl, hm.below⟩))))))
  refine gcf rfl (gSk (gS (gS (gR (gF fo_87_1 rfl (gL hm 1 isAgg57 rfl (gF fo_87_1 rfl (gL hm 0 isAgg57 rfl (gC hm rfl call255 (laws_eqIntS_ok _ a_.args v1 (hm.now h1) b_.args v2 (hm.now h2)) fun aE aF w hm => gN rfl (gE (gsn 15 rfl (fun aB => ?_) fun aB => ?_)))))))))))
  ·
   exact gct rfl (gS (gR (gA rfl (gE (gRt (gr1 results287 rfl ⟨rfl, hm.below⟩))))))
  exact gcf rfl (gSk (gS (gR (gA rfl (gE (gRt (gr1 results287 rfl ⟨rfl, hm.below⟩)))))))
theorem laws_eqPhiS_ok (w0 : World) (a_ : List Phi_) (v1 : Value) (h1 : GT.rep (hp w0) [v1] a_) (b_ : List Phi_) (v2 : Value) (h2 : GT.rep (hp w0) [v2] b_) :
    ConM Tryz.prog 253 [v1, v2] w0 (laws_eqPhiS a_ b_) fun r v w' => v = (.bool (r)) ∧ Below w0.heap.size w0 w' := by
  unfold laws_eqPhiS
  refine gcon func253 rfl fun r => ?_
  have hm := Mem.start w0
  refine gS (gR (gA rfl (gE (gS (gS (gR (gM rfl ?_)))))))
  obtain ⟨aE, aF, rfl, aY⟩ := ro_slice h1
  refine gY (yV st_55 rfl) (gM rfl ?_)
  obtain ⟨aG, aH, rfl, aZ⟩ := ro_slice h2
  refine gY (yV st_55 rfl) (gB rfl (gE (gsd 10 rfl (fun aI => ?_) fun aI => ?_)))
  ·
   exact gct rfl (gS (gR (gA rfl (gE (gRt (gr1 results253 rfl ⟨rfl, hm.below⟩))))))
  refine gcf rfl (gSk (gS (gS (gR (gA rfl (gE (gBk (gNf hm (fun aA aD => [(0, (.slice aE a_.length aF)), (1, (.slice aG b_.length aH)), (5, (nV aA))]) (fun aA aD => []) [] rfl ?_ ?_))))))))
  ·
   repeat clear hm
   intro aa aJ aA aD w hm ab ac ae aK
   refine gS (gS (gR (gM rfl (gM rfl (gY (yV st_55 rfl) (gB rfl (gE (go _ 14 rfl (decide_eq_true (by omega)) (gct rfl (gSk (gS (gBk (gS (gW (.p 0 (.p 1 (.p 2 (.p 4 (.p 5 (.p 6 (.q 3 (.e 7 (.e 8 (.p 9 .fin) .nil) .nil)))))))) [7] [0, 1, 2, 4, 5, 6, 9] hm [] [] rfl mxo (by kernel_rfl) (fun _ _ _ h => h.2) fun w hm hS => tP rfl (fun w => yM rfl) (tP rfl (fun w => yM rfl) (gg fun aL aM aB => ?_))))))))))))))))
   obtain ⟨af, ag, ah, he⟩ := idx_form' h1 aB
   obtain ⟨rfl, _, rfl⟩ := sl3 he
   obtain ⟨aN, aO, aP⟩ := rk_Phi_ h1 aB
   refine tP rfl (fun w => yI st_55 aM (idx_lt aB) rfl) (tP rfl (fun w => yM rfl) (tP rfl (fun w => yM rfl) (gg fun aQ aR aC => ?_)))
   obtain ⟨ai, aj, ak, he⟩ := idx_form' h2 aC
   obtain ⟨rfl, _, rfl⟩ := sl3 he
   obtain ⟨aS, aT, aV⟩ := rk_Phi_ h2 aC
   refine tP rfl (fun w => yI st_55 aR (idx_lt aC) rfl) (tQ rfl hS (fun w hm => yn (aO.mono hm.lez) isAgg87 sizeOf87 rfl) (tO (tY rfl (yn (aT.mono hm.lez) isAgg87 sizeOf87 rfl) (tAs hS (tO (gb fun al aW => tf rfl rfl (fun a hf => e_call hf rfl call287 rfl (laws_eqPhi_ok _ aL aN (hm.now aP) aQ aS (hm.now aV) _ aW)) ?_))))))
   rintro am w ⟨rfl, hB⟩
   replace hm := hm.below' hB; clear hB
   refine tAn rfl (tP rfl (fun w => yN rfl) (tE (gsn 26 rfl (fun aX => ?_) fun aX => ?_)))
   ·
    exact gct rfl (gS (gR (gA rfl (gE (gRt (gLr aK aJ (gr1 results253 rfl ⟨rfl, hm.below⟩)))))))
   exact gcf rfl (gSk (gR (gM rfl (gP (by omega) (by omega) rfl (gA rfl (gE (gze hm [] rfl)))))))
  repeat clear hm
  intro an ao w hm ap aq
  exact gS (gS (gR (gM rfl (gM rfl (gY (yV st_55 rfl) (gB rfl (gE (go _ 14 rfl (decide_eq_false (by omega)) (gcf rfl (gXt (gHh (gS (gR (gA rfl (gE (gRt (gr1 results253 rfl ⟨rfl, hm.below⟩)))))))))))))))))
theorem laws_eqIns_ok (w0 : World) (a_ : Ins_) (v1 : Value) (h1 : GT.rep (hp w0) [v1] a_.args) (b_ : Ins_) (v2 : Value) (h2 : GT.rep (hp w0) [v2] b_.args) :
    ConM Tryz.prog 288 [(.agg #[(nV a_.op), (nV a_.to), v1, (nV a_.n_)]), (.agg #[(nV b_.op), (nV b_.to), v2, (nV b_.n_)])] w0 (laws_eqIns a_ b_) fun r v w' => v = (.bool (r)) ∧ Below w0.heap.size w0 w' := by
  unfold laws_eqIns
  refine gcon func288 rfl fun r => ?_
  have hm := Mem.start w0
  refine gS (gR (gBx hm rfl fun aE w hm => gBx hm rfl fun aF w hm => gA rfl (gE (gS (gS (gR (gF fo_61_0 rfl (gL hm 1 isAgg3 rfl (gF fo_61_0 rfl (gL hm 0 isAgg3 rfl (gB rfl (gE (gsd 9 rfl (fun aA => ?_) fun aA => ?_)))))))))))))
  ·
   exact gct rfl (gS (gR (gA rfl (gE (gRt (gr1 results288 rfl ⟨rfl, hm.below⟩))))))
  refine gcf rfl (gSk (gS (gS (gR (gF fo_61_1 rfl (gL hm 1 isAgg3 rfl (gF fo_61_1 rfl (gL hm 0 isAgg3 rfl (gB rfl (gE (gsd 14 rfl (fun aB => ?_) fun aB => ?_)))))))))))
  ·
   exact gct rfl (gS (gR (gA rfl (gE (gRt (gr1 results288 rfl ⟨rfl, hm.below⟩))))))
  refine gcf rfl (gSk (gS (gS (gR (gF fo_61_2 rfl (gL hm 1 isAgg57 rfl (gF fo_61_2 rfl (gL hm 0 isAgg57 rfl (gC hm rfl call255 (laws_eqIntS_ok _ a_.args v1 (hm.now h1) b_.args v2 (hm.now h2)) fun aG aH w hm => gN rfl (gE (gsn 20 rfl (fun aC => ?_) fun aC => ?_)))))))))))
  ·
   exact gct rfl (gS (gR (gA rfl (gE (gRt (gr1 results288 rfl ⟨rfl, hm.below⟩))))))
  refine gcf rfl (gSk (gS (gS (gR (gF fo_61_3 rfl (gL hm 1 isAgg3 rfl (gF fo_61_3 rfl (gL hm 0 isAgg3 rfl (gB rfl (gE (gsd 25 rfl (fun aD => ?_) fun aD => ?_)))))))))))
  ·
   exact gct rfl (gS (gR (gA rfl (gE (gRt (gr1 results288 rfl ⟨rfl, hm.below⟩))))))
  exact gcf rfl (gSk (gS (gR (gA rfl (gE (gRt (gr1 results288 rfl ⟨rfl, hm.below⟩)))))))
theorem laws_eqInsS_ok (w0 : World) (a_ : List Ins_) (v1 : Value) (h1 : GT.rep (hp w0) [v1] a_) (b_ : List Ins_) (v2 : Value) (h2 : GT.rep (hp w0) [v2] b_) :
    ConM Tryz.prog 254 [v1, v2] w0 (laws_eqInsS a_ b_) fun r v w' => v = (.bool (r)) ∧ Below w0.heap.size w0 w' := by
  unfold laws_eqInsS
  refine gcon func254 rfl fun r => ?_
  have hm := Mem.start w0
  refine gS (gR (gA rfl (gE (gS (gS (gR (gM rfl ?_)))))))
  obtain ⟨aE, aF, rfl, aY⟩ := ro_slice h1
  refine gY (yV st_56 rfl) (gM rfl ?_)
  obtain ⟨aG, aH, rfl, aZ⟩ := ro_slice h2
  refine gY (yV st_56 rfl) (gB rfl (gE (gsd 10 rfl (fun aI => ?_) fun aI => ?_)))
  ·
   exact gct rfl (gS (gR (gA rfl (gE (gRt (gr1 results254 rfl ⟨rfl, hm.below⟩))))))
  refine gcf rfl (gSk (gS (gS (gR (gA rfl (gE (gBk (gNf hm (fun aA aD => [(0, (.slice aE a_.length aF)), (1, (.slice aG b_.length aH)), (5, (nV aA))]) (fun aA aD => []) [] rfl ?_ ?_))))))))
  ·
   repeat clear hm
   intro aa aJ aA aD w hm ab ac ae aK
   refine gS (gS (gR (gM rfl (gM rfl (gY (yV st_56 rfl) (gB rfl (gE (go _ 14 rfl (decide_eq_true (by omega)) (gct rfl (gSk (gS (gBk (gS (gW (.p 0 (.p 1 (.p 2 (.p 4 (.p 5 (.p 6 (.q 3 (.e 7 (.e 8 (.p 9 .fin) .nil) .nil)))))))) [7] [0, 1, 2, 4, 5, 6, 9] hm [] [] rfl mxo (by kernel_rfl) (fun _ _ _ h => h.2) fun w hm hS => tP rfl (fun w => yM rfl) (tP rfl (fun w => yM rfl) (gg fun aL aM aB => ?_))))))))))))))))
   obtain ⟨af, ag, ah, he⟩ := idx_form' h1 aB
   obtain ⟨rfl, _, rfl⟩ := sl3 he
   obtain ⟨aN, aO, aP⟩ := rk_Ins_ h1 aB
   refine tP rfl (fun w => yI st_56 aM (idx_lt aB) rfl) (tP rfl (fun w => yM rfl) (tP rfl (fun w => yM rfl) (gg fun aQ aR aC => ?_)))
   obtain ⟨ai, aj, ak, he⟩ := idx_form' h2 aC
   obtain ⟨rfl, _, rfl⟩ := sl3 he
   obtain ⟨aS, aT, aV⟩ := rk_Ins_ h2 aC
   refine tP rfl (fun w => yI st_56 aR (idx_lt aC) rfl) (tQ rfl hS (fun w hm => yn (aO.mono hm.lez) isAgg61 sizeOf61 rfl) (tO (tY rfl (yn (aT.mono hm.lez) isAgg61 sizeOf61 rfl) (tAs hS (tO (gb fun al aW => tf rfl rfl (fun a hf => e_call hf rfl call288 rfl (laws_eqIns_ok _ aL aN (hm.now aP) aQ aS (hm.now aV) _ aW)) ?_))))))
   rintro am w ⟨rfl, hB⟩
   replace hm := hm.below' hB; clear hB
   refine tAn rfl (tP rfl (fun w => yN rfl) (tE (gsn 26 rfl (fun aX => ?_) fun aX => ?_)))
   ·
    exact gct rfl (gS (gR (gA rfl (gE (gRt (gLr aK aJ (gr1 results254 rfl ⟨rfl, hm.below⟩)))))))
   exact gcf rfl (gSk (gR (gM rfl (gP (by omega) (by omega) rfl (gA rfl (gE (gze hm [] rfl)))))))
  repeat clear hm
  intro an ao w hm ap aq
  exact gS (gS (gR (gM rfl (gM rfl (gY (yV st_56 rfl) (gB rfl (gE (go _ 14 rfl (decide_eq_false (by omega)) (gcf rfl (gXt (gHh (gS (gR (gA rfl (gE (gRt (gr1 results254 rfl ⟨rfl, hm.below⟩)))))))))))))))))
theorem laws_eqBlock_ok (w0 : World) (a_ : Block_) (v1 : Value) (h1 : GT.rep (hp w0) [v1] a_.phis) (v2 : Value) (h2 : GT.rep (hp w0) [v2] a_.ins) (v3 : Value) (h3 : GT.rep (hp w0) [v3] a_.next_) (b_ : Block_) (v4 : Value) (h4 : GT.rep (hp w0) [v4] b_.phis) (v5 : Value) (h5 : GT.rep (hp w0) [v5] b_.ins) (v6 : Value) (h6 : GT.rep (hp w0) [v6] b_.next_) :
    ConM Tryz.prog 200 [(.agg #[v1, v2, (nV a_.jump), (nV a_.on), v3]), (.agg #[v4, v5, (nV b_.jump), (nV b_.on), v6])] w0 (laws_eqBlock a_ b_) fun r v w' => v = (.bool (r)) ∧ Below w0.heap.size w0 w' := by
  unfold laws_eqBlock
  refine gcon func200 rfl fun r => ?_
  have hm := Mem.start w0
  refine gS (gR (gBx hm rfl fun aF w hm => gBx hm rfl fun aG w hm => gA rfl (gE (gS (gS (gR (gF fo_59_0 rfl (gL hm 1 isAgg55 rfl (gF fo_59_0 rfl (gL hm 0 isAgg55 rfl (gC hm rfl call253 (laws_eqPhiS_ok _ a_.phis v1 (hm.now h1) b_.phis v4 (hm.now h4)) fun aH aI w hm => gN rfl (gE (gsn 10 rfl (fun aA => ?_) fun aA => ?_)))))))))))))
  ·
   exact gct rfl (gS (gR (gA rfl (gE (gRt (gr1 results200 rfl ⟨rfl, hm.below⟩))))))
  refine gcf rfl (gSk (gS (gS (gR (gF fo_59_1 rfl (gL hm 1 isAgg56 rfl (gF fo_59_1 rfl (gL hm 0 isAgg56 rfl (gC hm rfl call254 (laws_eqInsS_ok _ a_.ins v2 (hm.now h2) b_.ins v5 (hm.now h5)) fun aJ aK w hm => gN rfl (gE (gsn 16 rfl (fun aB => ?_) fun aB => ?_)))))))))))
  ·
   exact gct rfl (gS (gR (gA rfl (gE (gRt (gr1 results200 rfl ⟨rfl, hm.below⟩))))))
  refine gcf rfl (gSk (gS (gS (gR (gF fo_59_2 rfl (gL hm 1 isAgg3 rfl (gF fo_59_2 rfl (gL hm 0 isAgg3 rfl (gB rfl (gE (gsd 21 rfl (fun aC => ?_) fun aC => ?_)))))))))))
  ·
   exact gct rfl (gS (gR (gA rfl (gE (gRt (gr1 results200 rfl ⟨rfl, hm.below⟩))))))
  refine gcf rfl (gSk (gS (gS (gR (gF fo_59_3 rfl (gL hm 1 isAgg3 rfl (gF fo_59_3 rfl (gL hm 0 isAgg3 rfl (gB rfl (gE (gsd 26 rfl (fun aD => ?_) fun aD => ?_)))))))))))
  ·
   exact gct rfl (gS (gR (gA rfl (gE (gRt (gr1 results200 rfl ⟨rfl, hm.below⟩))))))
  refine gcf rfl (gSk (gS (gS (gR (gF fo_59_4 rfl (gL hm 1 isAgg57 rfl (gF fo_59_4 rfl (gL hm 0 isAgg57 rfl (gC hm rfl call255 (laws_eqIntS_ok _ a_.next_ v3 (hm.now h3) b_.next_ v6 (hm.now h6)) fun aL aM w hm => gN rfl (gE (gsn 32 rfl (fun aE => ?_) fun aE => ?_)))))))))))
  ·
   exact gct rfl (gS (gR (gA rfl (gE (gRt (gr1 results200 rfl ⟨rfl, hm.below⟩))))))
  exact gcf rfl (gSk (gS (gR (gA rfl (gE (gRt (gr1 results200 rfl ⟨rfl, hm.below⟩)))))))
theorem laws_eqBlockS_ok (w0 : World) (a_ : List Block_) (v1 : Value) (h1 : GT.rep (hp w0) [v1] a_) (b_ : List Block_) (v2 : Value) (h2 : GT.rep (hp w0) [v2] b_) :
    ConM Tryz.prog 129 [v1, v2] w0 (laws_eqBlockS a_ b_) fun r v w' => v = (.bool (r)) ∧ Below w0.heap.size w0 w' := by
  unfold laws_eqBlockS
  refine gcon func129 rfl fun r => ?_
  have hm := Mem.start w0
  refine gS (gR (gA rfl (gE (gS (gS (gR (gM rfl ?_)))))))
  obtain ⟨aE, aF, rfl, ah⟩ := ro_slice h1
  refine gY (yV st_42 rfl) (gM rfl ?_)
  obtain ⟨aG, aH, rfl, ai⟩ := ro_slice h2
  refine gY (yV st_42 rfl) (gB rfl (gE (gsd 10 rfl (fun aI => ?_) fun aI => ?_)))
  ·
   exact gct rfl (gS (gR (gA rfl (gE (gRt (gr1 results129 rfl ⟨rfl, hm.below⟩))))))
  refine gcf rfl (gSk (gS (gS (gR (gA rfl (gE (gBk (gNf hm (fun aA aD => [(0, (.slice aE a_.length aF)), (1, (.slice aG b_.length aH)), (5, (nV aA))]) (fun aA aD => []) [] rfl ?_ ?_))))))))
  ·
   repeat clear hm
   intro aj aJ aA aD w hm ak al am aK
   refine gS (gS (gR (gM rfl (gM rfl (gY (yV st_42 rfl) (gB rfl (gE (go _ 14 rfl (decide_eq_true (by omega)) (gct rfl (gSk (gS (gBk (gS (gW (.p 0 (.p 1 (.p 2 (.p 4 (.p 5 (.p 6 (.q 3 (.e 7 (.e 8 (.p 9 .fin) .nil) .nil)))))))) [7] [0, 1, 2, 4, 5, 6, 9] hm [] [] rfl mxo (by kernel_rfl) (fun _ _ _ h => h.2) fun w hm hS => tP rfl (fun w => yM rfl) (tP rfl (fun w => yM rfl) (gg fun aL aM aB => ?_))))))))))))))))
   obtain ⟨an, ao, ap, he⟩ := idx_form' h1 aB
   obtain ⟨rfl, _, rfl⟩ := sl3 he
   obtain ⟨aN, aO, aP, aQ, aR, aS, aT⟩ := rk_Block_ h1 aB
   refine tP rfl (fun w => yI st_42 aM (idx_lt aB) rfl) (tP rfl (fun w => yM rfl) (tP rfl (fun w => yM rfl) (gg fun aV aW aC => ?_)))
   obtain ⟨aq, ar, au, he⟩ := idx_form' h2 aC
   obtain ⟨rfl, _, rfl⟩ := sl3 he
   obtain ⟨aX, aY, aZ, aa, ab, ac, ae⟩ := rk_Block_ h2 aC
   refine tP rfl (fun w => yI st_42 aW (idx_lt aC) rfl) (tQ rfl hS (fun w hm => yn (aQ.mono hm.lez) isAgg59 sizeOf59 rfl) (tO (tY rfl (yn (aa.mono hm.lez) isAgg59 sizeOf59 rfl) (tAs hS (tO (gb fun av af => tf rfl rfl (fun a hf => e_call hf rfl call200 rfl (laws_eqBlock_ok _ aL aN (hm.now aR) aO (hm.now aS) aP (hm.now aT) aV aX (hm.now ab) aY (hm.now ac) aZ (hm.now ae) _ af)) ?_))))))
   rintro aw w ⟨rfl, hB⟩
   replace hm := hm.below' hB; clear hB
   refine tAn rfl (tP rfl (fun w => yN rfl) (tE (gsn 26 rfl (fun ag => ?_) fun ag => ?_)))
   ·
    exact gct rfl (gS (gR (gA rfl (gE (gRt (gLr aK aJ (gr1 results129 rfl ⟨rfl, hm.below⟩)))))))
   exact gcf rfl (gSk (gR (gM rfl (gP (by omega) (by omega) rfl (gA rfl (gE (gze hm [] rfl)))))))
  repeat clear hm
  intro ax ay w hm az bA
  exact gS (gS (gR (gM rfl (gM rfl (gY (yV st_42 rfl) (gB rfl (gE (go _ 14 rfl (decide_eq_false (by omega)) (gcf rfl (gXt (gHh (gS (gR (gA rfl (gE (gRt (gr1 results129 rfl ⟨rfl, hm.below⟩)))))))))))))))))
theorem laws_eqCode_ok (w0 : World) (a_ : Code_) (v1 : Value) (h1 : GT.rep (hp w0) [v1] a_.blocks) (b_ : Code_) (v2 : Value) (h2 : GT.rep (hp w0) [v2] b_.blocks) :
    ConM Tryz.prog 81 [(.agg #[(nV a_.params), (nV a_.regs), v1]), (.agg #[(nV b_.params), (nV b_.regs), v2])] w0 (laws_eqCode a_ b_) fun r v w' => v = (.bool (r)) ∧ Below w0.heap.size w0 w' := by
  unfold laws_eqCode
  refine gcon func81 rfl fun r => ?_
  have hm := Mem.start w0
  refine gS (gR (gBx hm rfl fun aD w hm => gBx hm rfl fun aE w hm => gA rfl (gE (gS (gS (gR (gF fo_44_0 rfl (gL hm 1 isAgg3 rfl (gF fo_44_0 rfl (gL hm 0 isAgg3 rfl (gB rfl (gE (gsd 9 rfl (fun aA => ?_) fun aA => ?_)))))))))))))
  ·
   exact gct rfl (gS (gR (gA rfl (gE (gRt (gr1 results81 rfl ⟨rfl, hm.below⟩))))))
  refine gcf rfl (gSk (gS (gS (gR (gF fo_44_1 rfl (gL hm 1 isAgg3 rfl (gF fo_44_1 rfl (gL hm 0 isAgg3 rfl (gB rfl (gE (gsd 14 rfl (fun aB => ?_) fun aB => ?_)))))))))))
  ·
   exact gct rfl (gS (gR (gA rfl (gE (gRt (gr1 results81 rfl ⟨rfl, hm.below⟩))))))
  refine gcf rfl (gSk (gS (gS (gR (gF fo_44_2 rfl (gL hm 1 isAgg42 rfl (gF fo_44_2 rfl (gL hm 0 isAgg42 rfl (gC hm rfl call129 (laws_eqBlockS_ok _ a_.blocks v1 (hm.now h1) b_.blocks v2 (hm.now h2)) fun aF aG w hm => gN rfl (gE (gsn 20 rfl (fun aC => ?_) fun aC => ?_)))))))))))
  ·
   exact gct rfl (gS (gR (gA rfl (gE (gRt (gr1 results81 rfl ⟨rfl, hm.below⟩))))))
  exact gcf rfl (gSk (gS (gR (gA rfl (gE (gRt (gr1 results81 rfl ⟨rfl, hm.below⟩)))))))
theorem laws_eqCodeS_ok (w0 : World) (a_ : List Code_) (v1 : Value) (h1 : GT.rep (hp w0) [v1] a_) (b_ : List Code_) (v2 : Value) (h2 : GT.rep (hp w0) [v2] b_) :
    ConM Tryz.prog 35 [v1, v2] w0 (laws_eqCodeS a_ b_) fun r v w' => v = (.bool (r)) ∧ Below w0.heap.size w0 w' := by
  unfold laws_eqCodeS
  refine gcon func35 rfl fun r => ?_
  have hm := Mem.start w0
  refine gS (gR (gA rfl (gE (gS (gS (gR (gM rfl ?_)))))))
  obtain ⟨aE, aF, rfl, aY⟩ := ro_slice h1
  refine gY (yV st_26 rfl) (gM rfl ?_)
  obtain ⟨aG, aH, rfl, aZ⟩ := ro_slice h2
  refine gY (yV st_26 rfl) (gB rfl (gE (gsd 10 rfl (fun aI => ?_) fun aI => ?_)))
  ·
   exact gct rfl (gS (gR (gA rfl (gE (gRt (gr1 results35 rfl ⟨rfl, hm.below⟩))))))
  refine gcf rfl (gSk (gS (gS (gR (gA rfl (gE (gBk (gNf hm (fun aA aD => [(0, (.slice aE a_.length aF)), (1, (.slice aG b_.length aH)), (5, (nV aA))]) (fun aA aD => []) [] rfl ?_ ?_))))))))
  ·
   repeat clear hm
   intro aa aJ aA aD w hm ab ac ae aK
   refine gS (gS (gR (gM rfl (gM rfl (gY (yV st_26 rfl) (gB rfl (gE (go _ 14 rfl (decide_eq_true (by omega)) (gct rfl (gSk (gS (gBk (gS (gW (.p 0 (.p 1 (.p 2 (.p 4 (.p 5 (.p 6 (.q 3 (.e 7 (.e 8 (.p 9 .fin) .nil) .nil)))))))) [7] [0, 1, 2, 4, 5, 6, 9] hm [] [] rfl mxo (by kernel_rfl) (fun _ _ _ h => h.2) fun w hm hS => tP rfl (fun w => yM rfl) (tP rfl (fun w => yM rfl) (gg fun aL aM aB => ?_))))))))))))))))
   obtain ⟨af, ag, ah, he⟩ := idx_form' h1 aB
   obtain ⟨rfl, _, rfl⟩ := sl3 he
   obtain ⟨aN, aO, aP⟩ := rk_Code_ h1 aB
   refine tP rfl (fun w => yI st_26 aM (idx_lt aB) rfl) (tP rfl (fun w => yM rfl) (tP rfl (fun w => yM rfl) (gg fun aQ aR aC => ?_)))
   obtain ⟨ai, aj, ak, he⟩ := idx_form' h2 aC
   obtain ⟨rfl, _, rfl⟩ := sl3 he
   obtain ⟨aS, aT, aV⟩ := rk_Code_ h2 aC
   refine tP rfl (fun w => yI st_26 aR (idx_lt aC) rfl) (tQ rfl hS (fun w hm => yn (aO.mono hm.lez) isAgg44 sizeOf44 rfl) (tO (tY rfl (yn (aT.mono hm.lez) isAgg44 sizeOf44 rfl) (tAs hS (tO (gb fun al aW => tf rfl rfl (fun a hf => e_call hf rfl call81 rfl (laws_eqCode_ok _ aL aN (hm.now aP) aQ aS (hm.now aV) _ aW)) ?_))))))
   rintro am w ⟨rfl, hB⟩
   replace hm := hm.below' hB; clear hB
   refine tAn rfl (tP rfl (fun w => yN rfl) (tE (gsn 26 rfl (fun aX => ?_) fun aX => ?_)))
   ·
    exact gct rfl (gS (gR (gA rfl (gE (gRt (gLr aK aJ (gr1 results35 rfl ⟨rfl, hm.below⟩)))))))
   exact gcf rfl (gSk (gR (gM rfl (gP (by omega) (by omega) rfl (gA rfl (gE (gze hm [] rfl)))))))
  repeat clear hm
  intro an ao w hm ap aq
  exact gS (gS (gR (gM rfl (gM rfl (gY (yV st_26 rfl) (gB rfl (gE (go _ 14 rfl (decide_eq_false (by omega)) (gcf rfl (gXt (gHh (gS (gR (gA rfl (gE (gRt (gr1 results35 rfl ⟨rfl, hm.below⟩)))))))))))))))))
theorem laws_eqUnit_ok (w0 : World) (a_ : Unit_) (v1 : Value) (h1 : GT.rep (hp w0) [v1] a_.codes) (b_ : Unit_) (v2 : Value) (h2 : GT.rep (hp w0) [v2] b_.codes) :
    ConM Tryz.prog 13 [(.agg #[v1]), (.agg #[v2])] w0 (laws_eqUnit a_ b_) fun r v w' => v = (.bool (r)) ∧ Below w0.heap.size w0 w' := by
  unfold laws_eqUnit
  refine gcon func13 rfl fun r => ?_
  have hm := Mem.start w0
  refine gS (gR (gBx hm rfl fun aB w hm => gBx hm rfl fun aC w hm => gA rfl (gE (gS (gS (gR (gF fo_28_0 rfl (gL hm 1 isAgg26 rfl (gF fo_28_0 rfl (gL hm 0 isAgg26 rfl (gC hm rfl call35 (laws_eqCodeS_ok _ a_.codes v1 (hm.now h1) b_.codes v2 (hm.now h2)) fun aD aE w hm => gN rfl (gE (gsn 10 rfl (fun aA => ?_) fun aA => ?_)))))))))))))
  ·
   exact gct rfl (gS (gR (gA rfl (gE (gRt (gr1 results13 rfl ⟨rfl, hm.below⟩))))))
  exact gcf rfl (gSk (gS (gR (gA rfl (gE (gRt (gr1 results13 rfl ⟨rfl, hm.below⟩)))))))
theorem laws_markIntS_ok (w0 : World) (hz : Heap) (a_ : List Int) (v1 : Value) (k_ : Int) (hm0 : Mem w0 hz w0 [ow [v1] a_]) :
    ConM Tryz.prog 132 [v1, (nV k_)] w0 (laws_markIntS a_ k_) fun r v w' => v = (nV r.1) ∧ Mem w0 hz w' [ow [v1] r.2] := by
  unfold laws_markIntS
  refine gcon func132 rfl fun r => ?_
  have hm := hm0
  refine gS (gR (gA rfl (gE (gS (gS (gR (gA rfl (gE ?_))))))))
  obtain ⟨aD, aE, rfl, aG⟩ := ro_slice (hm.ow_rep 0 rfl)
  refine gBk (gNf hm (fun aC aA => [(0, (.slice aD a_.length aE)), (1, (nV aA.2)), (5, (nV aC))]) (fun aC aA => [ow [(.slice aD a_.length aE)] aA.1]) [0] rfl ?_ ?_)
  ·
   repeat clear hm
   intro _ _ aC aA w hm aH aI aJ _
   refine gS (gS (gR (gM rfl (gM rfl ?_))))
   have aK := rep_len (hm.ow_rep 0 rfl)
   refine gY (yV st_57 rfl) (gB rfl (gE (go _ 9 rfl (decide_eq_true (by omega)) (gct rfl (gSk (gS (gBk (gS (gR (gM rfl (gM rfl (gM rfl (gg fun aL aF aB => ?_)))))))))))))
   obtain ⟨aM, aN, aO, he⟩ := idx_form (hm.ow_rep 0 rfl) aB
   obtain ⟨rfl, _, rfl⟩ := sl3 he
   have hL1_1 := rep_slice_len (hm.ow_rep 0 rfl)
   refine gI st_57 aF (idx_lt2 aB hL1_1) rfl (gf0 rfl (fun a hf => e_setElem (x1 := aA.2) (j := 0) (vs := [(nV aA.2)]) 0 hf hm rfl aB rfl sizeOf3 rfl rfl rfl (one_cons rfl one_nil) rfl rfl) ?_)
   rintro _ w hm
   have aP := List.getElem?_set_self (a := aA.2) (idx_lt aB)
   exact gE (gR (gM rfl (gB rfl (gA rfl (gE (gR (gM rfl (gP (by omega) (by omega) rfl (gA rfl (gE (gze hm [0] rfl)))))))))))
  repeat clear hm
  intro aQ aR w hm aS aT
  refine gS (gS (gR (gM rfl (gM rfl ?_))))
  have aV := rep_len (hm.ow_rep 0 rfl)
  exact gY (yV st_57 rfl) (gB rfl (gE (go _ 9 rfl (decide_eq_false (by omega)) (gcf rfl (gXt (gHh (gS (gR (gM rfl (gA rfl (gE (gRt (gr1 results132 rfl ⟨rfl, hm.pk [0] rfl rfl⟩)))))))))))))
theorem laws_markPhiS_ok (w0 : World) (hz : Heap) (a_ : List Phi_) (v1 : Value) (k_ : Int) (hm0 : Mem w0 hz w0 [ow [v1] a_]) :
    ConM Tryz.prog 130 [v1, (nV k_)] w0 (laws_markPhiS a_ k_) fun r v w' => v = (nV r.1) ∧ Mem w0 hz w' [ow [v1] r.2] := by
  unfold laws_markPhiS
  refine gcon func130 rfl fun r => ?_
  have hm := hm0
  refine gS (gR (gA rfl (gE (gS (gS (gR (gA rfl (gE ?_))))))))
  obtain ⟨aL, aE, rfl, aT⟩ := ro_slice (hm.ow_rep 0 rfl)
  refine gBk (gNf hm (fun aD aA => [(0, (.slice aL a_.length aE)), (1, (nV aA.2)), (5, (nV aD))]) (fun aD aA => [ow [(.slice aL a_.length aE)] aA.1]) [0] rfl ?_ ?_)
  ·
   repeat clear hm
   intro _ _ aD aA w hm aV aW aX _
   refine gS (gS (gR (gM rfl (gM rfl ?_))))
   have aY := rep_len (hm.ow_rep 0 rfl)
   refine gY (yV st_55 rfl) (gB rfl (gE (go _ 9 rfl (decide_eq_true (by omega)) (gct rfl (gSk (gS (gBk (gS (gR (gM rfl (gM rfl (gM rfl (gg fun aB aM aF => ?_)))))))))))))
   obtain ⟨aG, aH, aZ, he⟩ := idx_form' (hm.ow_rep 0 rfl) aF
   obtain ⟨rfl, _, rfl⟩ := sl3 he
   obtain ⟨aN, aO, aa⟩ := rk_Phi_ (hm.ow_rep 0 rfl) aF
   have hL1_1 := rep_slice_len (hm.ow_rep 0 rfl)
   refine gI st_55 aM (idx_lt2 aF hL1_1) rfl (gF fo_87_0 rfl (gf0 rfl (fun a hf => e_setElemR (x1 := ((⟨aA.2, aB.args⟩ : Phi_) : Phi_)) (j := 0) (vs := [(nV aA.2)]) 0 hf hm rfl aF aO rfl (fun F h ho => (fun _ => own_fst_map (α := Int) (β := (List Int)) (cs := [(nV aB.to)]) (cs' := [(nV aA.2)]) (ds := [aN]) rfl (fun _ _ => Flat.own_iff.2 rfl)) F ho) rfl sizeOf3 rfl rfl rfl (one_cons rfl one_nil) rfl) ?_))
   rintro _ w hm
   have aJ := List.getElem?_set_self (a := ((⟨aA.2, aB.args⟩ : Phi_) : Phi_)) (idx_lt aF)
   refine gE (gS (gR (gM rfl (gB rfl (gA rfl (gE (gR (gM rfl (gM rfl ?_)))))))))
   obtain ⟨_, _, aI, aP⟩ := ro_get' (hm.ow_rep 0 rfl) aJ
   obtain ⟨_, _, rfl, rfl, aK⟩ := aP
   obtain ⟨aC, rfl, -⟩ := id aK
   replace aK : GT.rep (hp _) [aC] aB.args := aK
   replace aI : CellsAt (hp _) aG (aH + (aD).toNat * 2) [(nV aA.2), aC] := aI
   have hL1_2 := rep_slice_len (hm.ow_rep 0 rfl)
   refine gI st_55 aM (idx_lt2 aJ hL1_2) rfl (gF fo_87_1 rfl (gY (yl isAgg57 (aI.cell (j := 1) rfl) rfl) (gM rfl ?_)))
   replace hm : Mem w0 hz _ [ow [aC] aB.args, hole [(sV aG aH a_.length aE)] [aC] (fun (y : List Int) => ((aA.1.set (aD).toNat (⟨aA.2, aB.args⟩ : Phi_)) : List Phi_).set (aD).toNat (⟨aA.2, y⟩ : Phi_))] := hm.open 0 rfl (foc_elem aJ aI rfl (show FocH (α := Phi_) _ _ (⟨aA.2, aB.args⟩ : Phi_) [aC] aB.args (fun y => (⟨aA.2, y⟩ : Phi_)) from (foc_snd (α := Int) (β := (List Int)) (cs := [(nV aA.2)]) (ds := [aC]) (v := [aC]) (inner := aB.args) (x := aB.args) (z := aA.2) (put := fun (y : List Int) => y) rfl (foc_id [aC] aB.args))))
   obtain ⟨aQ, hle, hm1, hsub, aR⟩ := hm.take2 (L1 := [ow [aC] aB.args]) (L2 := [hole [(sV aG aH a_.length aE)] [aC] (fun (y : List Int) => ((aA.1.set (aD).toNat (⟨aA.2, aB.args⟩ : Phi_)) : List Phi_).set (aD).toNat (⟨aA.2, y⟩ : Phi_))]) [0] [1] (by decide) rfl rfl
   refine gCg rfl call132 (laws_markIntS_ok _ aQ aB.args aC (w64 (aA.2 + 1)) hm1 ) ?_
   rintro aS ab ac w ⟨rfl, hB⟩
   replace hm := aR _ _ hB; clear hB
   replace hm := (hm.shut 1 0 (by decide) rfl rfl).pk (L' := [ow [(sV aG aH a_.length aE)] ((aA.1.set (aD).toNat (⟨aA.2, aB.args⟩ : Phi_)).set (aD).toNat (⟨aA.2, aS.2⟩ : Phi_))]) [1] rfl rfl
   exact gA rfl (gE (gR (gM rfl (gP (by omega) (by omega) rfl (gA rfl (gE (gze hm [0] rfl)))))))
  repeat clear hm
  intro ae af w hm ag ah
  refine gS (gS (gR (gM rfl (gM rfl ?_))))
  have ai := rep_len (hm.ow_rep 0 rfl)
  exact gY (yV st_55 rfl) (gB rfl (gE (go _ 9 rfl (decide_eq_false (by omega)) (gcf rfl (gXt (gHh (gS (gR (gM rfl (gA rfl (gE (gRt (gr1 results130 rfl ⟨rfl, hm.pk [0] rfl rfl⟩)))))))))))))
theorem laws_markInsS_ok (w0 : World) (hz : Heap) (a_ : List Ins_) (v1 : Value) (k_ : Int) (hm0 : Mem w0 hz w0 [ow [v1] a_]) :
    ConM Tryz.prog 131 [v1, (nV k_)] w0 (laws_markInsS a_ k_) fun r v w' => v = (nV r.1) ∧ Mem w0 hz w' [ow [v1] r.2] := by
  unfold laws_markInsS
  refine gcon func131 rfl fun r => ?_
  have hm := hm0
  refine gS (gR (gA rfl (gE (gS (gS (gR (gA rfl (gE ?_))))))))
  obtain ⟨aV, aG, rfl, af⟩ := ro_slice (hm.ow_rep 0 rfl)
  refine gBk (gNf hm (fun aD aB => [(0, (.slice aV a_.length aG)), (1, (nV aB.2)), (5, (nV aD))]) (fun aD aB => [ow [(.slice aV a_.length aG)] aB.1]) [0] rfl ?_ ?_)
  ·
   repeat clear hm
   intro _ _ aD aB w hm ag ah ai _
   refine gS (gS (gR (gM rfl (gM rfl ?_))))
   have aj := rep_len (hm.ow_rep 0 rfl)
   refine gY (yV st_56 rfl) (gB rfl (gE (go _ 9 rfl (decide_eq_true (by omega)) (gct rfl (gSk (gS (gBk (gS (gR (gM rfl (gM rfl (gM rfl (gg fun aA aP aH => ?_)))))))))))))
   obtain ⟨aI, aJ, ak, he⟩ := idx_form' (hm.ow_rep 0 rfl) aH
   obtain ⟨rfl, _, rfl⟩ := sl3 he
   obtain ⟨aW, aX, al⟩ := rk_Ins_ (hm.ow_rep 0 rfl) aH
   have hL1_1 := rep_slice_len (hm.ow_rep 0 rfl)
   refine gI st_56 aP (idx_lt2 aH hL1_1) rfl (gF fo_61_0 rfl (gf0 rfl (fun a hf => e_setElemR (x1 := ((⟨aB.2, aA.to, aA.args, aA.n_⟩ : Ins_) : Ins_)) (j := 0) (vs := [(nV aB.2)]) 0 hf hm rfl aH aX rfl (fun F h ho => (fun _ => own_fst_map (α := Int) (β := Int × (List Int) × Int) (cs := [(nV aA.op)]) (cs' := [(nV aB.2)]) (ds := [(nV aA.to), aW, (nV aA.n_)]) rfl (fun _ _ => Flat.own_iff.2 rfl)) F ho) rfl sizeOf3 rfl rfl rfl (one_cons rfl one_nil) rfl) ?_))
   rintro _ w hm
   have aM := List.getElem?_set_self (a := ((⟨aB.2, aA.to, aA.args, aA.n_⟩ : Ins_) : Ins_)) (idx_lt aH)
   refine gE (gS (gR (gM rfl (gB rfl (gA rfl (gE (gS (gR (gM rfl (gM rfl (gM rfl ?_)))))))))))
   obtain ⟨_, _, aQ, aY⟩ := ro_get' (hm.ow_rep 0 rfl) aM
   obtain ⟨_, _, rfl, rfl, _, _, rfl, rfl, _, _, rfl, aR, rfl⟩ := aY
   obtain ⟨aK, rfl, -⟩ := id aR
   replace aR : GT.rep (hp _) [aK] aA.args := aR
   replace aQ : CellsAt (hp _) aI (aJ + (aD).toNat * 4) [(nV aB.2), (nV aA.to), aK, (nV aA.n_)] := aQ
   have hL1_2 := rep_slice_len (hm.ow_rep 0 rfl)
   refine gI st_56 aP (idx_lt2 aM hL1_2) rfl (gF fo_61_1 rfl (gf0 rfl (fun a hf => e_setElemR (x1 := ((⟨aB.2, w64 (aB.2 + 1), aA.args, aA.n_⟩ : Ins_) : Ins_)) (j := 1) (vs := [(nV (w64 (aB.2 + 1)))]) 0 hf hm rfl aM aQ rfl (fun F h ho => (fun _ => own_snd_map (α := Int) (β := Int × (List Int) × Int) (cs := [(nV aB.2)]) (ds := [(nV aA.to), aK, (nV aA.n_)]) (ds' := [(nV (w64 (aB.2 + 1))), aK, (nV aA.n_)]) rfl (fun _ => own_fst_map (α := Int) (β := (List Int) × Int) (cs := [(nV aA.to)]) (cs' := [(nV (w64 (aB.2 + 1)))]) (ds := [aK, (nV aA.n_)]) rfl (fun _ _ => Flat.own_iff.2 rfl))) F ho) rfl sizeOf3 rfl rfl rfl (one_cons rfl one_nil) rfl) ?_))
   rintro _ w hm
   have aS := List.getElem?_set_self (a := ((⟨aB.2, w64 (aB.2 + 1), aA.args, aA.n_⟩ : Ins_) : Ins_)) (idx_lt aM)
   refine gE (gS (gR (gM rfl (gB rfl (gA rfl (gE (gS (gR (gM rfl (gM rfl ?_))))))))))
   obtain ⟨_, _, aN, aZ⟩ := ro_get' (hm.ow_rep 0 rfl) aS
   obtain ⟨_, _, rfl, rfl, _, _, rfl, rfl, _, _, rfl, aT, rfl⟩ := aZ
   obtain ⟨aC, rfl, -⟩ := id aT
   replace aT : GT.rep (hp _) [aC] aA.args := aT
   replace aN : CellsAt (hp _) aI (aJ + (aD).toNat * 4) [(nV aB.2), (nV (w64 (aB.2 + 1))), aC, (nV aA.n_)] := aN
   have hL1_3 := rep_slice_len (hm.ow_rep 0 rfl)
   refine gI st_56 aP (idx_lt2 aS hL1_3) rfl (gF fo_61_2 rfl (gY (yl isAgg57 (aN.cell (j := 2) rfl) rfl) (gM rfl ?_)))
   replace hm : Mem w0 hz _ [ow [aC] aA.args, hole [(sV aI aJ a_.length aG)] [aC] (fun (y : List Int) => (((aB.1.set (aD).toNat (⟨aB.2, aA.to, aA.args, aA.n_⟩ : Ins_)).set (aD).toNat (⟨aB.2, w64 (aB.2 + 1), aA.args, aA.n_⟩ : Ins_)) : List Ins_).set (aD).toNat (⟨aB.2, w64 (aB.2 + 1), y, aA.n_⟩ : Ins_))] := hm.open 0 rfl (foc_elem aS aN rfl (show FocH (α := Ins_) _ _ (⟨aB.2, w64 (aB.2 + 1), aA.args, aA.n_⟩ : Ins_) [aC] aA.args (fun y => (⟨aB.2, w64 (aB.2 + 1), y, aA.n_⟩ : Ins_)) from (foc_snd (α := Int) (β := Int × (List Int) × Int) (cs := [(nV aB.2)]) (ds := [(nV (w64 (aB.2 + 1))), aC, (nV aA.n_)]) (v := [aC]) (inner := aA.args) (x := (w64 (aB.2 + 1), aA.args, aA.n_)) (z := aB.2) (put := fun (y : List Int) => (w64 (aB.2 + 1), y, aA.n_)) rfl (foc_snd (α := Int) (β := (List Int) × Int) (cs := [(nV (w64 (aB.2 + 1)))]) (ds := [aC, (nV aA.n_)]) (v := [aC]) (inner := aA.args) (x := (aA.args, aA.n_)) (z := w64 (aB.2 + 1)) (put := fun (y : List Int) => (y, aA.n_)) rfl (foc_fst (α := List Int) (β := Int) (cs := [aC]) (ds := [(nV aA.n_)]) (v := [aC]) (inner := aA.args) (x := aA.args) (z := aA.n_) (put := fun (y : List Int) => y) rfl (foc_id [aC] aA.args))))))
   obtain ⟨aa, hle, hm1, hsub, ab⟩ := hm.take2 (L1 := [ow [aC] aA.args]) (L2 := [hole [(sV aI aJ a_.length aG)] [aC] (fun (y : List Int) => (((aB.1.set (aD).toNat (⟨aB.2, aA.to, aA.args, aA.n_⟩ : Ins_)).set (aD).toNat (⟨aB.2, w64 (aB.2 + 1), aA.args, aA.n_⟩ : Ins_)) : List Ins_).set (aD).toNat (⟨aB.2, w64 (aB.2 + 1), y, aA.n_⟩ : Ins_))]) [0] [1] (by decide) rfl rfl
   refine gCg rfl call132 (laws_markIntS_ok _ aa aA.args aC (w64 ((w64 (aB.2 + 1)) + 1)) hm1 ) ?_
   rintro aF am an w ⟨rfl, hB⟩
   replace hm := ab _ _ hB; clear hB
   replace hm := (hm.shut 1 0 (by decide) rfl rfl).pk (L' := [ow [(sV aI aJ a_.length aG)] (((aB.1.set (aD).toNat (⟨aB.2, aA.to, aA.args, aA.n_⟩ : Ins_)).set (aD).toNat (⟨aB.2, w64 (aB.2 + 1), aA.args, aA.n_⟩ : Ins_)).set (aD).toNat (⟨aB.2, w64 (aB.2 + 1), aF.2, aA.n_⟩ : Ins_))]) [1] rfl rfl
   refine gA rfl (gE (gS (gR (gM rfl (gM rfl (gM rfl (gg fun aE ac aO => ?_)))))))
   obtain ⟨aL, ae, ao⟩ := rk_Ins_ (hm.ow_rep 0 rfl) aO
   have hL1_4 := rep_slice_len (hm.ow_rep 0 rfl)
   refine gI st_56 ac (idx_lt2 aO hL1_4) rfl (gF fo_61_3 rfl (gf0 rfl (fun a hf => e_setElemR (x1 := ((⟨aE.op, aE.to, aE.args, aF.1⟩ : Ins_) : Ins_)) (j := 3) (vs := [(nV aF.1)]) 0 hf hm rfl aO ae rfl (fun F h ho => (fun _ => own_snd_map (α := Int) (β := Int × (List Int) × Int) (cs := [(nV aE.op)]) (ds := [(nV aE.to), aL, (nV aE.n_)]) (ds' := [(nV aE.to), aL, (nV aF.1)]) rfl (fun _ => own_snd_map (α := Int) (β := (List Int) × Int) (cs := [(nV aE.to)]) (ds := [aL, (nV aE.n_)]) (ds' := [aL, (nV aF.1)]) rfl (fun _ => own_snd_map (α := List Int) (β := Int) (cs := [aL]) (ds := [(nV aE.n_)]) (ds' := [(nV aF.1)]) rfl (fun _ _ => Flat.own_iff.2 rfl)))) F ho) rfl sizeOf3 rfl rfl rfl (one_cons rfl one_nil) rfl) ?_))
   rintro _ w hm
   have ap := List.getElem?_set_self (a := ((⟨aE.op, aE.to, aE.args, aF.1⟩ : Ins_) : Ins_)) (idx_lt aO)
   exact gE (gR (gM rfl (gB rfl (gA rfl (gE (gR (gM rfl (gP (by omega) (by omega) rfl (gA rfl (gE (gze hm [0] rfl)))))))))))
  repeat clear hm
  intro aq ar w hm au av
  refine gS (gS (gR (gM rfl (gM rfl ?_))))
  have aw := rep_len (hm.ow_rep 0 rfl)
  exact gY (yV st_56 rfl) (gB rfl (gE (go _ 9 rfl (decide_eq_false (by omega)) (gcf rfl (gXt (gHh (gS (gR (gM rfl (gA rfl (gE (gRt (gr1 results131 rfl ⟨rfl, hm.pk [0] rfl rfl⟩)))))))))))))
theorem laws_markBlockS_ok (w0 : World) (hz : Heap) (a_ : List Block_) (v1 : Value) (k_ : Int) (hm0 : Mem w0 hz w0 [ow [v1] a_]) :
    ConM Tryz.prog 82 [v1, (nV k_)] w0 (laws_markBlockS a_ k_) fun r v w' => v = (nV r.1) ∧ Mem w0 hz w' [ow [v1] r.2] := by
  unfold laws_markBlockS
  refine gcon func82 rfl fun r => ?_
  have hm := hm0
  refine gS (gR (gA rfl (gE (gS (gS (gR (gA rfl (gE ?_))))))))
  obtain ⟨ak, aH, rfl, bG⟩ := ro_slice (hm.ow_rep 0 rfl)
  refine gBk (gNf hm (fun aE aG => [(0, (.slice ak a_.length aH)), (1, (nV aG.2)), (5, (nV aE))]) (fun aE aG => [ow [(.slice ak a_.length aH)] aG.1]) [0] rfl ?_ ?_)
  ·
   repeat clear hm
   intro _ _ aE aG w hm bH bJ bK _
   refine gS (gS (gR (gM rfl (gM rfl ?_))))
   have bL := rep_len (hm.ow_rep 0 rfl)
   refine gY (yV st_42 rfl) (gB rfl (gE (go _ 9 rfl (decide_eq_true (by omega)) (gct rfl (gSk (gS (gBk (gS (gR (gM rfl (gM rfl (gg fun aC ao aQ => ?_))))))))))))
   obtain ⟨aI, aJ, bM, he⟩ := idx_form' (hm.ow_rep 0 rfl) aQ
   obtain ⟨rfl, _, rfl⟩ := sl3 he
   obtain ⟨aL, ap, aq, al, bN, bO, bP⟩ := rk_Block_ (hm.ow_rep 0 rfl) aQ
   have hL1_1 := rep_slice_len (hm.ow_rep 0 rfl)
   refine gI st_42 ao (idx_lt2 aQ hL1_1) rfl (gF fo_59_0 rfl (gY (yl isAgg55 (al.cell (j := 0) rfl) rfl) (gM rfl ?_)))
   replace hm : Mem w0 hz _ [ow [aL] aC.phis, hole [(sV aI aJ a_.length aH)] [aL] (fun (y : List Phi_) => (aG.1 : List Block_).set (aE).toNat (⟨y, aC.ins, aC.jump, aC.on, aC.next_⟩ : Block_))] := hm.open 0 rfl (foc_elem aQ al rfl (show FocH (α := Block_) _ _ aC [aL] aC.phis (fun y => (⟨y, aC.ins, aC.jump, aC.on, aC.next_⟩ : Block_)) from (foc_fst (α := List Phi_) (β := (List Ins_) × Int × Int × (List Int)) (cs := [aL]) (ds := [ap, (nV aC.jump), (nV aC.on), aq]) (v := [aL]) (inner := aC.phis) (x := aC.phis) (z := (aC.ins, aC.jump, aC.on, aC.next_)) (put := fun (y : List Phi_) => y) rfl (foc_id [aL] aC.phis))))
   obtain ⟨ar, hle, hm1, hsub, au⟩ := hm.take2 (L1 := [ow [aL] aC.phis]) (L2 := [hole [(sV aI aJ a_.length aH)] [aL] (fun (y : List Phi_) => (aG.1 : List Block_).set (aE).toNat (⟨y, aC.ins, aC.jump, aC.on, aC.next_⟩ : Block_))]) [0] [1] (by decide) rfl rfl
   refine gCg rfl call130 (laws_markPhiS_ok _ ar aC.phis aL aG.2 hm1 ) ?_
   rintro aN bQ bR w ⟨rfl, hB⟩
   replace hm := au _ _ hB; clear hB
   replace hm := (hm.shut 1 0 (by decide) rfl rfl).pk (L' := [ow [(sV aI aJ a_.length aH)] (aG.1.set (aE).toNat (⟨aN.2, aC.ins, aC.jump, aC.on, aC.next_⟩ : Block_))]) [1] rfl rfl
   refine gA rfl (gE (gS (gR (gM rfl (gM rfl (gg fun aD av aW => ?_))))))
   obtain ⟨aw, aK, am, an, bS, bT, bU⟩ := rk_Block_ (hm.ow_rep 0 rfl) aW
   have hL1_2 := rep_slice_len (hm.ow_rep 0 rfl)
   refine gI st_42 av (idx_lt2 aW hL1_2) rfl (gF fo_59_1 rfl (gY (yl isAgg56 (an.cell (j := 1) rfl) rfl) (gM rfl ?_)))
   replace hm : Mem w0 hz _ [ow [aK] aD.ins, hole [(sV aI aJ a_.length aH)] [aK] (fun (y : List Ins_) => ((aG.1.set (aE).toNat (⟨aN.2, aC.ins, aC.jump, aC.on, aC.next_⟩ : Block_)) : List Block_).set (aE).toNat (⟨aD.phis, y, aD.jump, aD.on, aD.next_⟩ : Block_))] := hm.open 0 rfl (foc_elem aW an rfl (show FocH (α := Block_) _ _ aD [aK] aD.ins (fun y => (⟨aD.phis, y, aD.jump, aD.on, aD.next_⟩ : Block_)) from (foc_snd (α := List Phi_) (β := (List Ins_) × Int × Int × (List Int)) (cs := [aw]) (ds := [aK, (nV aD.jump), (nV aD.on), am]) (v := [aK]) (inner := aD.ins) (x := (aD.ins, aD.jump, aD.on, aD.next_)) (z := aD.phis) (put := fun (y : List Ins_) => (y, aD.jump, aD.on, aD.next_)) rfl (foc_fst (α := List Ins_) (β := Int × Int × (List Int)) (cs := [aK]) (ds := [(nV aD.jump), (nV aD.on), am]) (v := [aK]) (inner := aD.ins) (x := aD.ins) (z := (aD.jump, aD.on, aD.next_)) (put := fun (y : List Ins_) => y) rfl (foc_id [aK] aD.ins)))))
   obtain ⟨ax, hle, hm1, hsub, ay⟩ := hm.take2 (L1 := [ow [aK] aD.ins]) (L2 := [hole [(sV aI aJ a_.length aH)] [aK] (fun (y : List Ins_) => ((aG.1.set (aE).toNat (⟨aN.2, aC.ins, aC.jump, aC.on, aC.next_⟩ : Block_)) : List Block_).set (aE).toNat (⟨aD.phis, y, aD.jump, aD.on, aD.next_⟩ : Block_))]) [0] [1] (by decide) rfl rfl
   refine gCg rfl call131 (laws_markInsS_ok _ ax aD.ins aK aN.1 hm1 ) ?_
   rintro aB bV bW w ⟨rfl, hB⟩
   replace hm := ay _ _ hB; clear hB
   replace hm := (hm.shut 1 0 (by decide) rfl rfl).pk (L' := [ow [(sV aI aJ a_.length aH)] ((aG.1.set (aE).toNat (⟨aN.2, aC.ins, aC.jump, aC.on, aC.next_⟩ : Block_)).set (aE).toNat (⟨aD.phis, aB.2, aD.jump, aD.on, aD.next_⟩ : Block_))]) [1] rfl rfl
   refine gA rfl (gE (gS (gR (gM rfl (gM rfl (gM rfl (gg fun aA aX aR => ?_)))))))
   obtain ⟨az, aY, aO, bA, bX, bY, bZ⟩ := rk_Block_ (hm.ow_rep 0 rfl) aR
   have hL1_3 := rep_slice_len (hm.ow_rep 0 rfl)
   refine gI st_42 aX (idx_lt2 aR hL1_3) rfl (gF fo_59_2 rfl (gf0 rfl (fun a hf => e_setElemR (x1 := ((⟨aA.phis, aA.ins, aB.1, aA.on, aA.next_⟩ : Block_) : Block_)) (j := 2) (vs := [(nV aB.1)]) 0 hf hm rfl aR bA rfl (fun F h ho => (fun _ => own_snd_map (α := List Phi_) (β := (List Ins_) × Int × Int × (List Int)) (cs := [az]) (ds := [aY, (nV aA.jump), (nV aA.on), aO]) (ds' := [aY, (nV aB.1), (nV aA.on), aO]) rfl (fun _ => own_snd_map (α := List Ins_) (β := Int × Int × (List Int)) (cs := [aY]) (ds := [(nV aA.jump), (nV aA.on), aO]) (ds' := [(nV aB.1), (nV aA.on), aO]) rfl (fun _ => own_fst_map (α := Int) (β := Int × (List Int)) (cs := [(nV aA.jump)]) (cs' := [(nV aB.1)]) (ds := [(nV aA.on), aO]) rfl (fun _ _ => Flat.own_iff.2 rfl)))) F ho) rfl sizeOf3 rfl rfl rfl (one_cons rfl one_nil) rfl) ?_))
   rintro _ w hm
   have aS := List.getElem?_set_self (a := ((⟨aA.phis, aA.ins, aB.1, aA.on, aA.next_⟩ : Block_) : Block_)) (idx_lt aR)
   refine gE (gS (gR (gM rfl (gB rfl (gA rfl (gE (gS (gR (gM rfl (gM rfl (gM rfl ?_)))))))))))
   obtain ⟨_, _, aZ, bB⟩ := ro_get' (hm.ow_rep 0 rfl) aS
   obtain ⟨_, _, rfl, aa, _, _, rfl, ab, _, _, rfl, rfl, _, _, rfl, rfl, ac⟩ := bB
   obtain ⟨ae, rfl, -⟩ := id aa
   replace aa : GT.rep (hp _) [ae] aA.phis := aa
   obtain ⟨aP, rfl, -⟩ := id ab
   replace ab : GT.rep (hp _) [aP] aA.ins := ab
   obtain ⟨aM, rfl, -⟩ := id ac
   replace ac : GT.rep (hp _) [aM] aA.next_ := ac
   replace aZ : CellsAt (hp _) aI (aJ + (aE).toNat * 5) [ae, aP, (nV aB.1), (nV aA.on), aM] := aZ
   have hL1_4 := rep_slice_len (hm.ow_rep 0 rfl)
   refine gI st_42 aX (idx_lt2 aS hL1_4) rfl (gF fo_59_3 rfl (gf0 rfl (fun a hf => e_setElemR (x1 := ((⟨aA.phis, aA.ins, aB.1, w64 (aB.1 + 1), aA.next_⟩ : Block_) : Block_)) (j := 3) (vs := [(nV (w64 (aB.1 + 1)))]) 0 hf hm rfl aS aZ rfl (fun F h ho => (fun _ => own_snd_map (α := List Phi_) (β := (List Ins_) × Int × Int × (List Int)) (cs := [ae]) (ds := [aP, (nV aB.1), (nV aA.on), aM]) (ds' := [aP, (nV aB.1), (nV (w64 (aB.1 + 1))), aM]) rfl (fun _ => own_snd_map (α := List Ins_) (β := Int × Int × (List Int)) (cs := [aP]) (ds := [(nV aB.1), (nV aA.on), aM]) (ds' := [(nV aB.1), (nV (w64 (aB.1 + 1))), aM]) rfl (fun _ => own_snd_map (α := Int) (β := Int × (List Int)) (cs := [(nV aB.1)]) (ds := [(nV aA.on), aM]) (ds' := [(nV (w64 (aB.1 + 1))), aM]) rfl (fun _ => own_fst_map (α := Int) (β := (List Int)) (cs := [(nV aA.on)]) (cs' := [(nV (w64 (aB.1 + 1)))]) (ds := [aM]) rfl (fun _ _ => Flat.own_iff.2 rfl))))) F ho) rfl sizeOf3 rfl rfl rfl (one_cons rfl one_nil) rfl) ?_))
   rintro _ w hm
   have af := List.getElem?_set_self (a := ((⟨aA.phis, aA.ins, aB.1, w64 (aB.1 + 1), aA.next_⟩ : Block_) : Block_)) (idx_lt aS)
   refine gE (gS (gR (gM rfl (gB rfl (gA rfl (gE (gR (gM rfl (gM rfl ?_)))))))))
   obtain ⟨_, _, aT, bC⟩ := ro_get' (hm.ow_rep 0 rfl) af
   obtain ⟨_, _, rfl, ag, _, _, rfl, ah, _, _, rfl, rfl, _, _, rfl, rfl, ai⟩ := bC
   obtain ⟨aj, rfl, -⟩ := id ag
   replace ag : GT.rep (hp _) [aj] aA.phis := ag
   obtain ⟨aV, rfl, -⟩ := id ah
   replace ah : GT.rep (hp _) [aV] aA.ins := ah
   obtain ⟨aF, rfl, -⟩ := id ai
   replace ai : GT.rep (hp _) [aF] aA.next_ := ai
   replace aT : CellsAt (hp _) aI (aJ + (aE).toNat * 5) [aj, aV, (nV aB.1), (nV (w64 (aB.1 + 1))), aF] := aT
   have hL1_5 := rep_slice_len (hm.ow_rep 0 rfl)
   refine gI st_42 aX (idx_lt2 af hL1_5) rfl (gF fo_59_4 rfl (gY (yl isAgg57 (aT.cell (j := 4) rfl) rfl) (gM rfl ?_)))
   replace hm : Mem w0 hz _ [ow [aF] aA.next_, hole [(sV aI aJ a_.length aH)] [aF] (fun (y : List Int) => (((((aG.1.set (aE).toNat (⟨aN.2, aC.ins, aC.jump, aC.on, aC.next_⟩ : Block_)).set (aE).toNat (⟨aD.phis, aB.2, aD.jump, aD.on, aD.next_⟩ : Block_)).set (aE).toNat (⟨aA.phis, aA.ins, aB.1, aA.on, aA.next_⟩ : Block_)).set (aE).toNat (⟨aA.phis, aA.ins, aB.1, w64 (aB.1 + 1), aA.next_⟩ : Block_)) : List Block_).set (aE).toNat (⟨aA.phis, aA.ins, aB.1, w64 (aB.1 + 1), y⟩ : Block_))] := hm.open 0 rfl (foc_elem af aT rfl (show FocH (α := Block_) _ _ (⟨aA.phis, aA.ins, aB.1, w64 (aB.1 + 1), aA.next_⟩ : Block_) [aF] aA.next_ (fun y => (⟨aA.phis, aA.ins, aB.1, w64 (aB.1 + 1), y⟩ : Block_)) from (foc_snd (α := List Phi_) (β := (List Ins_) × Int × Int × (List Int)) (cs := [aj]) (ds := [aV, (nV aB.1), (nV (w64 (aB.1 + 1))), aF]) (v := [aF]) (inner := aA.next_) (x := (aA.ins, aB.1, w64 (aB.1 + 1), aA.next_)) (z := aA.phis) (put := fun (y : List Int) => (aA.ins, aB.1, w64 (aB.1 + 1), y)) rfl (foc_snd (α := List Ins_) (β := Int × Int × (List Int)) (cs := [aV]) (ds := [(nV aB.1), (nV (w64 (aB.1 + 1))), aF]) (v := [aF]) (inner := aA.next_) (x := (aB.1, w64 (aB.1 + 1), aA.next_)) (z := aA.ins) (put := fun (y : List Int) => (aB.1, w64 (aB.1 + 1), y)) rfl (foc_snd (α := Int) (β := Int × (List Int)) (cs := [(nV aB.1)]) (ds := [(nV (w64 (aB.1 + 1))), aF]) (v := [aF]) (inner := aA.next_) (x := (w64 (aB.1 + 1), aA.next_)) (z := aB.1) (put := fun (y : List Int) => (w64 (aB.1 + 1), y)) rfl (foc_snd (α := Int) (β := (List Int)) (cs := [(nV (w64 (aB.1 + 1)))]) (ds := [aF]) (v := [aF]) (inner := aA.next_) (x := aA.next_) (z := w64 (aB.1 + 1)) (put := fun (y : List Int) => y) rfl (foc_id [aF] aA.next_)))))))
   obtain ⟨bD, hle, hm1, hsub, bE⟩ := hm.take2 (L1 := [ow [aF] aA.next_]) (L2 := [hole [(sV aI aJ a_.length aH)] [aF] (fun (y : List Int) => (((((aG.1.set (aE).toNat (⟨aN.2, aC.ins, aC.jump, aC.on, aC.next_⟩ : Block_)).set (aE).toNat (⟨aD.phis, aB.2, aD.jump, aD.on, aD.next_⟩ : Block_)).set (aE).toNat (⟨aA.phis, aA.ins, aB.1, aA.on, aA.next_⟩ : Block_)).set (aE).toNat (⟨aA.phis, aA.ins, aB.1, w64 (aB.1 + 1), aA.next_⟩ : Block_)) : List Block_).set (aE).toNat (⟨aA.phis, aA.ins, aB.1, w64 (aB.1 + 1), y⟩ : Block_))]) [0] [1] (by decide) rfl rfl
   refine gCg rfl call132 (laws_markIntS_ok _ bD aA.next_ aF (w64 ((w64 (aB.1 + 1)) + 1)) hm1 ) ?_
   rintro bF b6 b7 w ⟨rfl, hB⟩
   replace hm := bE _ _ hB; clear hB
   replace hm := (hm.shut 1 0 (by decide) rfl rfl).pk (L' := [ow [(sV aI aJ a_.length aH)] (((((aG.1.set (aE).toNat (⟨aN.2, aC.ins, aC.jump, aC.on, aC.next_⟩ : Block_)).set (aE).toNat (⟨aD.phis, aB.2, aD.jump, aD.on, aD.next_⟩ : Block_)).set (aE).toNat (⟨aA.phis, aA.ins, aB.1, aA.on, aA.next_⟩ : Block_)).set (aE).toNat (⟨aA.phis, aA.ins, aB.1, w64 (aB.1 + 1), aA.next_⟩ : Block_)).set (aE).toNat (⟨aA.phis, aA.ins, aB.1, w64 (aB.1 + 1), bF.2⟩ : Block_))]) [1] rfl rfl
   exact gA rfl (gE (gR (gM rfl (gP (by omega) (by omega) rfl (gA rfl (gE (gze hm [0] rfl)))))))
  repeat clear hm
  intro b8 b9 w hm ba bb
  refine gS (gS (gR (gM rfl (gM rfl ?_))))
  have bc := rep_len (hm.ow_rep 0 rfl)
  exact gY (yV st_42 rfl) (gB rfl (gE (go _ 9 rfl (decide_eq_false (by omega)) (gcf rfl (gXt (gHh (gS (gR (gM rfl (gA rfl (gE (gRt (gr1 results82 rfl ⟨rfl, hm.pk [0] rfl rfl⟩)))))))))))))
theorem laws_markCodeS_ok (w0 : World) (hz : Heap) (a_ : List Code_) (v1 : Value) (k_ : Int) (hm0 : Mem w0 hz w0 [ow [v1] a_]) :
    ConM Tryz.prog 36 [v1, (nV k_)] w0 (laws_markCodeS a_ k_) fun r v w' => v = (nV r.1) ∧ Mem w0 hz w' [ow [v1] r.2] := by
  unfold laws_markCodeS
  refine gcon func36 rfl fun r => ?_
  have hm := hm0
  refine gS (gR (gA rfl (gE (gS (gS (gR (gA rfl (gE ?_))))))))
  obtain ⟨aQ, aE, rfl, aZ⟩ := ro_slice (hm.ow_rep 0 rfl)
  refine gBk (gNf hm (fun aC aA => [(0, (.slice aQ a_.length aE)), (1, (nV aA.2)), (5, (nV aC))]) (fun aC aA => [ow [(.slice aQ a_.length aE)] aA.1]) [0] rfl ?_ ?_)
  ·
   repeat clear hm
   intro _ _ aC aA w hm aa ab ac _
   refine gS (gS (gR (gM rfl (gM rfl ?_))))
   have ae := rep_len (hm.ow_rep 0 rfl)
   refine gY (yV st_26 rfl) (gB rfl (gE (go _ 9 rfl (decide_eq_true (by omega)) (gct rfl (gSk (gS (gBk (gS (gR (gM rfl (gM rfl (gM rfl (gg fun aB aL aF => ?_)))))))))))))
   obtain ⟨aG, aH, af, he⟩ := idx_form' (hm.ow_rep 0 rfl) aF
   obtain ⟨rfl, _, rfl⟩ := sl3 he
   obtain ⟨aR, aS, ag⟩ := rk_Code_ (hm.ow_rep 0 rfl) aF
   have hL1_1 := rep_slice_len (hm.ow_rep 0 rfl)
   refine gI st_26 aL (idx_lt2 aF hL1_1) rfl (gF fo_44_0 rfl (gf0 rfl (fun a hf => e_setElemR (x1 := ((⟨aA.2, aB.regs, aB.blocks⟩ : Code_) : Code_)) (j := 0) (vs := [(nV aA.2)]) 0 hf hm rfl aF aS rfl (fun F h ho => (fun _ => own_fst_map (α := Int) (β := Int × (List Block_)) (cs := [(nV aB.params)]) (cs' := [(nV aA.2)]) (ds := [(nV aB.regs), aR]) rfl (fun _ _ => Flat.own_iff.2 rfl)) F ho) rfl sizeOf3 rfl rfl rfl (one_cons rfl one_nil) rfl) ?_))
   rintro _ w hm
   have aJ := List.getElem?_set_self (a := ((⟨aA.2, aB.regs, aB.blocks⟩ : Code_) : Code_)) (idx_lt aF)
   refine gE (gS (gR (gM rfl (gB rfl (gA rfl (gE (gS (gR (gM rfl (gM rfl (gM rfl ?_)))))))))))
   obtain ⟨_, _, aM, aT⟩ := ro_get' (hm.ow_rep 0 rfl) aJ
   obtain ⟨_, _, rfl, rfl, _, _, rfl, rfl, aN⟩ := aT
   obtain ⟨aI, rfl, -⟩ := id aN
   replace aN : GT.rep (hp _) [aI] aB.blocks := aN
   replace aM : CellsAt (hp _) aG (aH + (aC).toNat * 3) [(nV aA.2), (nV aB.regs), aI] := aM
   have hL1_2 := rep_slice_len (hm.ow_rep 0 rfl)
   refine gI st_26 aL (idx_lt2 aJ hL1_2) rfl (gF fo_44_1 rfl (gf0 rfl (fun a hf => e_setElemR (x1 := ((⟨aA.2, w64 (aA.2 + 1), aB.blocks⟩ : Code_) : Code_)) (j := 1) (vs := [(nV (w64 (aA.2 + 1)))]) 0 hf hm rfl aJ aM rfl (fun F h ho => (fun _ => own_snd_map (α := Int) (β := Int × (List Block_)) (cs := [(nV aA.2)]) (ds := [(nV aB.regs), aI]) (ds' := [(nV (w64 (aA.2 + 1))), aI]) rfl (fun _ => own_fst_map (α := Int) (β := (List Block_)) (cs := [(nV aB.regs)]) (cs' := [(nV (w64 (aA.2 + 1)))]) (ds := [aI]) rfl (fun _ _ => Flat.own_iff.2 rfl))) F ho) rfl sizeOf3 rfl rfl rfl (one_cons rfl one_nil) rfl) ?_))
   rintro _ w hm
   have aO := List.getElem?_set_self (a := ((⟨aA.2, w64 (aA.2 + 1), aB.blocks⟩ : Code_) : Code_)) (idx_lt aJ)
   refine gE (gS (gR (gM rfl (gB rfl (gA rfl (gE (gR (gM rfl (gM rfl ?_)))))))))
   obtain ⟨_, _, aK, aV⟩ := ro_get' (hm.ow_rep 0 rfl) aO
   obtain ⟨_, _, rfl, rfl, _, _, rfl, rfl, aP⟩ := aV
   obtain ⟨aD, rfl, -⟩ := id aP
   replace aP : GT.rep (hp _) [aD] aB.blocks := aP
   replace aK : CellsAt (hp _) aG (aH + (aC).toNat * 3) [(nV aA.2), (nV (w64 (aA.2 + 1))), aD] := aK
   have hL1_3 := rep_slice_len (hm.ow_rep 0 rfl)
   refine gI st_26 aL (idx_lt2 aO hL1_3) rfl (gF fo_44_2 rfl (gY (yl isAgg42 (aK.cell (j := 2) rfl) rfl) (gM rfl ?_)))
   replace hm : Mem w0 hz _ [ow [aD] aB.blocks, hole [(sV aG aH a_.length aE)] [aD] (fun (y : List Block_) => (((aA.1.set (aC).toNat (⟨aA.2, aB.regs, aB.blocks⟩ : Code_)).set (aC).toNat (⟨aA.2, w64 (aA.2 + 1), aB.blocks⟩ : Code_)) : List Code_).set (aC).toNat (⟨aA.2, w64 (aA.2 + 1), y⟩ : Code_))] := hm.open 0 rfl (foc_elem aO aK rfl (show FocH (α := Code_) _ _ (⟨aA.2, w64 (aA.2 + 1), aB.blocks⟩ : Code_) [aD] aB.blocks (fun y => (⟨aA.2, w64 (aA.2 + 1), y⟩ : Code_)) from (foc_snd (α := Int) (β := Int × (List Block_)) (cs := [(nV aA.2)]) (ds := [(nV (w64 (aA.2 + 1))), aD]) (v := [aD]) (inner := aB.blocks) (x := (w64 (aA.2 + 1), aB.blocks)) (z := aA.2) (put := fun (y : List Block_) => (w64 (aA.2 + 1), y)) rfl (foc_snd (α := Int) (β := (List Block_)) (cs := [(nV (w64 (aA.2 + 1)))]) (ds := [aD]) (v := [aD]) (inner := aB.blocks) (x := aB.blocks) (z := w64 (aA.2 + 1)) (put := fun (y : List Block_) => y) rfl (foc_id [aD] aB.blocks)))))
   obtain ⟨aW, hle, hm1, hsub, aX⟩ := hm.take2 (L1 := [ow [aD] aB.blocks]) (L2 := [hole [(sV aG aH a_.length aE)] [aD] (fun (y : List Block_) => (((aA.1.set (aC).toNat (⟨aA.2, aB.regs, aB.blocks⟩ : Code_)).set (aC).toNat (⟨aA.2, w64 (aA.2 + 1), aB.blocks⟩ : Code_)) : List Code_).set (aC).toNat (⟨aA.2, w64 (aA.2 + 1), y⟩ : Code_))]) [0] [1] (by decide) rfl rfl
   refine gCg rfl call82 (laws_markBlockS_ok _ aW aB.blocks aD (w64 ((w64 (aA.2 + 1)) + 1)) hm1 ) ?_
   rintro aY ah ai w ⟨rfl, hB⟩
   replace hm := aX _ _ hB; clear hB
   replace hm := (hm.shut 1 0 (by decide) rfl rfl).pk (L' := [ow [(sV aG aH a_.length aE)] (((aA.1.set (aC).toNat (⟨aA.2, aB.regs, aB.blocks⟩ : Code_)).set (aC).toNat (⟨aA.2, w64 (aA.2 + 1), aB.blocks⟩ : Code_)).set (aC).toNat (⟨aA.2, w64 (aA.2 + 1), aY.2⟩ : Code_))]) [1] rfl rfl
   exact gA rfl (gE (gR (gM rfl (gP (by omega) (by omega) rfl (gA rfl (gE (gze hm [0] rfl)))))))
  repeat clear hm
  intro aj ak w hm al am
  refine gS (gS (gR (gM rfl (gM rfl ?_))))
  have an := rep_len (hm.ow_rep 0 rfl)
  exact gY (yV st_26 rfl) (gB rfl (gE (go _ 9 rfl (decide_eq_false (by omega)) (gcf rfl (gXt (gHh (gS (gR (gM rfl (gA rfl (gE (gRt (gr1 results36 rfl ⟨rfl, hm.pk [0] rfl rfl⟩)))))))))))))
theorem laws_markUnit_ok (w0 : World) (hz : Heap) (a_ : Unit_) (v1 : Value) (k_ : Int) (hm0 : Mem w0 hz w0 [ow [v1] a_.codes]) :
    ConM Tryz.prog 14 [(.agg #[v1]), (nV k_)] w0 (laws_markUnit a_ k_) fun r v w' => v = (nV r.1) ∧ Mem w0 hz w' [ow [v1] r.2] := by
  unfold laws_markUnit
  refine gcon func14 rfl fun r => ?_
  have hm := hm0
  refine gS (gR (gBx hm rfl fun aA w hm => gA rfl (gE (gS (gR (gF fo_28_0 rfl (gL hm 0 isAgg26 rfl (gM rfl ?_))))))))
  obtain ⟨aB, hle, hm1, hsub, aC⟩ := hm.take2 (L1 := [ow [v1] a_.codes]) (L2 := [blk aA [v1] 28]) [1] [0] (by decide) rfl rfl
  refine gCg rfl call36 (laws_markCodeS_ok _ aB a_.codes v1 k_ hm1 ) ?_
  rintro aD aE aF w ⟨rfl, hB⟩
  replace hm := aC _ _ hB; clear hB
  exact gA rfl (gE (gS (gR (gM rfl (gA rfl (gE (gRt (gr1 results14 rfl ⟨rfl, hm.pk [0] rfl rfl⟩))))))))
theorem laws_heldIntS_ok (w0 : World) (a_ : List Int) (v1 : Value) (h1 : GT.rep (hp w0) [v1] a_) (k_ : Int) :
    ConM Tryz.prog 135 [v1, (nV k_)] w0 (laws_heldIntS a_ k_) fun r v w' => v = (nV r) ∧ Below w0.heap.size w0 w' := by
  unfold laws_heldIntS
  refine gcon func135 rfl fun r => ?_
  have hm := Mem.start w0
  refine gS (gR (gA rfl (gE (gS (gS (gR (gA rfl (gE (gBk (gNf hm (fun aA aB => [(0, v1), (1, (nV aB)), (5, (nV aA))]) (fun aA aB => []) [] rfl ?_ ?_))))))))))
  ·
   repeat clear hm
   intro aI aD aA aB w hm aJ aK aL aE
   refine gS (gS (gR (gM rfl (gM rfl ?_))))
   obtain ⟨aM, aN, rfl, aO⟩ := ro_slice h1
   refine gY (yV st_57 rfl) (gB rfl (gE (go _ 9 rfl (decide_eq_true (by omega)) (gct rfl (gSk (gS (gBk (gS (gS (gR (gM rfl (gM rfl (gg fun aF aG aC => ?_)))))))))))))
   obtain ⟨aP, aQ, aR, he⟩ := idx_form h1 aC
   obtain ⟨rfl, _, rfl⟩ := sl3 he
   refine gI st_57 aG (idx_lt aC) rfl (gY (yl isAgg3 ((flat_cells (cs := [(nV aF)]) (hm.now h1) aC rfl).cell (j := 0) rfl) rfl) (gM rfl (gB rfl (gE (gsd 17 rfl (fun aH => ?_) fun aH => ?_)))))
   ·
    exact gct rfl (gS (gR (gA rfl (gE (gRt (gLr aE aD (gr1 results135 rfl ⟨rfl, hm.below⟩)))))))
   exact gcf rfl (gSk (gR (gM rfl (gB rfl (gA rfl (gE (gR (gM rfl (gP (by omega) (by omega) rfl (gA rfl (gE (gze hm [] rfl))))))))))))
  repeat clear hm
  intro aS aT w hm aV aW
  refine gS (gS (gR (gM rfl (gM rfl ?_))))
  obtain ⟨aX, aY, rfl, aZ⟩ := ro_slice h1
  exact gY (yV st_57 rfl) (gB rfl (gE (go _ 9 rfl (decide_eq_false (by omega)) (gcf rfl (gXt (gHh (gS (gR (gM rfl (gA rfl (gE (gRt (gr1 results135 rfl ⟨rfl, hm.below⟩)))))))))))))
theorem laws_heldPhiS_ok (w0 : World) (a_ : List Phi_) (v1 : Value) (h1 : GT.rep (hp w0) [v1] a_) (k_ : Int) :
    ConM Tryz.prog 133 [v1, (nV k_)] w0 (laws_heldPhiS a_ k_) fun r v w' => v = (nV r) ∧ Below w0.heap.size w0 w' := by
  unfold laws_heldPhiS
  refine gcon func133 rfl fun r => ?_
  have hm := Mem.start w0
  refine gS (gR (gA rfl (gE (gS (gS (gR (gA rfl (gE (gBk (gNf hm (fun aC aA => [(0, v1), (1, (nV aA)), (5, (nV aC))]) (fun aC aA => []) [] rfl ?_ ?_))))))))))
  ·
   repeat clear hm
   intro aM aD aC aA w hm aN aO aP aE
   refine gS (gS (gR (gM rfl (gM rfl ?_))))
   obtain ⟨aQ, aR, rfl, aS⟩ := ro_slice h1
   refine gY (yV st_55 rfl) (gB rfl (gE (go _ 9 rfl (decide_eq_true (by omega)) (gct rfl (gSk (gS (gBk (gS (gS (gR (gM rfl (gM rfl (gg fun aH aF aB => ?_)))))))))))))
   obtain ⟨aT, aV, aW, he⟩ := idx_form' h1 aB
   obtain ⟨rfl, _, rfl⟩ := sl3 he
   obtain ⟨aI, aG, aJ⟩ := rk_Phi_ h1 aB
   refine gI st_55 aF (idx_lt aB) rfl (gF fo_87_0 rfl (gY (yl isAgg3 ((aG.mono hm.lez).cell (j := 0) rfl) rfl) (gM rfl (gB rfl (gE (gsd 18 rfl (fun aK => ?_) fun aK => ?_))))))
   ·
    exact gct rfl (gS (gR (gA rfl (gE (gRt (gLr aE aD (gr1 results133 rfl ⟨rfl, hm.below⟩)))))))
   refine gcf rfl (gSk (gS (gR (gM rfl (gB rfl (gA rfl (gE (gS (gR (gM rfl (gM rfl (gI st_55 aF (idx_lt aB) rfl (gF fo_87_1 rfl (gY (yl isAgg57 ((aG.mono hm.lez).cell (j := 1) rfl) rfl) (gM rfl (gC hm rfl call135 (laws_heldIntS_ok _ aH.args aI (hm.now aJ) (w64 (aA + 1))) fun aX aY w hm => gA rfl (gE (gS (gR (gM rfl (gB rfl (gE (gsd 29 rfl (fun aL => ?_) fun aL => ?_)))))))))))))))))))))))
   ·
    exact gct rfl (gS (gR (gA rfl (gE (gRt (gLr aE aD (gr1 results133 rfl ⟨rfl, hm.below⟩)))))))
   exact gcf rfl (gSk (gR (gM rfl (gP (by omega) (by omega) rfl (gA rfl (gE (gze hm [] rfl)))))))
  repeat clear hm
  intro aZ aa w hm ab ac
  refine gS (gS (gR (gM rfl (gM rfl ?_))))
  obtain ⟨ae, af, rfl, ag⟩ := ro_slice h1
  exact gY (yV st_55 rfl) (gB rfl (gE (go _ 9 rfl (decide_eq_false (by omega)) (gcf rfl (gXt (gHh (gS (gR (gM rfl (gA rfl (gE (gRt (gr1 results133 rfl ⟨rfl, hm.below⟩)))))))))))))
theorem laws_heldInsS_ok (w0 : World) (a_ : List Ins_) (v1 : Value) (h1 : GT.rep (hp w0) [v1] a_) (k_ : Int) :
    ConM Tryz.prog 134 [v1, (nV k_)] w0 (laws_heldInsS a_ k_) fun r v w' => v = (nV r) ∧ Below w0.heap.size w0 w' := by
  unfold laws_heldInsS
  refine gcon func134 rfl fun r => ?_
  have hm := Mem.start w0
  refine gS (gR (gA rfl (gE (gS (gS (gR (gA rfl (gE (gBk (gNf hm (fun aG aB => [(0, v1), (1, (nV aB)), (5, (nV aG))]) (fun aG aB => []) [] rfl ?_ ?_))))))))))
  ·
   repeat clear hm
   intro aO aC aG aB w hm aP aQ aR aD
   refine gS (gS (gR (gM rfl (gM rfl ?_))))
   obtain ⟨aS, aT, rfl, aV⟩ := ro_slice h1
   refine gY (yV st_56 rfl) (gB rfl (gE (go _ 9 rfl (decide_eq_true (by omega)) (gct rfl (gSk (gS (gBk (gS (gS (gR (gM rfl (gM rfl (gg fun aH aE aA => ?_)))))))))))))
   obtain ⟨aW, aX, aY, he⟩ := idx_form' h1 aA
   obtain ⟨rfl, _, rfl⟩ := sl3 he
   obtain ⟨aI, aF, aJ⟩ := rk_Ins_ h1 aA
   refine gI st_56 aE (idx_lt aA) rfl (gF fo_61_0 rfl (gY (yl isAgg3 ((aF.mono hm.lez).cell (j := 0) rfl) rfl) (gM rfl (gB rfl (gE (gsd 18 rfl (fun aK => ?_) fun aK => ?_))))))
   ·
    exact gct rfl (gS (gR (gA rfl (gE (gRt (gLr aD aC (gr1 results134 rfl ⟨rfl, hm.below⟩)))))))
   refine gcf rfl (gSk (gS (gR (gM rfl (gB rfl (gA rfl (gE (gS (gS (gR (gM rfl (gM rfl (gI st_56 aE (idx_lt aA) rfl (gF fo_61_1 rfl (gY (yl isAgg3 ((aF.mono hm.lez).cell (j := 1) rfl) rfl) (gM rfl (gB rfl (gE (gsd 27 rfl (fun aL => ?_) fun aL => ?_)))))))))))))))))))
   ·
    exact gct rfl (gS (gR (gA rfl (gE (gRt (gLr aD aC (gr1 results134 rfl ⟨rfl, hm.below⟩)))))))
   refine gcf rfl (gSk (gS (gR (gM rfl (gB rfl (gA rfl (gE (gS (gR (gM rfl (gM rfl (gI st_56 aE (idx_lt aA) rfl (gF fo_61_2 rfl (gY (yl isAgg57 ((aF.mono hm.lez).cell (j := 2) rfl) rfl) (gM rfl (gC hm rfl call135 (laws_heldIntS_ok _ aH.args aI (hm.now aJ) (w64 ((w64 (aB + 1)) + 1))) fun aZ aa w hm => gA rfl (gE (gS (gS (gR (gM rfl (gB rfl (gE (gsd 38 rfl (fun aM => ?_) fun aM => ?_))))))))))))))))))))))))
   ·
    exact gct rfl (gS (gR (gA rfl (gE (gRt (gLr aD aC (gr1 results134 rfl ⟨rfl, hm.below⟩)))))))
   refine gcf rfl (gSk (gS (gS (gR (gM rfl (gM rfl (gI st_56 aE (idx_lt aA) rfl (gF fo_61_3 rfl (gY (yl isAgg3 ((aF.mono hm.lez).cell (j := 3) rfl) rfl) (gM rfl (gB rfl (gE (gsd 45 rfl (fun aN => ?_) fun aN => ?_)))))))))))))
   ·
    exact gct rfl (gS (gR (gA rfl (gE (gRt (gLr aD aC (gr1 results134 rfl ⟨rfl, hm.below⟩)))))))
   exact gcf rfl (gSk (gR (gM rfl (gB rfl (gA rfl (gE (gR (gM rfl (gP (by omega) (by omega) rfl (gA rfl (gE (gze hm [] rfl))))))))))))
  repeat clear hm
  intro ab ac w hm ae af
  refine gS (gS (gR (gM rfl (gM rfl ?_))))
  obtain ⟨ag, ah, rfl, ai⟩ := ro_slice h1
  exact gY (yV st_56 rfl) (gB rfl (gE (go _ 9 rfl (decide_eq_false (by omega)) (gcf rfl (gXt (gHh (gS (gR (gM rfl (gA rfl (gE (gRt (gr1 results134 rfl ⟨rfl, hm.below⟩)))))))))))))
theorem laws_heldBlockS_ok (w0 : World) (a_ : List Block_) (v1 : Value) (h1 : GT.rep (hp w0) [v1] a_) (k_ : Int) :
    ConM Tryz.prog 83 [v1, (nV k_)] w0 (laws_heldBlockS a_ k_) fun r v w' => v = (nV r) ∧ Below w0.heap.size w0 w' := by
  unfold laws_heldBlockS
  refine gcon func83 rfl fun r => ?_
  have hm := Mem.start w0
  refine gS (gR (gA rfl (gE (gS (gS (gR (gA rfl (gE (gBk (gNf hm (fun aG aF => [(0, v1), (1, (nV aF)), (5, (nV aG))]) (fun aG aF => []) [] rfl ?_ ?_))))))))))
  ·
   repeat clear hm
   intro aW aB aG aF w hm aX aY aZ aC
   refine gS (gS (gR (gM rfl (gM rfl ?_))))
   obtain ⟨aa, ab, rfl, ac⟩ := ro_slice h1
   refine gY (yV st_42 rfl) (gB rfl (gE (go _ 9 rfl (decide_eq_true (by omega)) (gct rfl (gSk (gS (gBk (gS (gR (gM rfl (gM rfl (gg fun aH aD aA => ?_))))))))))))
   obtain ⟨ae, af, ag, he⟩ := idx_form' h1 aA
   obtain ⟨rfl, _, rfl⟩ := sl3 he
   obtain ⟨aI, aJ, aK, aE, aL, aM, aN⟩ := rk_Block_ h1 aA
   refine gI st_42 aD (idx_lt aA) rfl (gF fo_59_0 rfl (gY (yl isAgg55 ((aE.mono hm.lez).cell (j := 0) rfl) rfl) (gM rfl (gC hm rfl call133 (laws_heldPhiS_ok _ aH.phis aI (hm.now aL) aF) fun aO ah w hm => gA rfl (gE (gS (gS (gR (gM rfl (gB rfl (gE (gsd 20 rfl (fun aP => ?_) fun aP => ?_))))))))))))
   ·
    exact gct rfl (gS (gR (gA rfl (gE (gRt (gLr aC aB (gr1 results83 rfl ⟨rfl, hm.below⟩)))))))
   refine gcf rfl (gSk (gS (gR (gM rfl (gM rfl (gI st_42 aD (idx_lt aA) rfl (gF fo_59_1 rfl (gY (yl isAgg56 ((aE.mono hm.lez).cell (j := 1) rfl) rfl) (gM rfl (gC hm rfl call134 (laws_heldInsS_ok _ aH.ins aJ (hm.now aM) aO) fun aQ ai w hm => gA rfl (gE (gS (gS (gR (gM rfl (gB rfl (gE (gsd 29 rfl (fun aR => ?_) fun aR => ?_))))))))))))))))))
   ·
    exact gct rfl (gS (gR (gA rfl (gE (gRt (gLr aC aB (gr1 results83 rfl ⟨rfl, hm.below⟩)))))))
   refine gcf rfl (gSk (gS (gS (gR (gM rfl (gM rfl (gI st_42 aD (idx_lt aA) rfl (gF fo_59_2 rfl (gY (yl isAgg3 ((aE.mono hm.lez).cell (j := 2) rfl) rfl) (gM rfl (gB rfl (gE (gsd 36 rfl (fun aS => ?_) fun aS => ?_)))))))))))))
   ·
    exact gct rfl (gS (gR (gA rfl (gE (gRt (gLr aC aB (gr1 results83 rfl ⟨rfl, hm.below⟩)))))))
   refine gcf rfl (gSk (gS (gR (gM rfl (gB rfl (gA rfl (gE (gS (gS (gR (gM rfl (gM rfl (gI st_42 aD (idx_lt aA) rfl (gF fo_59_3 rfl (gY (yl isAgg3 ((aE.mono hm.lez).cell (j := 3) rfl) rfl) (gM rfl (gB rfl (gE (gsd 45 rfl (fun aT => ?_) fun aT => ?_)))))))))))))))))))
   ·
    exact gct rfl (gS (gR (gA rfl (gE (gRt (gLr aC aB (gr1 results83 rfl ⟨rfl, hm.below⟩)))))))
   refine gcf rfl (gSk (gS (gR (gM rfl (gB rfl (gA rfl (gE (gS (gR (gM rfl (gM rfl (gI st_42 aD (idx_lt aA) rfl (gF fo_59_4 rfl (gY (yl isAgg57 ((aE.mono hm.lez).cell (j := 4) rfl) rfl) (gM rfl (gC hm rfl call135 (laws_heldIntS_ok _ aH.next_ aK (hm.now aN) (w64 ((w64 (aQ + 1)) + 1))) fun aj ak w hm => gA rfl (gE (gS (gR (gM rfl (gB rfl (gE (gsd 56 rfl (fun aV => ?_) fun aV => ?_)))))))))))))))))))))))
   ·
    exact gct rfl (gS (gR (gA rfl (gE (gRt (gLr aC aB (gr1 results83 rfl ⟨rfl, hm.below⟩)))))))
   exact gcf rfl (gSk (gR (gM rfl (gP (by omega) (by omega) rfl (gA rfl (gE (gze hm [] rfl)))))))
  repeat clear hm
  intro al am w hm an ao
  refine gS (gS (gR (gM rfl (gM rfl ?_))))
  obtain ⟨ap, aq, rfl, ar⟩ := ro_slice h1
  exact gY (yV st_42 rfl) (gB rfl (gE (go _ 9 rfl (decide_eq_false (by omega)) (gcf rfl (gXt (gHh (gS (gR (gM rfl (gA rfl (gE (gRt (gr1 results83 rfl ⟨rfl, hm.below⟩)))))))))))))
theorem laws_heldCodeS_ok (w0 : World) (a_ : List Code_) (v1 : Value) (h1 : GT.rep (hp w0) [v1] a_) (k_ : Int) :
    ConM Tryz.prog 37 [v1, (nV k_)] w0 (laws_heldCodeS a_ k_) fun r v w' => v = (nV r) ∧ Below w0.heap.size w0 w' := by
  unfold laws_heldCodeS
  refine gcon func37 rfl fun r => ?_
  have hm := Mem.start w0
  refine gS (gR (gA rfl (gE (gS (gS (gR (gA rfl (gE (gBk (gNf hm (fun aC aB => [(0, v1), (1, (nV aB)), (5, (nV aC))]) (fun aC aB => []) [] rfl ?_ ?_))))))))))
  ·
   repeat clear hm
   intro aN aD aC aB w hm aO aP aQ aE
   refine gS (gS (gR (gM rfl (gM rfl ?_))))
   obtain ⟨aR, aS, rfl, aT⟩ := ro_slice h1
   refine gY (yV st_26 rfl) (gB rfl (gE (go _ 9 rfl (decide_eq_true (by omega)) (gct rfl (gSk (gS (gBk (gS (gS (gR (gM rfl (gM rfl (gg fun aH aF aA => ?_)))))))))))))
   obtain ⟨aV, aW, aX, he⟩ := idx_form' h1 aA
   obtain ⟨rfl, _, rfl⟩ := sl3 he
   obtain ⟨aI, aG, aJ⟩ := rk_Code_ h1 aA
   refine gI st_26 aF (idx_lt aA) rfl (gF fo_44_0 rfl (gY (yl isAgg3 ((aG.mono hm.lez).cell (j := 0) rfl) rfl) (gM rfl (gB rfl (gE (gsd 18 rfl (fun aK => ?_) fun aK => ?_))))))
   ·
    exact gct rfl (gS (gR (gA rfl (gE (gRt (gLr aE aD (gr1 results37 rfl ⟨rfl, hm.below⟩)))))))
   refine gcf rfl (gSk (gS (gR (gM rfl (gB rfl (gA rfl (gE (gS (gS (gR (gM rfl (gM rfl (gI st_26 aF (idx_lt aA) rfl (gF fo_44_1 rfl (gY (yl isAgg3 ((aG.mono hm.lez).cell (j := 1) rfl) rfl) (gM rfl (gB rfl (gE (gsd 27 rfl (fun aL => ?_) fun aL => ?_)))))))))))))))))))
   ·
    exact gct rfl (gS (gR (gA rfl (gE (gRt (gLr aE aD (gr1 results37 rfl ⟨rfl, hm.below⟩)))))))
   refine gcf rfl (gSk (gS (gR (gM rfl (gB rfl (gA rfl (gE (gS (gR (gM rfl (gM rfl (gI st_26 aF (idx_lt aA) rfl (gF fo_44_2 rfl (gY (yl isAgg42 ((aG.mono hm.lez).cell (j := 2) rfl) rfl) (gM rfl (gC hm rfl call83 (laws_heldBlockS_ok _ aH.blocks aI (hm.now aJ) (w64 ((w64 (aB + 1)) + 1))) fun aY aZ w hm => gA rfl (gE (gS (gR (gM rfl (gB rfl (gE (gsd 38 rfl (fun aM => ?_) fun aM => ?_)))))))))))))))))))))))
   ·
    exact gct rfl (gS (gR (gA rfl (gE (gRt (gLr aE aD (gr1 results37 rfl ⟨rfl, hm.below⟩)))))))
   exact gcf rfl (gSk (gR (gM rfl (gP (by omega) (by omega) rfl (gA rfl (gE (gze hm [] rfl)))))))
  repeat clear hm
  intro aa ab w hm ac ae
  refine gS (gS (gR (gM rfl (gM rfl ?_))))
  obtain ⟨af, ag, rfl, ah⟩ := ro_slice h1
  exact gY (yV st_26 rfl) (gB rfl (gE (go _ 9 rfl (decide_eq_false (by omega)) (gcf rfl (gXt (gHh (gS (gR (gM rfl (gA rfl (gE (gRt (gr1 results37 rfl ⟨rfl, hm.below⟩)))))))))))))
theorem laws_heldUnit_ok (w0 : World) (a_ : Unit_) (v1 : Value) (h1 : GT.rep (hp w0) [v1] a_.codes) (k_ : Int) :
    ConM Tryz.prog 15 [(.agg #[v1]), (nV k_)] w0 (laws_heldUnit a_ k_) fun r v w' => v = (nV r) ∧ Below w0.heap.size w0 w' := by
  unfold laws_heldUnit
  refine gcon func15 rfl fun r => ?_
  have hm := Mem.start w0
  refine gS (gR (gBx hm rfl fun aB w hm => gA rfl (gE (gS (gR (gF fo_28_0 rfl (gL hm 0 isAgg26 rfl (gM rfl (gC hm rfl call37 (laws_heldCodeS_ok _ a_.codes v1 (hm.now h1) k_) fun aC aD w hm => gA rfl (gE (gS (gS (gR (gM rfl (gB rfl (gE (gsd 10 rfl (fun aA => ?_) fun aA => ?_)))))))))))))))))
  ·
   exact gct rfl (gS (gR (gA rfl (gE (gRt (gr1 results15 rfl ⟨rfl, hm.below⟩))))))
  exact gcf rfl (gSk (gS (gR (gM rfl (gA rfl (gE (gRt (gr1 results15 rfl ⟨rfl, hm.below⟩))))))))
theorem laws_FnExactPlainUnit_ok (w0 : World) (aU : Unit_) (v1 : Value) (h1 : GT.rep (hp w0) [v1] aU.codes) :
    ConM Tryz.prog 3 [(.agg #[v1])] w0 (laws_FnExactPlainUnit aU) fun r v w' => v = (.bool (r)) ∧ Below w0.heap.size w0 w' := by
  unfold laws_FnExactPlainUnit
  refine gcon func3 rfl fun r => ?_
  have hm := Mem.start w0
  refine gS (gR (gBx hm rfl fun aG w hm => gA rfl (gE (gS (gR (gA rfl (gE (gS (gR (gY (yn (hm.blk_at 0 rfl) isAgg24 sizeOf24 rfl) (gM rfl (gC hm rfl call9 (laws_szUnit_ok _ aU v1 (hm.now h1) 1048576) fun ar au w hm => gA rfl (gE (gS (gS (gR (gM rfl (gB rfl (gE (gsd 18 rfl (fun aQ => ?_) fun aQ => ?_))))))))))))))))))))
  ·
   exact gct rfl (gS (gR (gA rfl (gE (gRt (gr1 results3 rfl ⟨rfl, hm.below⟩))))))
  refine gcf rfl (gSk (gS (gR (gY (yn (hm.blk_at 0 rfl) isAgg24 sizeOf24 rfl) (gCg rfl call11 (laws_toUnit_ok _ aU v1 (hm.now h1)) ?_)))))
  rintro aR av aw w ⟨aS, rfl, hB⟩
  replace hm := hm.give hB; clear hB
  refine gCg rfl call10 (spec_PlainUnit_ok _ aR aS (hm.ow_rep 0 rfl)) ?_
  rintro aC ax ay w ⟨aB, rfl, hB⟩
  replace hm := hm.give hB; clear hB
  refine gM rfl (gX rfl (gX rfl (gAl hm zeroValue28 rfl fun aH w hm => gSN hm 0 sizeOf28 (one_cons (rep_one (hm.ow_rep 1 rfl)) one_nil) rfl fun w hm => gA rfl (gE (gS (gR (gY (yn (hm.blk_at 3 rfl) isAgg24 sizeOf24 rfl) (gCg rfl call11 (laws_toUnit_ok _ aU v1 (hm.now h1)) ?_))))))))
  rintro aI az bA w ⟨aD, rfl, hB⟩
  replace hm := hm.give hB; clear hB
  refine gAl hm zeroValue28 rfl fun aJ w hm => gSN hm 0 sizeOf28 (one_cons (rep_one (hm.ow_rep 1 rfl)) one_nil) rfl fun w hm => gE (gS (gR (gY (yn (hm.blk_at 0 rfl) isAgg28 sizeOf28 rfl) (gCg rfl call12 (impl_PlainUnit_ok _ aI aD (hm.ow_rep 1 rfl)) ?_))))
  rintro aE bB bC w ⟨aA, rfl, hB⟩
  replace hm := hm.give hB; clear hB
  refine gM rfl (gX rfl (gX rfl (gAl hm zeroValue28 rfl fun aF w hm => gSN hm 0 sizeOf28 (one_cons (rep_one (hm.ow_rep 1 rfl)) one_nil) rfl fun w hm => gA rfl (gE (gS (gS (gJ hm (fun aK => [(1, (pV aG)), (4, (pV aH)), (5, (.bool (aC.2))), (6, (pV aJ)), (7, (pV aF)), (8, (.bool (aE.2))), (40, (.bool (aK)))]) (fun aK => [blk aG [v1] 24, blk aH [aB] 28, ow [aB] aC.1.codes, blk aJ [aD] 28, ow [aD] aI.codes, blk aF [aA] 28, ow [aA] aE.1.codes]) (fun aK => ?_) ?_)))))))
  ·
   refine gR (gY (yn (hm.blk_at 0 rfl) isAgg28 sizeOf28 rfl) (gY (yn (hm.blk_at 4 rfl) isAgg28 sizeOf28 rfl) (gC hm rfl call13 (laws_eqUnit_ok _ aE.1 aA (hm.ow_rep 1 rfl) aC.1 aB (hm.ow_rep 5 rfl)) fun bD bE w hm => gN rfl (gM rfl (gsn 36 rfl (fun aT => ?_) fun aT => ?_)))))
   ·
    exact gO rfl (gO rfl (gO rfl (gKt rfl (gE (gz hm [7, 4, 5, 2, 3, 0, 1] rfl)))))
   exact gM rfl (gM rfl (gY (yG rfl (y_neqb underlying4 rfl rfl rfl)) (gKf rfl (gE (gz hm [7, 4, 5, 2, 3, 0, 1] rfl)))))
  repeat clear hm
  intro aK w hm
  refine gs 40 rfl (fun aV => ?_) fun aV => ?_
  ·
   exact gct rfl (gS (gR (gA rfl (gE (gRt (gr1 results3 rfl ⟨rfl, hm.below⟩))))))
  refine gcf rfl (gSk (gS (gS (gW (.q 0 (.e 1 (.e 2 (.e 3 (.p 4 .fin) .nil) .nil) .nil)) [1, 2] [4] hm [0, 1, 2, 3, 4, 5, 6] [blk aG [v1] 24, blk aH [aB] 28, ow [aB] aC.1.codes, blk aJ [aD] 28, ow [aD] aI.codes, blk aF [aA] 28, ow [aA] aE.1.codes] rfl mxo (by kernel_rfl) (fun _ _ _ h => h.2) fun w hm hS => tQ rfl hS (fun w hm => yn (hm.blk_at 3 rfl) isAgg28 sizeOf28 rfl) (tO (tY rfl (yn (hm.blk_at 0 rfl) isAgg24 sizeOf24 rfl) (tAs hS (tO (gb fun aO aW => tf rfl rfl (fun a hf => e_call hf rfl call11 rfl (laws_toUnit_ok _ aU v1 (hm.now h1) _ aW)) ?_)))))))))
  rintro bF w ⟨aP, rfl, hB⟩
  replace hm := hm.give hB; clear hB
  refine tAk hm [1, 2, 3, 4, 5, 6, 7] rfl fun hS => tO (gb fun bG aX => tf rfl rfl (fun a hf => e_call hf rfl call13 rfl (laws_eqUnit_ok _ aI aD (hm.ow_rep 5 rfl) aO aP (hm.ow_rep 0 rfl) _ aX)) ?_)
  rintro bH w ⟨rfl, hB⟩
  replace hm := hm.below' hB; clear hB
  refine tAn rfl (tP rfl (fun w => yN rfl) (tE (gsn 45 rfl (fun aY => ?_) fun aY => ?_)))
  ·
   exact gct rfl (gS (gR (gA rfl (gE (gRt (gr1 results3 rfl ⟨rfl, hm.below⟩))))))
  refine gcf rfl (gSk (gS (gR (gA rfl (gE (gS (gR (gY (yn (hm.blk_at 4 rfl) isAgg28 sizeOf28 rfl) (gM rfl ?_)))))))))
  obtain ⟨aZ, hle, hm1, hsub, aa⟩ := hm.take2 (L1 := [ow [aD] aI.codes]) (L2 := [ow [aP] aO.codes, blk aG [v1] 24, blk aH [aB] 28, ow [aB] aC.1.codes, blk aJ [aD] 28, blk aF [aA] 28, ow [aA] aE.1.codes]) [5] [0, 1, 2, 3, 4, 6, 7] (by decide) rfl rfl
  refine gCg rfl call14 (laws_markUnit_ok _ aZ aI aD 1 hm1 ) ?_
  rintro bJ bK bL w ⟨rfl, hB⟩
  replace hm := aa _ _ hB; clear hB
  refine gA rfl (gE (gS (gS (gJ hm (fun aL => [(1, (pV aG)), (4, (pV aH)), (5, (.bool (aC.2))), (7, (pV aF)), (61, (.bool (aL)))]) (fun aL => [blk aG [v1] 24, blk aH [aB] 28, ow [aB] aC.1.codes, blk aF [aA] 28, ow [aA] aE.1.codes]) (fun aL => ?_) ?_))))
  ·
   refine gR (gM rfl (gB rfl (gM rfl (gsd 51 rfl (fun ab => ?_) fun ab => ?_))))
   ·
    exact gO rfl (gO rfl (gO rfl (gO rfl (gKt rfl (gM rfl (gO rfl (gO rfl (gO rfl (gKt rfl (gE (gz hm [2, 3, 4, 6, 7] rfl)))))))))))
   refine gY (yn (hm.blk_at 6 rfl) isAgg28 sizeOf28 rfl) (gY (yn (hm.blk_at 3 rfl) isAgg28 sizeOf28 rfl) (gC hm rfl call13 (laws_eqUnit_ok _ aE.1 aA (hm.ow_rep 7 rfl) aC.1 aB (hm.ow_rep 4 rfl)) fun bM bN w hm => gN rfl (gKf rfl (gM rfl (gsn 57 rfl (fun ac => ?_) fun ac => ?_)))))
   ·
    exact gO rfl (gO rfl (gO rfl (gKt rfl (gE (gz hm [2, 3, 4, 6, 7] rfl)))))
   exact gM rfl (gM rfl (gY (yG rfl (y_neqb underlying4 rfl rfl rfl)) (gKf rfl (gE (gz hm [2, 3, 4, 6, 7] rfl)))))
  repeat clear hm
  intro aL w hm
  refine gs 61 rfl (fun ae => ?_) fun ae => ?_
  ·
   exact gct rfl (gS (gR (gA rfl (gE (gRt (gr1 results3 rfl ⟨rfl, hm.below⟩))))))
  refine gcf rfl (gSk (gS (gR (gA rfl (gE (gS (gR (gY (yn (hm.blk_at 3 rfl) isAgg28 sizeOf28 rfl) (gM rfl ?_)))))))))
  obtain ⟨af, hle, hm1, hsub, ag⟩ := hm.take2 (L1 := [ow [aA] aE.1.codes]) (L2 := [blk aG [v1] 24, blk aH [aB] 28, ow [aB] aC.1.codes, blk aF [aA] 28]) [4] [0, 1, 2, 3] (by decide) rfl rfl
  refine gCg rfl call14 (laws_markUnit_ok _ af aE.1 aA 1 hm1 ) ?_
  rintro aM bO bP w ⟨rfl, hB⟩
  replace hm := ag _ _ hB; clear hB
  refine gA rfl (gE (gS (gR (gA rfl (gE (gS (gR (gY (yn (hm.blk_at 4 rfl) isAgg28 sizeOf28 rfl) (gM rfl (gC hm rfl call15 (laws_heldUnit_ok _ (⟨aM.2⟩ : Unit_) aA (hm.ow_rep 0 rfl) 1) fun bQ bR w hm => gA rfl (gE (gS (gS (gR (gM rfl (gB rfl (gE (gsd 69 rfl (fun ah => ?_) fun ah => ?_))))))))))))))))))
  ·
   exact gct rfl (gS (gR (gA rfl (gE (gRt (gr1 results3 rfl ⟨rfl, hm.below⟩))))))
  refine gcf rfl (gSk (gS (gS (gR (gM rfl (gM rfl (gB rfl (gE (gsd 72 rfl (fun ai => ?_) fun ai => ?_)))))))))
  ·
   exact gct rfl (gS (gR (gA rfl (gE (gRt (gr1 results3 rfl ⟨rfl, hm.below⟩))))))
  refine gcf rfl (gSk (gS (gR (gY (yn (hm.blk_at 1 rfl) isAgg24 sizeOf24 rfl) (gCg rfl call11 (laws_toUnit_ok _ aU v1 (hm.now h1)) ?_)))))
  rintro aj bS bT w ⟨ak, rfl, hB⟩
  replace hm := hm.give hB; clear hB
  refine gCg rfl call12 (impl_PlainUnit_ok _ aj ak (hm.ow_rep 0 rfl)) ?_
  rintro al bU bV w ⟨am, rfl, hB⟩
  replace hm := hm.give hB; clear hB
  refine gM rfl (gX rfl (gX rfl (gAl hm zeroValue28 rfl fun bW w hm => gSN hm 0 sizeOf28 (one_cons (rep_one (hm.ow_rep 1 rfl)) one_nil) rfl fun w hm => gA rfl (gE (gS (gS (gJ hm (fun aN => [(7, (pV aF)), (10, (nV aM.1)), (87, (.bool (aN)))]) (fun aN => [blk aF [aA] 28, ow [aA] aM.2]) (fun aN => ?_) ?_)))))))
  ·
   refine gR (gY (yn (hm.blk_at 0 rfl) isAgg28 sizeOf28 rfl) (gY (yn (hm.blk_at 5 rfl) isAgg28 sizeOf28 rfl) (gC hm rfl call13 (laws_eqUnit_ok _ al.1 am (hm.ow_rep 1 rfl) aC.1 aB (hm.ow_rep 6 rfl)) fun bX bY w hm => gN rfl (gM rfl (gsn 83 rfl (fun an => ?_) fun an => ?_)))))
   ·
    exact gO rfl (gO rfl (gO rfl (gKt rfl (gE (gz hm [7, 3] rfl)))))
   exact gM rfl (gM rfl (gY (yG rfl (y_neqb underlying4 rfl rfl rfl)) (gKf rfl (gE (gz hm [7, 3] rfl)))))
  repeat clear hm
  intro aN w hm
  refine gs 87 rfl (fun ao => ?_) fun ao => ?_
  ·
   exact gct rfl (gS (gR (gA rfl (gE (gRt (gr1 results3 rfl ⟨rfl, hm.below⟩))))))
  refine gcf rfl (gSk (gS (gR (gA rfl (gE (gS (gR (gY (yn (hm.blk_at 0 rfl) isAgg28 sizeOf28 rfl) (gM rfl (gC hm rfl call15 (laws_heldUnit_ok _ (⟨aM.2⟩ : Unit_) aA (hm.ow_rep 1 rfl) 1) fun bZ b6 w hm => gA rfl (gE (gS (gS (gR (gM rfl (gB rfl (gE (gsd 92 rfl (fun ap => ?_) fun ap => ?_))))))))))))))))))
  ·
   exact gct rfl (gS (gR (gA rfl (gE (gRt (gr1 results3 rfl ⟨rfl, hm.below⟩))))))
  refine gcf rfl (gSk (gS (gS (gR (gM rfl (gM rfl (gB rfl (gE (gsd 95 rfl (fun aq => ?_) fun aq => ?_)))))))))
  ·
   exact gct rfl (gS (gR (gA rfl (gE (gRt (gr1 results3 rfl ⟨rfl, hm.below⟩))))))
  exact gcf rfl (gSk (gS (gR (gA rfl (gE (gRt (gr1 results3 rfl ⟨rfl, hm.below⟩)))))))
end Go.Proofs.YtcfdnpmajkhokaaGreat
