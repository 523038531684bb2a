/- A part of the proof of FnExactHoistCountSaid. -/
import Derived.Test.YtcfdnpmajkhokaaGreatHcWalksA
namespace Go.Proofs.YtcfdnpmajkhokaaGreat
open Go Go.Wk Go.RowKit
set_option maxRecDepth 4000
set_option maxHeartbeats 4000000
open Tryz
theorem spec_l17Loop_ok (w0 : World) (hz : Heap) (c_ : Code_) (bp0 : Nat) (v1p : Value) (doms : List (List Bool)) (v1 : Value) (h1 : GT.rep hz [v1] doms) (order : List Int) (v2 : Value) (h2 : GT.rep hz [v2] order) (h_ : Int) (hm0 : Mem w0 hz w0 [blk bp0 [(nV c_.params), (nV c_.regs), v1p] 44, ow [v1p] c_.blocks]) :
    ConM Tryz.prog 234 [(pV bp0), v1, v2, (nV h_)] w0 (spec_l17Loop c_ doms order h_) fun r v w' => ∃ (x1 : Value), v = (.bool (r.1)) ∧ Mem w0 hz w' [blk bp0 [(nV r.2.params), (nV r.2.regs), x1] 44, ow [x1] r.2.blocks] := by
  unfold spec_l17Loop
  refine gcon func234 rfl fun r => ?_
  have hm := hm0
  refine gS (gR (gA rfl (gE (gS (gR (gM rfl (gY (yG rfl (y_nilptr rfl rfl)) (gY (yn (hm.blk_at 0 rfl) isAgg44 sizeOf44 rfl) (gM rfl (gM rfl (gCg rfl call279 (spec_l17Body_ok _ c_ v1p (hm.ow_rep 1 rfl) doms v1 (hm.now h1) h_) ?_)))))))))))
  rintro aC cJ cK w ⟨_, rfl, hB⟩
  replace hm := hm.give hB; clear hB
  refine gA rfl (gE (gS (gR (gM rfl (gY (yG rfl (y_nilptr rfl rfl)) (gY (yn (hm.blk_at 1 rfl) isAgg44 sizeOf44 rfl) (gM rfl (gCg rfl call66 (spec_l7Preds_ok _ c_ v1p (hm.ow_rep 2 rfl) h_) ?_))))))))
  rintro ag cL cM w ⟨_, rfl, hB⟩
  replace hm := hm.give hB; clear hB
  refine gA rfl (gE (gS (gR (gA rfl (gE (gS (gR (gA rfl (gE (gS (gS (gR (gA rfl (gE ?_))))))))))))))
  obtain ⟨ab, aF, rfl, cN⟩ := ro_slice (hm.ow_rep 3 rfl)
  obtain ⟨aM, aN, rfl, cO⟩ := ro_slice (hm.ow_rep 1 rfl)
  obtain ⟨bC, ak, rfl, cP⟩ := ro_slice (hm.ow_rep 0 rfl)
  refine gBk (gNf hm (fun aq bD => [(0, (pV bp0)), (2, v2), (9, (.slice aM aC.length aN)), (10, (.slice bC ag.length ak)), (11, (nV bD.1)), (12, (nV bD.2)), (13, (nV aq))]) (fun aq bD => [blk bp0 [(nV c_.params), (nV c_.regs), (.slice ab c_.blocks.length aF)] 44, ow [(.slice ab c_.blocks.length aF)] c_.blocks, ow [(.slice aM aC.length aN)] aC, ow [(.slice bC ag.length ak)] ag]) [2, 3, 1, 0] rfl ?_ ?_)
  ·
   repeat clear hm
   intro _ _ aq bD w hm cQ cR cS _
   refine gS (gS (gR (gM rfl (gM rfl (gY (yV st_57 rfl) (gB rfl (gE (go _ 35 rfl (decide_eq_true (by omega)) (gct rfl (gSk (gS (gJ hm (fun ar => [(0, (pV bp0)), (2, v2), (9, (.slice aM aC.length aN)), (10, (.slice bC ag.length ak)), (11, (nV ar.1)), (12, (nV ar.2)), (13, (nV aq))]) (fun ar => [blk bp0 [(nV c_.params), (nV c_.regs), (.slice ab c_.blocks.length aF)] 44, ow [(.slice ab c_.blocks.length aF)] c_.blocks, ow [(.slice aM aC.length aN)] aC, ow [(.slice bC ag.length ak)] ag]) (fun ar => ?_) ?_))))))))))))
   ·
    refine gBk (gS (gR (gM rfl (gM rfl (gM rfl (gg fun bO b7 au => ?_))))))
    obtain ⟨b8, b9, cT, he⟩ := idx_form (hm.ow_rep 3 rfl) au
    obtain ⟨rfl, _, rfl⟩ := sl3 he
    refine gI st_57 b7 (idx_lt au) rfl (gY (yl isAgg3 ((flat_cells (cs := [(nV bO)]) (hm.ow_rep 3 rfl) au rfl).cell (j := 0) rfl) rfl) (gC hm rfl call116 (spec_l10At_ok _ aC (.slice aM aC.length aN) (hm.ow_rep 2 rfl) bO) fun cU cV w hm => gB rfl (gE (gJ hm (fun aw => [(0, (pV bp0)), (2, v2), (9, (.slice aM aC.length aN)), (10, (sV b8 b9 ag.length ak)), (11, (nV aw.1)), (12, (nV aw.2)), (13, (nV aq))]) (fun aw => [blk bp0 [(nV c_.params), (nV c_.regs), (.slice ab c_.blocks.length aF)] 44, ow [(.slice ab c_.blocks.length aF)] c_.blocks, ow [(.slice aM aC.length aN)] aC, ow [(sV b8 b9 ag.length ak)] ag]) (fun aw => ?_) ?_))))
    ·
     refine gsd 44 rfl (fun bi => ?_) fun bi => ?_
     ·
      exact gct rfl (gS (gR (gM rfl (gM rfl (gI st_57 b7 (idx_lt au) rfl (gY (yl isAgg3 ((flat_cells (cs := [(nV bO)]) (hm.ow_rep 3 rfl) au rfl).cell (j := 0) rfl) rfl) (gA rfl (gE (gR (gM rfl (gB rfl (gA rfl (gE (gz hm [0, 1, 2, 3] rfl))))))))))))))
     exact gcf rfl (gSk (gz hm [0, 1, 2, 3] rfl))
    repeat clear hm
    intro aw w hm
    exact gz hm [0, 1, 2, 3] rfl
   repeat clear hm
   intro ar w hm
   exact gR (gM rfl (gP (by omega) (by omega) rfl (gA rfl (gE (gze hm [0, 1, 2, 3] rfl)))))
  repeat clear hm
  intro cW aV w hm cX cY
  refine gS (gS (gR (gM rfl (gM rfl (gY (yV st_57 rfl) (gB rfl (gE (go _ 35 rfl (decide_eq_false (by omega)) (gcf rfl (gXt (gHh (gS (gS (gJ hm (fun bE => [(0, (pV bp0)), (2, v2), (9, (.slice aM aC.length aN)), (11, (nV aV.1)), (63, (.bool (bE)))]) (fun bE => [blk bp0 [(nV c_.params), (nV c_.regs), (.slice ab c_.blocks.length aF)] 44, ow [(.slice ab c_.blocks.length aF)] c_.blocks, ow [(.slice aM aC.length aN)] aC]) (fun bE => ?_) ?_))))))))))))))
  ·
   refine gR (gM rfl (gB rfl (gM rfl (gsd 53 rfl (fun bj => ?_) fun bj => ?_))))
   ·
    exact gO rfl (gO rfl (gO rfl (gO rfl (gO rfl (gO rfl (gO rfl (gO rfl (gO rfl (gKt rfl (gE (gz hm [0, 1, 2] rfl)))))))))))
   refine gM rfl (gY (yG rfl (y_nilptr rfl rfl)) (gF fo_44_2 rfl (gL hm 0 isAgg42 rfl (gM rfl (gg fun cZ bk bP => ?_)))))
   obtain ⟨c7, c8, c9, he⟩ := idx_form' (hm.ow_rep 1 rfl) bP
   obtain ⟨rfl, _, rfl⟩ := sl3 he
   obtain ⟨ca, cb, cc, bl, cd, ce, cf⟩ := rk_Block_ (hm.ow_rep 1 rfl) bP
   exact gI st_42 bk (idx_lt bP) rfl (gF fo_59_2 rfl (gY (yl isAgg3 (bl.cell (j := 2) rfl) rfl) (gB rfl (gKf rfl (gE (gz hm [0, 1, 2] rfl))))))
  repeat clear hm
  intro bE w hm
  refine gs 63 rfl (fun bm => ?_) fun bm => ?_
  ·
   exact gct rfl (gS (gR (gA rfl (gE (gRt (gr1 results234 rfl ⟨(.slice ab c_.blocks.length aF), rfl, hm.pk [0, 1] rfl rfl⟩))))))
  refine gcf rfl (gSk (gS (gR (gA rfl (gE (gS (gR (gM rfl (gY (yG rfl (y_nilptr rfl rfl)) (gY (yn (hm.blk_at 0 rfl) isAgg44 sizeOf44 rfl) (gCg rfl call53 (spec_l13Sets_ok _ c_ (.slice ab c_.blocks.length aF) (hm.ow_rep 1 rfl)) ?_)))))))))))
  rintro aQ cg ci w ⟨_, rfl, hB⟩
  replace hm := hm.give hB; clear hB
  refine gA rfl (gE (gS (gS (gR (gA rfl (gE ?_))))))
  obtain ⟨aS, aR, rfl, cj⟩ := ro_slice (hm.ow_rep 0 rfl)
  refine gBk (gNf hm (fun ai ax => [(0, (pV bp0)), (2, v2), (9, (.slice aM aC.length aN)), (11, (nV aV.1)), (14, (.bool (ax.2.1))), (15, (.slice aS aQ.length aR)), (16, (nV ai))]) (fun ai ax => [blk bp0 [(nV c_.params), (nV c_.regs), (.slice ab c_.blocks.length aF)] 44, ow [(.slice ab c_.blocks.length aF)] ax.1, ow [(.slice aM aC.length aN)] aC, ow [(.slice aS aQ.length aR)] ax.2.2]) [1, 2, 3, 0] rfl ?_ ?_)
  ·
   repeat clear hm
   intro _ _ ai ax w hm ck cl cm _
   refine gS (gS (gR (gM rfl (gM rfl ?_))))
   obtain ⟨bo, bF, rfl, cn⟩ := ro_slice h2
   refine gY (yV st_57 rfl) (gB rfl (gE (go _ 71 rfl (decide_eq_true (by omega)) (gct rfl (gSk (gS (gJ hm (fun am => [(0, (pV bp0)), (2, (.slice bo order.length bF)), (9, (.slice aM aC.length aN)), (11, (nV aV.1)), (14, (.bool (am.2.1))), (15, (.slice aS aQ.length aR)), (16, (nV ai))]) (fun am => [blk bp0 [(nV c_.params), (nV c_.regs), (.slice ab c_.blocks.length aF)] 44, ow [(.slice ab c_.blocks.length aF)] am.1, ow [(.slice aM aC.length aN)] aC, ow [(.slice aS aQ.length aR)] am.2.2]) (fun am => ?_) ?_)))))))
   ·
    refine gBk (gS (gR (gM rfl (gM rfl (gg fun aT bp bQ => ?_)))))
    obtain ⟨bR, bS, co, he⟩ := idx_form h2 bQ
    obtain ⟨rfl, _, rfl⟩ := sl3 he
    refine gI st_57 bp (idx_lt bQ) rfl (gY (yl isAgg3 ((flat_cells (cs := [(nV aT)]) (hm.now h2) bQ rfl).cell (j := 0) rfl) rfl) (gA rfl (gE (gS (gS (gR (gM rfl (gM rfl (gC hm rfl call116 (spec_l10At_ok _ aC (.slice aM aC.length aN) (hm.ow_rep 2 rfl) aT) fun cq cr w hm => gB rfl (gE (gsd 81 rfl (fun bq => ?_) fun bq => ?_)))))))))))
    ·
     exact gct rfl (gXt (gHh (gz hm [0, 1, 2, 3] rfl)))
    refine gcf rfl (gSk (gS (gR (gf rfl (fun a hf => e_build0 (α := Ins_) et_56 hm rfl) ?_))))
    rintro ct w hm
    refine gA rfl (gE (gS (gS (gR (gA rfl (gE (gg fun aA ay bT => ?_)))))))
    obtain ⟨aG, aH, cu, he⟩ := idx_form' (hm.ow_rep 2 rfl) bT
    obtain ⟨rfl, _, rfl⟩ := sl3 he
    obtain ⟨aI, cv, aJ, hm⟩ := pin_Block_ hm 2 rfl bT
    have ba : (aT).toNat < c_.blocks.length := (idx_lt2 bT (hm.holeE_len 5 rfl))
    obtain ⟨aj, aK, rfl, cw⟩ := ro_slice (hm.ow_rep 1 rfl)
    replace hm := hm.drnV0 1 rfl
    obtain ⟨br, bs, rfl, cx⟩ := ro_slice (hm.ow_rep 3 rfl)
    refine gBk (gNg (fun aW aE a w => ∃ (aX : Value), St 152 [(0, (pV bp0)), (2, (sV bR bS order.length bF)), (9, (.slice aM aC.length aN)), (11, (nV aV.1)), (14, (.bool (aE.2.1))), (15, (.slice aS aQ.length aR)), (16, (nV ai)), (17, (nV aT)), (18, aX), (19, (nV aW))] w0 hz [blk bp0 [(nV c_.params), (nV c_.regs), (sV aG aH c_.blocks.length aF)] 44, holeE aG aH c_.blocks.length aF (aE.1 : List Block_) (aT).toNat [aI, (.slice aj aA.ins.length aK), (nV aA.jump), (nV aA.on), aJ], ow [aI] aA.phis, drnV (.slice aj aA.ins.length aK) (aA.ins : List Ins_) (aW), ow [aJ] aA.next_, ow [(.slice aM aC.length aN)] aC, ow [(.slice aS aQ.length aR)] aE.2.2.1, ow [aX] aE.2.2.2] a w) (fun a hf => ⟨(.slice br ([] : List Ins_).length bs), hf.sb rfl, hm.pk [4, 5, 2, 1, 0, 6, 7, 3] rfl rfl⟩) ?_ ?_)
    ·
     repeat clear hm
     rintro _ _ aW aE a w ⟨aX, hf, hm⟩ cy cz dA _
     refine gv hf (gS (gS (gR (gM rfl (gM rfl (gY (yG rfl (y_nilptr rfl rfl)) (gF fo_44_2 rfl (gL hm 0 isAgg42 rfl (gM rfl ?_)))))))))
     have hL3_1 := hm.holeE_len 1 rfl
     obtain ⟨bt, bU⟩ := hm.holeE_hx 1 rfl ba
     refine gI st_42 ay (idx_lt2 bU hL3_1) rfl (gF fo_59_1 rfl (gY (yl isAgg56 ((hm.holeE_at 1 rfl).cell (j := 1) rfl) rfl) (gY (yV st_56 rfl) (gB rfl (gE (go _ 93 rfl (decide_eq_true (by omega)) (gct rfl (gSk (gS (gJg (fun an a w => ∃ (bG : Value), St 152 [(0, (pV bp0)), (2, (sV bR bS order.length bF)), (9, (.slice aM aC.length aN)), (11, (nV aV.1)), (14, (.bool (an.2.1))), (15, (.slice aS aQ.length aR)), (16, (nV ai)), (17, (nV aT)), (18, bG), (19, (nV aW))] w0 hz [blk bp0 [(nV c_.params), (nV c_.regs), (sV aG aH c_.blocks.length aF)] 44, holeE aG aH c_.blocks.length aF (an.1 : List Block_) (aT).toNat [aI, (.slice aj aA.ins.length aK), (nV aA.jump), (nV aA.on), aJ], ow [aI] aA.phis, drnS (.slice aj aA.ins.length aK) (aA.ins : List Ins_) (aW), ow [aJ] aA.next_, ow [(.slice aM aC.length aN)] aC, ow [(.slice aS aQ.length aR)] an.2.2.1, ow [bG] an.2.2.2] a w) (fun an => ?_) ?_))))))))))
     ·
      refine gBk (gS (gR (gM rfl (gY (yG rfl (y_nilptr rfl rfl)) (gF fo_44_2 rfl (gL hm 0 isAgg42 rfl (gM rfl ?_)))))))
      have hL4_1 := hm.holeE_len 1 rfl
      refine gI st_42 ay (idx_lt2 bU hL4_1) rfl (gF fo_59_1 rfl (gY (yl isAgg56 ((hm.holeE_at 1 rfl).cell (j := 1) rfl) rfl) (gM rfl (gg fun aB bb bH => ?_))))
      obtain ⟨aO, aP, dB, he⟩ := hm.drn_form 3 rfl bH
      obtain ⟨rfl, _, rfl⟩ := sl3 he
      obtain ⟨_, bu, hm⟩ := hm.drn_pin 3 rfl bH
      have bv := hm.ow_rep 0 rfl
      obtain ⟨_, _, rfl, rfl, _, _, rfl, rfl, _, _, rfl, bJ, rfl⟩ := bv
      obtain ⟨aL, rfl, -⟩ := id bJ
      replace bJ : GT.rep (hp _) [aL] aB.args := bJ
      clear bu bJ
      replace hm : Mem w0 hz _ [ow [(nV aB.op), (nV aB.to), aL, (nV aB.n_)] (aB : Ins_), blk bp0 [(nV c_.params), (nV c_.regs), (sV aG aH c_.blocks.length aF)] 44, holeE aG aH c_.blocks.length aF (aE.1 : List Block_) (aT).toNat [aI, (sV aO aP aA.ins.length aK), (nV aA.jump), (nV aA.on), aJ], ow [aI] aA.phis, drnH aO aP aA.ins.length aK (aA.ins : List Ins_) (aW).toNat [(nV aB.op), (nV aB.to), aL, (nV aB.n_)], ow [aJ] aA.next_, ow [(.slice aM aC.length aN)] aC, ow [(.slice aS aQ.length aR)] aE.2.2.1, ow [aX] aE.2.2.2] := hm
      replace hm := hm.imp (c' := ow ([(nV aB.op)] ++ [(nV aB.to), aL, (nV aB.n_)]) ((aB.op, (aB.to, aB.args, aB.n_)) : Int × Int × (List Int) × Int)) 0 rfl (fun F h0 => h0)
      replace hm := Mem.unpair (α := Int) (β := Int × (List Int) × Int) (c := [(nV aB.op)]) (d := [(nV aB.to), aL, (nV aB.n_)]) (x := aB.op) (y := (aB.to, aB.args, aB.n_)) hm 0 rfl rfl
      replace hm := hm.imp (c' := ow ([(nV aB.to)] ++ [aL, (nV aB.n_)]) ((aB.to, (aB.args, aB.n_)) : Int × (List Int) × Int)) 0 rfl (fun F h0 => h0)
      replace hm := Mem.unpair (α := Int) (β := (List Int) × Int) (c := [(nV aB.to)]) (d := [aL, (nV aB.n_)]) (x := aB.to) (y := (aB.args, aB.n_)) hm 0 rfl rfl
      replace hm := hm.imp (c' := ow ([aL] ++ [(nV aB.n_)]) ((aB.args, aB.n_) : (List Int) × Int)) 0 rfl (fun F h0 => h0)
      replace hm := Mem.unpair (α := List Int) (β := Int) (c := [aL]) (d := [(nV aB.n_)]) (x := aB.args) (y := aB.n_) hm 0 rfl rfl
      replace hm := hm.pk (L' := [ow [aL] aB.args, blk bp0 [(nV c_.params), (nV c_.regs), (sV aG aH c_.blocks.length aF)] 44, holeE aG aH c_.blocks.length aF (aE.1 : List Block_) (aT).toNat [aI, (sV aO aP aA.ins.length aK), (nV aA.jump), (nV aA.on), aJ], ow [aI] aA.phis, drnH aO aP aA.ins.length aK (aA.ins : List Ins_) (aW).toNat [(nV aB.op), (nV aB.to), aL, (nV aB.n_)], ow [aJ] aA.next_, ow [(.slice aM aC.length aN)] aC, ow [(.slice aS aQ.length aR)] aE.2.2.1, ow [aX] aE.2.2.2]) [1, 4, 5, 6, 7, 8, 9, 10, 11] rfl rfl
      have hL4_2 := hm.drnH_len 4 rfl
      refine gI st_56 bb (idx_lt2 bH hL4_2) rfl (gY (yn (hm.drnH_at 4 rfl) isAgg61 sizeOf61 rfl) (gAl hm zeroValue61 rfl fun aY w hm => gSN hm 0 sizeOf61 (one_cons rfl (one_cons rfl (one_cons (rep_one (hm.ow_rep 1 rfl)) (one_cons rfl one_nil)))) rfl fun w hm => gE (gS ?_)))
      replace hm := hm.drnH_gone 5 rfl bb bH
      replace hm : Mem w0 hz _ [blk aY [(nV aB.op), (nV aB.to), aL, (nV aB.n_)] 61, ow [aL] aB.args, blk bp0 [(nV c_.params), (nV c_.regs), (sV aG aH c_.blocks.length aF)] 44, holeE aG aH c_.blocks.length aF (aE.1 : List Block_) (aT).toNat [aI, (sV aO aP aA.ins.length aK), (nV aA.jump), (nV aA.on), aJ], ow [aI] aA.phis, drnS (sV aO aP aA.ins.length aK) (aA.ins : List Ins_) (aW), ow [aJ] aA.next_, ow [(.slice aM aC.length aN)] aC, ow [(.slice aS aQ.length aR)] aE.2.2.1, ow [aX] aE.2.2.2] := hm
      refine gW (.p 0 (.p 1 (.p 3 (.p 4 (.q 2 (.e 5 (.e 6 .fin .nil) .nil)))))) [5] [0, 1, 3, 4] hm [0, 1, 2, 3, 4, 5, 6, 7, 8, 9] [blk aY [(nV aB.op), (nV aB.to), aL, (nV aB.n_)] 61, ow [aL] aB.args, blk bp0 [(nV c_.params), (nV c_.regs), (sV aG aH c_.blocks.length aF)] 44, holeE aG aH c_.blocks.length aF (aE.1 : List Block_) (aT).toNat [aI, (sV aO aP aA.ins.length aK), (nV aA.jump), (nV aA.on), aJ], ow [aI] aA.phis, drnS (sV aO aP aA.ins.length aK) (aA.ins : List Ins_) (aW), ow [aJ] aA.next_, ow [(.slice aM aC.length aN)] aC, ow [(.slice aS aQ.length aR)] aE.2.2.1, ow [aX] aE.2.2.2] rfl mxo (by kernel_rfl) (fun _ _ _ h => h.2) fun w hm hS => tP rfl (fun w => yM rfl) (tP rfl (fun w => yG rfl (y_nilptr rfl rfl)) (tP rfl (fun w => yM rfl) (tP rfl (fun w => yM rfl) (tQ rfl hS (fun w hm => yn (hm.blk_at 2 rfl) isAgg44 sizeOf44 rfl) (tO (tY rfl (yn (hm.blk_at 0 rfl) isAgg61 sizeOf61 rfl) (tAs hS (tO (gb fun dC bw => tf rfl rfl (fun a hf => e_call hf rfl call280 rfl (spec_l17Same_ok _ (⟨c_.params, c_.regs, []⟩ : Code_) (sV aG aH c_.blocks.length aF) aE.2.2.1 (.slice aS aQ.length aR) (hm.ow_rep 8 rfl) aC (.slice aM aC.length aN) (hm.ow_rep 7 rfl) aB aL (hm.ow_rep 1 rfl) _ bw)) ?_)))))))))
      rintro dD w ⟨rfl, hB⟩
      replace hm := hm.below' hB; clear hB
      refine tAn rfl (tE (gJg (fun ao a w => ∃ (bK : Value), St 152 [(0, (pV bp0)), (2, (sV bR bS order.length bF)), (9, (.slice aM aC.length aN)), (11, (nV aV.1)), (14, (.bool (ao.2.1))), (15, (.slice aS aQ.length aR)), (16, (nV ai)), (17, (nV aT)), (18, bK), (19, (nV aW))] w0 hz [blk bp0 [(nV c_.params), (nV c_.regs), (sV aG aH c_.blocks.length aF)] 44, holeE aG aH c_.blocks.length aF (ao.1 : List Block_) (aT).toNat [aI, (sV aO aP aA.ins.length aK), (nV aA.jump), (nV aA.on), aJ], ow [aI] aA.phis, drnS (sV aO aP aA.ins.length aK) (aA.ins : List Ins_) (aW), ow [aJ] aA.next_, ow [(.slice aM aC.length aN)] aC, ow [(.slice aS aQ.length aR)] ao.2.2.1, ow [bK] ao.2.2.2] a w) (fun ao => ?_) ?_))
      ·
       refine gs 113 rfl (fun bx => ?_) fun bx => ?_
       ·
        refine gct rfl (gS (gg fun aD bV bW => gb fun dE bL => ?_))
        replace bL := neI_some bL ay bV
        obtain ⟨aZ, ac, aa, hm⟩ := pinb_Block_ hm 3 rfl bW bL
        replace hm : Mem w0 hz _ [ow [aa] aD.next_, ow [ac] aD.ins, ow [aZ] aD.phis, blk aY [(nV aB.op), (nV aB.to), aL, (nV aB.n_)] 61, ow [aL] aB.args, blk bp0 [(nV c_.params), (nV c_.regs), (sV aG aH c_.blocks.length aF)] 44, hole2E aG aH c_.blocks.length aF (aE.1 : List Block_) (aT).toNat [aI, (sV aO aP aA.ins.length aK), (nV aA.jump), (nV aA.on), aJ] (aV.1).toNat [aZ, ac, (nV aD.jump), (nV aD.on), aa], ow [aI] aA.phis, drnS (sV aO aP aA.ins.length aK) (aA.ins : List Ins_) (aW), ow [aJ] aA.next_, ow [(.slice aM aC.length aN)] aC, ow [(.slice aS aQ.length aR)] aE.2.2.1, ow [aX] aE.2.2.2] := hm
        refine gW (.p 0 (.p 1 (.p 2 (.p 4 (.p 5 (.p 6 (.p 7 (.p 9 (.q 3 (.q 8 (.p 10 (.p 11 (.q 12 (.e 13 (.e 14 (.e 15 (.p 16 (.p 17 (.e 18 .fin .nil))) .nil) .nil) .nil)))))))))))))) [3, 8, 12, 13, 14, 15] [0, 1, 2, 4, 5, 6, 7, 9, 10, 11, 16, 17] hm [0, 2, 3, 5, 6, 7, 8, 9, 10, 11, 12] [ow [aa] aD.next_, ow [aZ] aD.phis, blk aY [(nV aB.op), (nV aB.to), aL, (nV aB.n_)] 61, blk bp0 [(nV c_.params), (nV c_.regs), (sV aG aH c_.blocks.length aF)] 44, hole2E aG aH c_.blocks.length aF (aE.1 : List Block_) (aT).toNat [aI, (sV aO aP aA.ins.length aK), (nV aA.jump), (nV aA.on), aJ] (aV.1).toNat [aZ, ac, (nV aD.jump), (nV aD.on), aa], ow [aI] aA.phis, drnS (sV aO aP aA.ins.length aK) (aA.ins : List Ins_) (aW), ow [aJ] aA.next_, ow [(.slice aM aC.length aN)] aC, ow [(.slice aS aQ.length aR)] aE.2.2.1, ow [aX] aE.2.2.2] rfl mxo (by kernel_rfl) (fun _ _ _ h => h.2) fun w hm hS => tP rfl (fun w => yM rfl) (tP rfl (fun w => yG rfl (y_nilptr rfl rfl)) (tP rfl (fun w => yF fo_44_2 rfl) (tP rfl (fun w => yM rfl) (tP rfl (fun w => yM rfl) (tP rfl (fun w => yG rfl (y_nilptr rfl rfl)) (tP rfl (fun w => yF fo_44_2 rfl) (tP rfl (fun w => yM rfl) (tQ rfl hS (fun w hm => yL hm 3 isAgg42 rfl) (tQ rfl hS (fun w hm => yL hm 3 isAgg42 rfl) ?_)))))))))
        have hL5_1 := hm.hole2E_len 6 rfl
        refine tP rfl (fun w => yI st_42 bV (idx_lt2 bW hL5_1) rfl) (tP rfl (fun w => yF fo_59_1 rfl) (tQ rfl hS (fun w hm => yl isAgg56 ((hm.hole2E_at2 4 rfl).cell (j := 1) rfl) rfl) (tO (tY rfl (yn (hm.blk_at 3 rfl) isAgg61 sizeOf61 rfl) (tAs hS (tO (tf rfl rfl (fun a hf => e_build (vs := #[(0, (.agg #[(nV aB.op), (nV aB.to), aL, (nV aB.n_)]))]) (cs := [(nV aB.op), (nV aB.to), aL, (nV aB.n_)]) et_56 hf hm rfl rfl (by kernel_rfl) rfl rfl) ?_)))))))
        rintro _ w ⟨bM, rfl, hm⟩
        replace hm := hm.els_nil (α := Ins_)
        replace hm : Mem w0 hz _ [els [] ([] : List Ins_), blk bM [(nV aB.op), (nV aB.to), aL, (nV aB.n_)] 61, ow [aa] aD.next_, ow [ac] aD.ins, ow [aZ] aD.phis, blk aY [(nV aB.op), (nV aB.to), aL, (nV aB.n_)] 61, ow [(nV aB.op), (nV aB.to), aL, (nV aB.n_)] (aB : Ins_), blk bp0 [(nV c_.params), (nV c_.regs), (sV aG aH c_.blocks.length aF)] 44, hole2E aG aH c_.blocks.length aF (aE.1 : List Block_) (aT).toNat [aI, (sV aO aP aA.ins.length aK), (nV aA.jump), (nV aA.on), aJ] (aV.1).toNat [aZ, ac, (nV aD.jump), (nV aD.on), aa], ow [aI] aA.phis, drnS (sV aO aP aA.ins.length aK) (aA.ins : List Ins_) (aW), ow [aJ] aA.next_, ow [(.slice aM aC.length aN)] aC, ow [(.slice aS aQ.length aR)] aE.2.2.1, ow [aX] aE.2.2.2] := mk_Ins_ aB.op aB.to aB.n_ hm 6 rfl
        replace hm := (hm.els_cons 0 6 (by decide) rfl rfl).pk (L' := [els [(nV aB.op), (nV aB.to), aL, (nV aB.n_)] ([aB] : List Ins_), blk bM [(nV aB.op), (nV aB.to), aL, (nV aB.n_)] 61, ow [aa] aD.next_, ow [ac] aD.ins, ow [aZ] aD.phis, blk aY [(nV aB.op), (nV aB.to), aL, (nV aB.n_)] 61, blk bp0 [(nV c_.params), (nV c_.regs), (sV aG aH c_.blocks.length aF)] 44, hole2E aG aH c_.blocks.length aF (aE.1 : List Block_) (aT).toNat [aI, (sV aO aP aA.ins.length aK), (nV aA.jump), (nV aA.on), aJ] (aV.1).toNat [aZ, ac, (nV aD.jump), (nV aD.on), aa], ow [aI] aA.phis, drnS (sV aO aP aA.ins.length aK) (aA.ins : List Ins_) (aW), ow [aJ] aA.next_, ow [(.slice aM aC.length aN)] aC, ow [(.slice aS aQ.length aR)] aE.2.2.1, ow [aX] aE.2.2.2]) [0, 1, 2, 3, 4, 5, 7, 8, 9, 10, 11, 12, 13, 14] rfl rfl
        replace hm := (hm.lit_els 1 0 (by decide) rfl rfl rfl rfl).pk (L' := [ow [(sV bM 0 1 1)] ([aB] : List Ins_), ow [aa] aD.next_, ow [ac] aD.ins, ow [aZ] aD.phis, blk aY [(nV aB.op), (nV aB.to), aL, (nV aB.n_)] 61, blk bp0 [(nV c_.params), (nV c_.regs), (sV aG aH c_.blocks.length aF)] 44, hole2E aG aH c_.blocks.length aF (aE.1 : List Block_) (aT).toNat [aI, (sV aO aP aA.ins.length aK), (nV aA.jump), (nV aA.on), aJ] (aV.1).toNat [aZ, ac, (nV aD.jump), (nV aD.on), aa], ow [aI] aA.phis, drnS (sV aO aP aA.ins.length aK) (aA.ins : List Ins_) (aW), ow [aJ] aA.next_, ow [(.slice aM aC.length aN)] aC, ow [(.slice aS aQ.length aR)] aE.2.2.1, ow [aX] aE.2.2.2]) [1, 2, 3, 4, 5, 6, 7, 8, 9, 10, 11, 12, 13] rfl rfl
        refine tAk hm [1, 3, 4, 5, 6, 7, 8, 9, 10, 11, 12] rfl fun hS => tO (gb fun af bz => ?_)
        obtain ⟨cA, cB⟩ := appM_some.1 bz
        replace hm := (hm.both 2 0 (by decide) rfl rfl).pk (L' := [ow [aa] aD.next_, both (ow [ac] aD.ins) (ow [(sV bM 0 1 1)] ([aB] : List Ins_)), ow [aZ] aD.phis, blk aY [(nV aB.op), (nV aB.to), aL, (nV aB.n_)] 61, blk bp0 [(nV c_.params), (nV c_.regs), (sV aG aH c_.blocks.length aF)] 44, hole2E aG aH c_.blocks.length aF (aE.1 : List Block_) (aT).toNat [aI, (sV aO aP aA.ins.length aK), (nV aA.jump), (nV aA.on), aJ] (aV.1).toNat [aZ, ac, (nV aD.jump), (nV aD.on), aa], ow [aI] aA.phis, drnS (sV aO aP aA.ins.length aK) (aA.ins : List Ins_) (aW), ow [aJ] aA.next_, ow [(.slice aM aC.length aN)] aC, ow [(.slice aS aQ.length aR)] aE.2.2.1, ow [aX] aE.2.2.2]) [1, 2, 3, 4, 5, 6, 7, 8, 9, 10, 11, 12] rfl rfl
        refine tf rfl rfl (fun a hf => e_appendD (xs := aD.ins) (ys := ([aB] : List Ins_)) 1 et_56 hf hm rfl rfl rfl rfl cA) ?_
        rintro ah w hm
        rw [cB] at hm
        refine tAk hm [0, 2, 3, 4, 5, 6, 7, 8, 9, 10, 11] rfl fun hS => ?_
        have hL5_2 := hm.hole2E_len 5 rfl
        refine tP rfl (fun w => yI st_42 bV (idx_lt2 bW hL5_2) rfl) (tP rfl (fun w => yF fo_59_1 rfl) (tO ?_))
        have bc : ∀ u ∈ ([ah] : List Value), u.oneCell' = true := (one_cons (rep_one (hm.ow_rep 1 rfl)) one_nil)
        replace hm : Mem w0 hz _ [ow [aa] aD.next_, ow [ah] af, ow [aZ] aD.phis, blk aY [(nV aB.op), (nV aB.to), aL, (nV aB.n_)] 61, blk bp0 [(nV c_.params), (nV c_.regs), (sV aG aH c_.blocks.length aF)] 44, hole2E aG aH c_.blocks.length aF (aE.1 : List Block_) (aV.1).toNat [aZ, ac, (nV aD.jump), (nV aD.on), aa] (aT).toNat [aI, (sV aO aP aA.ins.length aK), (nV aA.jump), (nV aA.on), aJ], ow [aI] aA.phis, drnS (sV aO aP aA.ins.length aK) (aA.ins : List Ins_) (aW), ow [aJ] aA.next_, ow [(.slice aM aC.length aN)] aC, ow [(.slice aS aQ.length aR)] aE.2.2.1, ow [aX] aE.2.2.2] := hm.hole2E_swap 5 rfl
        refine tf0 rfl rfl (fun a hf => e_storeH2 (j := 1) (vs := [ah]) 5 hf hm rfl rfl rfl sizeOf56 rfl rfl (cells_one (bc _ (List.mem_singleton.2 rfl))) bc rfl) ?_
        rintro _ w hm
        replace hm : Mem w0 hz _ [ow [aa] aD.next_, ow [ah] af, ow [aZ] aD.phis, blk aY [(nV aB.op), (nV aB.to), aL, (nV aB.n_)] 61, blk bp0 [(nV c_.params), (nV c_.regs), (sV aG aH c_.blocks.length aF)] 44, hole2E aG aH c_.blocks.length aF (aE.1 : List Block_) (aV.1).toNat [aZ, ah, (nV aD.jump), (nV aD.on), aa] (aT).toNat [aI, (sV aO aP aA.ins.length aK), (nV aA.jump), (nV aA.on), aJ], ow [aI] aA.phis, drnS (sV aO aP aA.ins.length aK) (aA.ins : List Ins_) (aW), ow [aJ] aA.next_, ow [(.slice aM aC.length aN)] aC, ow [(.slice aS aQ.length aR)] aE.2.2.1, ow [aX] aE.2.2.2] := hm
        refine tAn rfl (tE (gS ?_))
        replace hm : Mem w0 hz _ [ow [aa] aD.next_, ow [ah] af, ow [aZ] aD.phis, blk aY [(nV aB.op), (nV aB.to), aL, (nV aB.n_)] 61, blk bp0 [(nV c_.params), (nV c_.regs), (sV aG aH c_.blocks.length aF)] 44, hole2E aG aH c_.blocks.length aF (aE.1 : List Block_) (aT).toNat [aI, (sV aO aP aA.ins.length aK), (nV aA.jump), (nV aA.on), aJ] (aV.1).toNat [aZ, ah, (nV aD.jump), (nV aD.on), aa], ow [aI] aA.phis, drnS (sV aO aP aA.ins.length aK) (aA.ins : List Ins_) (aW), ow [aJ] aA.next_, ow [(.slice aM aC.length aN)] aC, ow [(.slice aS aQ.length aR)] aE.2.2.1, ow [aX] aE.2.2.2] := hm.hole2E_swap 5 rfl
        replace hm := (mk_Block_ aD.jump aD.on hm 2 1 0 rfl).pk (L' := [ow [aZ, ah, (nV aD.jump), (nV aD.on), aa] ((⟨aD.phis, af, aD.jump, aD.on, aD.next_⟩ : Block_) : Block_), blk aY [(nV aB.op), (nV aB.to), aL, (nV aB.n_)] 61, blk bp0 [(nV c_.params), (nV c_.regs), (sV aG aH c_.blocks.length aF)] 44, hole2E aG aH c_.blocks.length aF (aE.1 : List Block_) (aT).toNat [aI, (sV aO aP aA.ins.length aK), (nV aA.jump), (nV aA.on), aJ] (aV.1).toNat [aZ, ah, (nV aD.jump), (nV aD.on), aa], ow [aI] aA.phis, drnS (sV aO aP aA.ins.length aK) (aA.ins : List Ins_) (aW), ow [aJ] aA.next_, ow [(.slice aM aC.length aN)] aC, ow [(.slice aS aQ.length aR)] aE.2.2.1, ow [aX] aE.2.2.2]) [2, 3, 4, 5, 6, 7, 8, 9, 10, 11] rfl rfl
        replace hm := (hm.shut2E (y := ((⟨aD.phis, af, aD.jump, aD.on, aD.next_⟩ : Block_) : Block_)) 3 0 (by decide) rfl rfl).pk (L' := [blk aY [(nV aB.op), (nV aB.to), aL, (nV aB.n_)] 61, blk bp0 [(nV c_.params), (nV c_.regs), (sV aG aH c_.blocks.length aF)] 44, holeE aG aH c_.blocks.length aF ((aE.1.set (aV.1).toNat (⟨aD.phis, af, aD.jump, aD.on, aD.next_⟩ : Block_)) : List Block_) (aT).toNat [aI, (sV aO aP aA.ins.length aK), (nV aA.jump), (nV aA.on), aJ], ow [aI] aA.phis, drnS (sV aO aP aA.ins.length aK) (aA.ins : List Ins_) (aW), ow [aJ] aA.next_, ow [(.slice aM aC.length aN)] aC, ow [(.slice aS aQ.length aR)] aE.2.2.1, ow [aX] aE.2.2.2]) [1, 2, 3, 4, 5, 6, 7, 8, 9] rfl rfl
        have dF : ((aE.1.set (aV.1).toNat (⟨aD.phis, af, aD.jump, aD.on, aD.next_⟩ : Block_)) : List Block_)[(aT).toNat]? = some bt := (List.getElem?_set_ne (Ne.symm (Ne.symm (Ne.symm bL)))).trans bU
        refine gR (gM rfl (gF fo_61_1 rfl (gL hm 0 isAgg3 rfl (gM rfl (gf rfl (fun a hf => e_build (vs := #[(0, (nV aV.1)), (1, (nV 0))]) (cs := [(nV aV.1), (nV 0)]) et_57 hf hm rfl rfl (by kernel_rfl) rfl rfl) ?_)))))
        rintro _ w ⟨az, rfl, hm⟩
        replace hm := hm.lit (xs := ([aV.1, 0] : List Int)) 0 rfl rfl rfl rfl
        refine gf rfl (fun a hf => e_build (vs := #[(0, (sV az 0 2 2))]) (cs := [(sV az 0 2 2)]) et_64 hf hm rfl rfl (by kernel_rfl) rfl rfl) ?_
        rintro _ w ⟨bA, rfl, hm⟩
        replace hm := hm.els_nil (α := List Int)
        replace hm := hm.imp (c' := ow [(sV az 0 2 2)] (([aV.1, 0] : List Int) : List Int)) 2 rfl (fun F h0 => h0)
        replace hm := (hm.els_cons 0 2 (by decide) rfl rfl).pk (L' := [els [(sV az 0 2 2)] ([([aV.1, 0] : List Int)] : List (List Int)), blk bA [(sV az 0 2 2)] 57, blk aY [(nV aB.op), (nV aB.to), aL, (nV aB.n_)] 61, blk bp0 [(nV c_.params), (nV c_.regs), (sV aG aH c_.blocks.length aF)] 44, holeE aG aH c_.blocks.length aF ((aE.1.set (aV.1).toNat (⟨aD.phis, af, aD.jump, aD.on, aD.next_⟩ : Block_)) : List Block_) (aT).toNat [aI, (sV aO aP aA.ins.length aK), (nV aA.jump), (nV aA.on), aJ], ow [aI] aA.phis, drnS (sV aO aP aA.ins.length aK) (aA.ins : List Ins_) (aW), ow [aJ] aA.next_, ow [(.slice aM aC.length aN)] aC, ow [(.slice aS aQ.length aR)] aE.2.2.1, ow [aX] aE.2.2.2]) [0, 1, 3, 4, 5, 6, 7, 8, 9, 10, 11] rfl rfl
        replace hm := (hm.lit_els 1 0 (by decide) rfl rfl rfl rfl).pk (L' := [ow [(sV bA 0 1 1)] ([([aV.1, 0] : List Int)] : List (List Int)), blk aY [(nV aB.op), (nV aB.to), aL, (nV aB.n_)] 61, blk bp0 [(nV c_.params), (nV c_.regs), (sV aG aH c_.blocks.length aF)] 44, holeE aG aH c_.blocks.length aF ((aE.1.set (aV.1).toNat (⟨aD.phis, af, aD.jump, aD.on, aD.next_⟩ : Block_)) : List Block_) (aT).toNat [aI, (sV aO aP aA.ins.length aK), (nV aA.jump), (nV aA.on), aJ], ow [aI] aA.phis, drnS (sV aO aP aA.ins.length aK) (aA.ins : List Ins_) (aW), ow [aJ] aA.next_, ow [(.slice aM aC.length aN)] aC, ow [(.slice aS aQ.length aR)] aE.2.2.1, ow [aX] aE.2.2.2]) [1, 2, 3, 4, 5, 6, 7, 8, 9, 10] rfl rfl
        refine gg fun cC cD bB => ?_
        obtain ⟨bd, be, dG, he⟩ := idx_form' (hm.ow_rep 8 rfl) bB
        obtain ⟨rfl, _, rfl⟩ := sl3 he
        obtain ⟨_, _, bf, cE⟩ := ro_get' (hm.ow_rep 8 rfl) bB
        have bX := cE
        obtain ⟨bg, rfl, -⟩ := id bX
        replace bX : GT.rep (hp _) [bg] cC := bX
        replace bf : CellsAt (hp _) bd (be + (aB.to).toNat * 1) [bg] := bf
        have hL5_3 := rep_slice_len (hm.ow_rep 8 rfl)
        refine gI st_70 cD (idx_lt2 bB hL5_3) rfl ?_
        replace hm := hm.imp (c' := ow [(sV bA 0 1 1)] (([([aV.1, 0] : List Int)] : List (List Int)) : List (List Int))) 0 rfl (fun F h0 => h0)
        replace hm := (hm.both 8 0 (by decide) rfl rfl).pk (L' := [blk aY [(nV aB.op), (nV aB.to), aL, (nV aB.n_)] 61, blk bp0 [(nV c_.params), (nV c_.regs), (sV aG aH c_.blocks.length aF)] 44, holeE aG aH c_.blocks.length aF ((aE.1.set (aV.1).toNat (⟨aD.phis, af, aD.jump, aD.on, aD.next_⟩ : Block_)) : List Block_) (aT).toNat [aI, (sV aO aP aA.ins.length aK), (nV aA.jump), (nV aA.on), aJ], ow [aI] aA.phis, drnS (sV aO aP aA.ins.length aK) (aA.ins : List Ins_) (aW), ow [aJ] aA.next_, ow [(.slice aM aC.length aN)] aC, both (ow [(sV bd be aQ.length aR)] aE.2.2.1) (ow [(sV bA 0 1 1)] (([([aV.1, 0] : List Int)] : List (List Int)) : List (List Int))), ow [aX] aE.2.2.2]) [1, 2, 3, 4, 5, 6, 7, 8, 9] rfl rfl
        refine gf0 rfl (fun a hf => e_putElem (x1 := (([([aV.1, 0] : List Int)] : List (List Int)) : List (List Int))) (vs := [(sV bA 0 1 1)]) 7 hf hm rfl bB rfl sizeOf64 rfl rfl rfl rfl) ?_
        rintro _ w hm
        have dH := List.getElem?_set_self (a := (([([aV.1, 0] : List Int)] : List (List Int)) : List (List Int))) (idx_lt bB)
        exact gE (gR (gA rfl (gE (gZ fun a hf => ⟨aX, hf.sb rfl, hm.pk [1, 2, 3, 4, 5, 6, 7, 8] rfl rfl⟩))))
       refine gcf rfl (gR (gM rfl (gY (yn (hm.blk_at 0 rfl) isAgg61 sizeOf61 rfl) (gf rfl (fun a hf => e_build (vs := #[(0, (.agg #[(nV aB.op), (nV aB.to), aL, (nV aB.n_)]))]) (cs := [(nV aB.op), (nV aB.to), aL, (nV aB.n_)]) et_56 hf hm rfl rfl (by kernel_rfl) rfl rfl) ?_))))
       rintro _ w ⟨bN, rfl, hm⟩
       replace hm := hm.els_nil (α := Ins_)
       replace hm : Mem w0 hz _ [els [] ([] : List Ins_), blk bN [(nV aB.op), (nV aB.to), aL, (nV aB.n_)] 61, blk aY [(nV aB.op), (nV aB.to), aL, (nV aB.n_)] 61, ow [(nV aB.op), (nV aB.to), aL, (nV aB.n_)] (aB : Ins_), blk bp0 [(nV c_.params), (nV c_.regs), (sV aG aH c_.blocks.length aF)] 44, holeE aG aH c_.blocks.length aF (aE.1 : List Block_) (aT).toNat [aI, (sV aO aP aA.ins.length aK), (nV aA.jump), (nV aA.on), aJ], ow [aI] aA.phis, drnS (sV aO aP aA.ins.length aK) (aA.ins : List Ins_) (aW), ow [aJ] aA.next_, ow [(.slice aM aC.length aN)] aC, ow [(.slice aS aQ.length aR)] aE.2.2.1, ow [aX] aE.2.2.2] := mk_Ins_ aB.op aB.to aB.n_ hm 3 rfl
       replace hm := (hm.els_cons 0 3 (by decide) rfl rfl).pk (L' := [els [(nV aB.op), (nV aB.to), aL, (nV aB.n_)] ([aB] : List Ins_), blk bN [(nV aB.op), (nV aB.to), aL, (nV aB.n_)] 61, blk aY [(nV aB.op), (nV aB.to), aL, (nV aB.n_)] 61, blk bp0 [(nV c_.params), (nV c_.regs), (sV aG aH c_.blocks.length aF)] 44, holeE aG aH c_.blocks.length aF (aE.1 : List Block_) (aT).toNat [aI, (sV aO aP aA.ins.length aK), (nV aA.jump), (nV aA.on), aJ], ow [aI] aA.phis, drnS (sV aO aP aA.ins.length aK) (aA.ins : List Ins_) (aW), ow [aJ] aA.next_, ow [(.slice aM aC.length aN)] aC, ow [(.slice aS aQ.length aR)] aE.2.2.1, ow [aX] aE.2.2.2]) [0, 1, 2, 4, 5, 6, 7, 8, 9, 10, 11] rfl rfl
       replace hm := (hm.lit_els 1 0 (by decide) rfl rfl rfl rfl).pk (L' := [ow [(sV bN 0 1 1)] ([aB] : List Ins_), blk aY [(nV aB.op), (nV aB.to), aL, (nV aB.n_)] 61, blk bp0 [(nV c_.params), (nV c_.regs), (sV aG aH c_.blocks.length aF)] 44, holeE aG aH c_.blocks.length aF (aE.1 : List Block_) (aT).toNat [aI, (sV aO aP aA.ins.length aK), (nV aA.jump), (nV aA.on), aJ], ow [aI] aA.phis, drnS (sV aO aP aA.ins.length aK) (aA.ins : List Ins_) (aW), ow [aJ] aA.next_, ow [(.slice aM aC.length aN)] aC, ow [(.slice aS aQ.length aR)] aE.2.2.1, ow [aX] aE.2.2.2]) [1, 2, 3, 4, 5, 6, 7, 8, 9, 10] rfl rfl
       refine gb fun dI cF => ?_
       obtain ⟨cG, cH⟩ := appM_some.1 cF
       replace hm := (hm.both 9 0 (by decide) rfl rfl).pk (L' := [blk aY [(nV aB.op), (nV aB.to), aL, (nV aB.n_)] 61, blk bp0 [(nV c_.params), (nV c_.regs), (sV aG aH c_.blocks.length aF)] 44, holeE aG aH c_.blocks.length aF (aE.1 : List Block_) (aT).toNat [aI, (sV aO aP aA.ins.length aK), (nV aA.jump), (nV aA.on), aJ], ow [aI] aA.phis, drnS (sV aO aP aA.ins.length aK) (aA.ins : List Ins_) (aW), ow [aJ] aA.next_, ow [(.slice aM aC.length aN)] aC, ow [(.slice aS aQ.length aR)] aE.2.2.1, both (ow [aX] aE.2.2.2) (ow [(sV bN 0 1 1)] ([aB] : List Ins_))]) [1, 2, 3, 4, 5, 6, 7, 8, 9] rfl rfl
       refine gf rfl (fun a hf => e_appendD (xs := aE.2.2.2) (ys := ([aB] : List Ins_)) 8 et_56 hf hm rfl rfl rfl rfl cG) ?_
       rintro cI w hm
       rw [cH] at hm
       exact gA rfl (gE (gZ fun a hf => ⟨cI, hf.sb rfl, hm.pk [1, 2, 3, 4, 5, 6, 7, 8] rfl rfl⟩))
      repeat clear hm
      rintro ao a w ⟨bK, hf, hm⟩
      exact gv hf (gZ fun a hf => ⟨bK, hf.sb rfl, hm.pk [0, 1, 2, 3, 4, 5, 6, 7] rfl rfl⟩)
     repeat clear hm
     rintro an a w ⟨bG, hf, hm⟩
     refine gv hf (gR (gM rfl (gP (by omega) (by omega) rfl (gA rfl (gE ?_)))))
     replace hm := hm.drnS_next 3 rfl
     exact gZe fun a hf => ⟨bG, hf.sb rfl, hm.pk [0, 1, 2, 3, 4, 5, 6, 7] rfl rfl⟩
    repeat clear hm
    rintro bY ae a w ⟨ap, hf, hm⟩ dJ dK
    refine gv hf (gS (gS (gR (gM rfl (gM rfl (gY (yG rfl (y_nilptr rfl rfl)) (gF fo_44_2 rfl (gL hm 0 isAgg42 rfl (gM rfl ?_)))))))))
    have hL2_1 := hm.holeE_len 1 rfl
    obtain ⟨dL, bZ⟩ := hm.holeE_hx 1 rfl ba
    refine gI st_42 ay (idx_lt2 bZ hL2_1) rfl (gF fo_59_1 rfl (gY (yl isAgg56 ((hm.holeE_at 1 rfl).cell (j := 1) rfl) rfl) (gY (yV st_56 rfl) (gB rfl (gE (go _ 93 rfl (decide_eq_false (by omega)) (gcf rfl (gXt (gHh (gR (gM rfl (gY (yG rfl (y_nilptr rfl rfl)) (gF fo_44_2 rfl (gL hm 0 isAgg42 rfl (gM rfl (gM rfl ?_))))))))))))))))
    have hL2_2 := hm.holeE_len 1 rfl
    refine gI st_42 ay (idx_lt2 bZ hL2_2) rfl (gF fo_59_1 rfl ?_)
    have bh : ∀ u ∈ ([ap] : List Value), u.oneCell' = true := (one_cons (rep_one (hm.ow_rep 7 rfl)) one_nil)
    refine gf0 rfl (fun a hf => e_storeH (j := 1) (vs := [ap]) 1 hf hm rfl rfl rfl sizeOf56 rfl rfl (cells_one (bh _ (List.mem_singleton.2 rfl))) bh rfl) ?_
    rintro _ w hm
    replace hm : Mem w0 hz _ [blk bp0 [(nV c_.params), (nV c_.regs), (sV aG aH c_.blocks.length aF)] 44, holeE aG aH c_.blocks.length aF (ae.1 : List Block_) (aT).toNat [aI, ap, (nV aA.jump), (nV aA.on), aJ], ow [aI] aA.phis, drnV (.slice aj aA.ins.length aK) (aA.ins : List Ins_) (bY), ow [aJ] aA.next_, ow [(.slice aM aC.length aN)] aC, ow [(.slice aS aQ.length aR)] ae.2.2.1, ow [ap] ae.2.2.2] := hm
    refine gE ?_
    replace hm := (mk_Block_ aA.jump aA.on hm 2 7 4 rfl).pk (L' := [blk bp0 [(nV c_.params), (nV c_.regs), (sV aG aH c_.blocks.length aF)] 44, holeE aG aH c_.blocks.length aF (ae.1 : List Block_) (aT).toNat [aI, ap, (nV aA.jump), (nV aA.on), aJ], ow [aI, ap, (nV aA.jump), (nV aA.on), aJ] ((⟨aA.phis, ae.2.2.2, aA.jump, aA.on, aA.next_⟩ : Block_) : Block_), drnV (.slice aj aA.ins.length aK) (aA.ins : List Ins_) (bY), ow [(.slice aM aC.length aN)] aC, ow [(.slice aS aQ.length aR)] ae.2.2.1]) [0, 1, 2, 3, 5, 6] rfl rfl
    replace hm := (hm.shutE (y := ((⟨aA.phis, ae.2.2.2, aA.jump, aA.on, aA.next_⟩ : Block_) : Block_)) 1 2 (by decide) rfl rfl).pk (L' := [blk bp0 [(nV c_.params), (nV c_.regs), (sV aG aH c_.blocks.length aF)] 44, ow [(sV aG aH c_.blocks.length aF)] (ae.1.set (aT).toNat (⟨aA.phis, ae.2.2.2, aA.jump, aA.on, aA.next_⟩ : Block_)), drnV (.slice aj aA.ins.length aK) (aA.ins : List Ins_) (bY), ow [(.slice aM aC.length aN)] aC, ow [(.slice aS aQ.length aR)] ae.2.2.1]) [0, 1, 3, 4, 5] rfl rfl
    have dM := List.getElem?_set_self (a := ((⟨aA.phis, ae.2.2.2, aA.jump, aA.on, aA.next_⟩ : Block_) : Block_)) (idx_lt bZ)
    exact gz hm [0, 1, 3, 4] rfl
   repeat clear hm
   intro am w hm
   exact gR (gM rfl (gP (by omega) (by omega) rfl (gA rfl (gE (gze hm [0, 1, 2, 3] rfl)))))
  repeat clear hm
  intro dN dO w hm dP dQ
  refine gS (gS (gR (gM rfl (gM rfl ?_))))
  obtain ⟨dR, dS, rfl, dT⟩ := ro_slice h2
  exact gY (yV st_57 rfl) (gB rfl (gE (go _ 71 rfl (decide_eq_false (by omega)) (gcf rfl (gXt (gHh (gS (gR (gM rfl (gA rfl (gE (gRt (gr1 results234 rfl ⟨(.slice ab c_.blocks.length aF), rfl, hm.pk [0, 1] rfl rfl⟩)))))))))))))
theorem spec_l17Hoist_ok (w0 : World) (c_ : Code_) (v1 : Value) (h1 : GT.rep (hp w0) [v1] c_.blocks) :
    ConM Tryz.prog 173 [(.agg #[(nV c_.params), (nV c_.regs), v1])] w0 (spec_l17Hoist c_) fun r v w' => ∃ (x1 : Value), v = (.agg #[(nV r.params), (nV r.regs), x1]) ∧ Mem w0 (hp w0) w' [ow [x1] r.blocks] := by
  unfold spec_l17Hoist
  refine gcon func173 rfl fun r => ?_
  have hm := Mem.start w0
  refine gS (gR (gBx hm rfl fun af w hm => gAl hm zeroValue44 rfl fun aF w hm => gE (gS (gR (gY (yn (hm.blk_at 1 rfl) isAgg44 sizeOf44 rfl) (gCg rfl call65 (spec_l7Copy_ok _ c_ v1 (hm.now h1)) ?_))))))
  rintro aQ bA bB w ⟨aY, rfl, hB⟩
  replace hm := hm.give hB; clear hB
  refine gAl hm zeroValue44 rfl fun aC w hm => gSN hm 0 sizeOf44 (one_cons rfl (one_cons rfl (one_cons (rep_one (hm.ow_rep 1 rfl)) one_nil))) rfl fun w hm => gE (gS (gR (gY (yn (hm.blk_at 3 rfl) isAgg44 sizeOf44 rfl) (gCg rfl call212 (spec_l11Doms_ok _ c_ v1 (hm.now h1)) ?_))))
  rintro aA bC aV w ⟨_, rfl, hB⟩
  replace hm := hm.give hB; clear hB
  refine gA rfl (gE (gS (gR (gM rfl (gCg rfl call226 (spec_l11Idoms_ok _ aA aV (hm.ow_rep 0 rfl)) ?_)))))
  rintro aZ bD aa w ⟨_, rfl, hB⟩
  replace hm := hm.give hB; clear hB
  refine gf rfl (fun a hf => e_build0 (α := Int) et_57 hm rfl) ?_
  rintro ab w hm
  obtain ⟨ag, hle, hm1, hsub, ah⟩ := hm.take2 (L1 := [ow [ab] ([] : List Int)]) (L2 := [ow [aa] aZ, ow [aV] aA, blk aC [(nV aQ.params), (nV aQ.regs), aY] 44, ow [aY] aQ.blocks, blk aF [(nV 0), (nV 0), (.slice none 0 0)] 44, blk af [(nV c_.params), (nV c_.regs), v1] 44]) [0] [1, 2, 3, 4, 5, 6] (by decide) rfl rfl
  refine gCg rfl call232 (spec_l11Down_ok _ ag aZ aa (fz_ow (hsub 0 _ rfl)) 0 ([] : List Int) ab hm1 ) ?_
  rintro aB bE bF w ⟨_, rfl, hB⟩
  replace hm := ah _ _ hB; clear hB
  refine gA rfl (gE (gS (gR (gY (yn (hm.blk_at 6 rfl) isAgg44 sizeOf44 rfl) (gM rfl (gCg rfl call233 (spec_l17Heads_ok _ c_ v1 (hm.now h1) aA aV (hm.ow_rep 2 rfl)) ?_))))))
  rintro aD bG bH w ⟨_, rfl, hB⟩
  replace hm := hm.give hB; clear hB
  refine gA rfl (gE (gS (gS (gR (gA rfl (gE ?_))))))
  obtain ⟨ai, aj, rfl, bJ⟩ := ro_slice (hm.ow_rep 5 rfl)
  obtain ⟨aG, aH, rfl, bK⟩ := ro_slice (hm.ow_rep 3 rfl)
  obtain ⟨aI, aJ, rfl, bL⟩ := ro_slice (hm.ow_rep 1 rfl)
  obtain ⟨aL, aK, rfl, bM⟩ := ro_slice (hm.ow_rep 0 rfl)
  refine gJg (fun aP a w => ∃ (aR : Value), St 38 [(2, (pV aF)), (3, (pV aC))] w0 (hp w0) [blk aF [(nV 0), (nV 0), (.slice none 0 0)] 44, blk aC [(nV aP.1), (nV aP.2.1), aR] 44, ow [aR] aP.2.2] a w) (fun aP => ?_) ?_
  ·
   refine gBk (gMg (fun aM a w => ∃ (aS : Value), St 38 [(2, (pV aF)), (3, (pV aC)), (4, (.slice aG aA.length aH)), (5, (.slice aI aB.length aJ)), (6, (.slice aL aD.length aK)), (7, (.bool (aM.2.2.2)))] w0 (hp w0) [blk aF [(nV 0), (nV 0), (.slice none 0 0)] 44, blk aC [(nV aM.1), (nV aM.2.1), aS] 44, ow [aS] aM.2.2.1, ow [(.slice aG aA.length aH)] aA, ow [(.slice aI aB.length aJ)] aB, ow [(.slice aL aD.length aK)] aD] a w) (fun a hf => ⟨(.slice ai aQ.blocks.length aj), hf.sb rfl, hm.pk [6, 4, 5, 3, 1, 0] rfl rfl⟩) ?_)
   repeat clear hm
   rintro bN ak aM a w ⟨aS, hf, hm⟩ bO am
   refine gv hf (gS (gS (gR (gM rfl (gE (gs 20 rfl (fun an => ?_) fun an => ?_))))))
   ·
    refine gct rfl (gSk (gBk (gS (gR (gA rfl (gE (gS (gR (gA rfl (gE ?_))))))))))
    obtain ⟨ao, ap, rfl, bP⟩ := ro_slice (hm.ow_rep 2 rfl)
    refine gBk (gNg (fun aW aE a w => ∃ (aN : Value), St 38 [(2, (pV aF)), (3, (pV aC)), (4, (.slice aG aA.length aH)), (5, (.slice aI aB.length aJ)), (6, (.slice aL aD.length aK)), (7, (.bool (aE.2.2.2))), (8, (nV aW))] w0 (hp w0) [blk aF [(nV 0), (nV 0), (.slice none 0 0)] 44, blk aC [(nV aE.1), (nV aE.2.1), aN] 44, ow [aN] aE.2.2.1, ow [(.slice aG aA.length aH)] aA, ow [(.slice aI aB.length aJ)] aB, ow [(.slice aL aD.length aK)] aD] a w) (fun a hf => ⟨(.slice ao aM.2.2.1.length ap), hf.sb rfl, hm.pk [0, 1, 2, 3, 4, 5] rfl rfl⟩) ?_ ?_)
    ·
     repeat clear hm
     rintro _ _ aW aE a w ⟨aN, hf, hm⟩ bQ bR bS _
     refine gv hf (gS (gS (gR (gM rfl (gM rfl (gY (yV st_57 rfl) (gB rfl (gE (go _ 24 rfl (decide_eq_true (by omega)) (gct rfl (gSk (gS (gBk (gJg (fun aO a w => ∃ (aT : Value), St 38 [(2, (pV aF)), (3, (pV aC)), (4, (.slice aG aA.length aH)), (5, (.slice aI aB.length aJ)), (6, (.slice aL aD.length aK)), (7, (.bool (aO.2.2.2))), (8, (nV aW))] w0 (hp w0) [blk aF [(nV 0), (nV 0), (.slice none 0 0)] 44, blk aC [(nV aO.1), (nV aO.2.1), aT] 44, ow [aT] aO.2.2.1, ow [(.slice aG aA.length aH)] aA, ow [(.slice aI aB.length aJ)] aB, ow [(.slice aL aD.length aK)] aD] a w) (fun aO => ?_) ?_))))))))))))))
     ·
      refine gR (gM rfl (gM rfl (gM rfl (gM rfl (gg fun ac aq aX => ?_)))))
      obtain ⟨ar, au, bT, he⟩ := idx_form (hm.ow_rep 5 rfl) aX
      obtain ⟨rfl, _, rfl⟩ := sl3 he
      refine gI st_57 aq (idx_lt aX) rfl (gY (yl isAgg3 ((flat_cells (cs := [(nV ac)]) (hm.ow_rep 5 rfl) aX rfl).cell (j := 0) rfl) rfl) ?_)
      obtain ⟨aw, hle, hm1, hsub, ax⟩ := hm.take2 (L1 := [blk aC [(nV aE.1), (nV aE.2.1), aN] 44, ow [aN] aE.2.2.1]) (L2 := [blk aF [(nV 0), (nV 0), (.slice none 0 0)] 44, ow [(.slice aG aA.length aH)] aA, ow [(.slice aI aB.length aJ)] aB, ow [(sV ar au aD.length aK)] aD]) [1, 2] [0, 3, 4, 5] (by decide) rfl rfl
      refine gCg rfl call234 (spec_l17Loop_ok _ aw (⟨aE.1, aE.2.1, aE.2.2.1⟩ : Code_) aC aN aA (.slice aG aA.length aH) (fz_ow (hsub 1 _ rfl)) aB (.slice aI aB.length aJ) (fz_ow (hsub 2 _ rfl)) ac hm1 ) ?_
      rintro bU bV bW w ⟨ae, rfl, hB⟩
      replace hm := ax _ _ hB; clear hB
      refine gM rfl (gs 34 rfl (fun ay => ?_) fun ay => ?_)
      ·
       exact gO rfl (gKt rfl (gA rfl (gE (gZ fun a hf => ⟨ae, hf.sb rfl, hm.pk [2, 0, 1, 3, 4, 5] rfl rfl⟩))))
      exact gM rfl (gKf rfl (gA rfl (gE (gZ fun a hf => ⟨ae, hf.sb rfl, hm.pk [2, 0, 1, 3, 4, 5] rfl rfl⟩))))
     repeat clear hm
     rintro aO a w ⟨aT, hf, hm⟩
     exact gv hf (gR (gM rfl (gP (by omega) (by omega) rfl (gA rfl (gE (gZe fun a hf => ⟨aT, hf.sb rfl, hm.pk [0, 1, 2, 3, 4, 5] rfl rfl⟩))))))
    repeat clear hm
    rintro bX bY a w ⟨az, hf, hm⟩ bZ b7
    exact gv hf (gS (gS (gR (gM rfl (gM rfl (gY (yV st_57 rfl) (gB rfl (gE (go _ 24 rfl (decide_eq_false (by omega)) (gcf rfl (gXt (gHh (gZe fun a hf => ⟨az, hf.sb rfl, hm.pk [0, 1, 2, 3, 4, 5] rfl rfl⟩)))))))))))))
   exact gcf rfl (gXt (gHh (gLp am ak (gZ fun a hf => ⟨aS, hf.sb rfl, hm.pk [0, 1, 2] rfl rfl⟩))))
  repeat clear hm
  rintro aP a w ⟨aR, hf, hm⟩
  exact gv hf (gS (gR (gY (yn (hm.blk_at 1 rfl) isAgg44 sizeOf44 rfl) (gSN hm 0 sizeOf44 (one_cons rfl (one_cons rfl (one_cons (rep_one (hm.ow_rep 2 rfl)) one_nil))) rfl fun w hm => gE (gRt (grc 0 results173 hm rfl isAgg44 sizeOf44 ⟨aR, rfl, hm.pk [2] rfl rfl⟩))))))
theorem spec_l10Turn_ok (w0 : World) (c_ : Code_) (v1 : Value) (h1 : GT.rep (hp w0) [v1] c_.blocks) (pass : Str) :
    ConM Tryz.prog 107 [(.agg #[(nV c_.params), (nV c_.regs), v1]), (.string ⟨(pass).b.toArray⟩)] w0 (spec_l10Turn c_ pass) fun r v w' => ∃ (x1 : Value), v = (.agg #[(nV r.params), (nV r.regs), x1]) ∧ Mem w0 (hp w0) w' [ow [x1] r.blocks] := by
  unfold spec_l10Turn
  refine gcon func107 rfl fun r => ?_
  have hm := Mem.start w0
  refine gS (gR (gBx hm rfl fun aM w hm => gAl hm zeroValue44 rfl fun aN w hm => gE (gS (gS (gR (gM rfl (gE (gBk (gS (gR (gY (yG rfl (y_eqls (p := pass) (q := (mkS [114, 101, 97, 99, 104])) rfl rfl rfl)) (gA rfl (gE (gsd 6 rfl (fun aA => ?_) fun aA => ?_))))))))))))))
  ·
   exact gno
  refine gcf rfl (gS (gR (gY (yG rfl (y_eqls (p := pass) (q := (mkS [111, 114, 100, 101, 114])) rfl rfl rfl)) (gA rfl (gE (gsd 10 rfl (fun aB => ?_) fun aB => ?_))))))
  ·
   exact gno
  refine gcf rfl (gS (gR (gY (yG rfl (y_eqls (p := pass) (q := (mkS [115, 112, 108, 105, 116])) rfl rfl rfl)) (gA rfl (gE (gsd 16 rfl (fun aC => ?_) fun aC => ?_))))))
  ·
   exact gno
  refine gcf rfl (gS (gR (gY (yG rfl (y_eqls (p := pass) (q := (mkS [105, 100, 108, 101])) rfl rfl rfl)) (gA rfl (gE (gsd 20 rfl (fun aD => ?_) fun aD => ?_))))))
  ·
   exact gno
  refine gcf rfl (gS (gR (gY (yG rfl (y_eqls (p := pass) (q := (mkS [115, 105, 110, 103, 108, 101])) rfl rfl rfl)) (gA rfl (gE (gsd 24 rfl (fun aE => ?_) fun aE => ?_))))))
  ·
   exact gno
  refine gcf rfl (gS (gR (gY (yG rfl (y_eqls (p := pass) (q := (mkS [107, 110, 111, 119, 110])) rfl rfl rfl)) (gA rfl (gE (gsd 28 rfl (fun aF => ?_) fun aF => ?_))))))
  ·
   exact gno
  refine gcf rfl (gS (gR (gY (yG rfl (y_eqls (p := pass) (q := (mkS [115, 104, 97, 114, 101])) rfl rfl rfl)) (gA rfl (gE (gsd 32 rfl (fun aG => ?_) fun aG => ?_))))))
  ·
   exact gno
  refine gcf rfl (gS (gR (gY (yG rfl (y_eqls (p := pass) (q := (mkS [104, 111, 105, 115, 116])) rfl rfl rfl)) (gA rfl (gE (gsd 36 rfl (fun aH => ?_) fun aH => ?_))))))
  ·
   refine gct rfl (gS (gR (gY (yn (hm.blk_at 1 rfl) isAgg44 sizeOf44 rfl) (gCg rfl call173 (spec_l17Hoist_ok _ c_ v1 (hm.now h1)) ?_))))
   rintro aO aP aQ w ⟨aI, rfl, hB⟩
   replace hm := hm.give hB; clear hB
   exact gSN hm 1 sizeOf44 (one_cons rfl (one_cons rfl (one_cons (rep_one (hm.ow_rep 0 rfl)) one_nil))) rfl fun w hm => gE (gRt (grc 1 results107 hm rfl isAgg44 sizeOf44 ⟨aI, rfl, hm.pk [0] rfl rfl⟩))
  refine gcf rfl (gS (gR (gY (yG rfl (y_eqls (p := pass) (q := (mkS [101, 118, 101, 110])) rfl rfl rfl)) (gA rfl (gE (gsd 40 rfl (fun aJ => ?_) fun aJ => ?_))))))
  ·
   exact gno
  refine gcf rfl (gS (gR (gY (yG rfl (y_eqls (p := pass) (q := (mkS [115, 107, 105, 112])) rfl rfl rfl)) (gA rfl (gE (gsd 44 rfl (fun aK => ?_) fun aK => ?_))))))
  ·
   exact gno
  refine gcf rfl (gS (gR (gY (yG rfl (y_eqls (p := pass) (q := (mkS [106, 111, 105, 110])) rfl rfl rfl)) (gA rfl (gE (gsd 48 rfl (fun aL => ?_) fun aL => ?_))))))
  ·
   exact gno
  exact gno
theorem spec_l10Each_ok (w0 : World) (u : Unit_) (v1 : Value) (h1 : GT.rep (hp w0) [v1] u.codes) (pass : Str) :
    ConM Tryz.prog 59 [(.agg #[v1]), (.string ⟨(pass).b.toArray⟩)] w0 (spec_l10Each u pass) fun r v w' => ∃ (x1 : Value), v = (.tuple #[(.agg #[x1]), (.bool (r.2))]) ∧ Mem w0 (hp w0) w' [ow [x1] r.1.codes] := by
  unfold spec_l10Each
  refine gcon func59 rfl fun r => ?_
  have hm := Mem.start w0
  refine gS (gR (gBx hm rfl fun aD w hm => gAl hm zeroValue28 rfl fun aE w hm => gA rfl (gE (gS (gS (gR (gY (yn (hm.blk_at 1 rfl) isAgg28 sizeOf28 rfl) (gC hm rfl call27 (spec_UnitValid_ok _ u v1 (hm.now h1)) fun ae af w hm => gN rfl (gE (gsn 10 rfl (fun aO => ?_) fun aO => ?_))))))))))
  ·
   refine gct rfl (gS (gR (gY (yG rfl (y_build (vs := []) (cs := #[(.slice none 0 0)]) rfl rfl (by kernel_rfl))) (gSN hm 0 sizeOf28 (one_cons rfl one_nil) rfl fun w hm => gA rfl (gE (gRt ?_))))))
   replace hm := hm.nilow (α := Code_)
   exact grct 1 results59 hm rfl isAgg28 sizeOf28 ⟨(.slice none 0 0), rfl, hm.pk [0] rfl rfl⟩
  refine gcf rfl (gSk (gS (gR (gY (yG rfl (y_build (vs := []) (cs := #[(.slice none 0 0)]) rfl rfl (by kernel_rfl))) (gAl hm zeroValue28 rfl fun aF w hm => gSN hm 0 sizeOf28 (one_cons rfl one_nil) rfl fun w hm => gE (gS (gS (gR (gA rfl (gE (gBk ?_)))))))))))
  replace hm := hm.nilow (α := Code_)
  refine gNg (fun aM aC a w => ∃ (aB : Value), St 37 [(1, (.string ⟨(pass).b.toArray⟩)), (2, (pV aD)), (4, (pV aE)), (6, (pV aF)), (7, (nV aM))] w0 (hp w0) [blk aD [v1] 28, blk aE [(.slice none 0 0)] 28, blk aF [aB] 28, ow [aB] aC] a w) (fun a hf => ⟨(.slice none 0 0), hf.sb rfl, hm.pk [3, 2, 1, 0] rfl rfl⟩) ?_ ?_
  ·
   repeat clear hm
   rintro _ _ aM aC a w ⟨aB, hf, hm⟩ ag ah ai _
   refine gv hf (gS (gS (gR (gM rfl (gF fo_28_0 rfl (gL hm 0 isAgg26 rfl ?_))))))
   obtain ⟨aP, aH, rfl, aj⟩ := ro_slice h1
   refine gY (yV st_26 rfl) (gB rfl (gE (go _ 17 rfl (decide_eq_true (by omega)) (gct rfl (gSk (gS (gBk (gW (.p 0 (.p 2 (.p 4 (.p 7 (.q 1 (.e 3 (.p 5 (.e 6 (.e 8 (.e 9 (.e 10 (.p 11 (.e 12 .fin .nil)) .nil) .nil) .nil) .nil)) .nil)))))) [3, 6, 8, 9] [0, 2, 4, 5, 7, 11] hm [0, 1, 2, 3] [blk aD [(.slice aP u.codes.length aH)] 28, blk aE [(.slice none 0 0)] 28, blk aF [aB] 28, ow [aB] aC] rfl mxo (by kernel_rfl) (fun _ _ _ h => h.2) fun w hm hS => tP rfl (fun w => yF fo_28_0 rfl) (tP rfl (fun w => yF fo_28_0 rfl) (tP rfl (fun w => yM rfl) (tP rfl (fun w => yM rfl) (tQ rfl hS (fun w hm => yL hm 2 isAgg26 rfl) (tO (tY rfl (yL hm 0 isAgg26 rfl) (tAs hS (gg fun aQ aR aL => ?_))))))))))))))))
   obtain ⟨aI, aJ, ak, he⟩ := idx_form' h1 aL
   obtain ⟨rfl, _, rfl⟩ := sl3 he
   obtain ⟨aS, aT, aV⟩ := rk_Code_ h1 aL
   refine tP rfl (fun w => yI st_26 aR (idx_lt aL) rfl) (tO (tY rfl (yn (aT.mono hm.lez) isAgg44 sizeOf44 rfl) (tAs hS (tO (gb fun aA aW => tf rfl rfl (fun a hf => e_call hf rfl call107 rfl (spec_l10Turn_ok _ aQ aS (hm.now aV) pass _ aW)) ?_)))))
   rintro am w ⟨aG, rfl, hB⟩
   replace hm := hm.give hB; clear hB
   refine tAk hm [1, 2, 3, 4] rfl fun hS => tO (tf rfl rfl (fun a hf => e_build (vs := #[(0, (.agg #[(nV aA.params), (nV aA.regs), aG]))]) (cs := [(nV aA.params), (nV aA.regs), aG]) et_26 hf hm rfl rfl (by kernel_rfl) rfl rfl) ?_)
   rintro _ w ⟨aK, rfl, hm⟩
   replace hm := hm.els_nil (α := Code_)
   replace hm : Mem w0 (hp w0) _ [els [] ([] : List Code_), blk aK [(nV aA.params), (nV aA.regs), aG] 44, ow [(nV aA.params), (nV aA.regs), aG] (aA : Code_), blk aD [(sV aI aJ u.codes.length aH)] 28, blk aE [(.slice none 0 0)] 28, blk aF [aB] 28, ow [aB] aC] := mk_Code_ aA.params aA.regs hm 2 rfl
   replace hm := (hm.els_cons 0 2 (by decide) rfl rfl).pk (L' := [els [(nV aA.params), (nV aA.regs), aG] ([aA] : List Code_), blk aK [(nV aA.params), (nV aA.regs), aG] 44, blk aD [(sV aI aJ u.codes.length aH)] 28, blk aE [(.slice none 0 0)] 28, blk aF [aB] 28, ow [aB] aC]) [0, 1, 3, 4, 5, 6] rfl rfl
   replace hm := (hm.lit_els 1 0 (by decide) rfl rfl rfl rfl).pk (L' := [ow [(sV aK 0 1 1)] ([aA] : List Code_), blk aD [(sV aI aJ u.codes.length aH)] 28, blk aE [(.slice none 0 0)] 28, blk aF [aB] 28, ow [aB] aC]) [1, 2, 3, 4, 5] rfl rfl
   refine tAk hm [1, 2, 3, 4] rfl fun hS => tO (gb fun an aX => ?_)
   obtain ⟨aY, aZ⟩ := appM_some.1 aX
   replace hm := (hm.both 4 0 (by decide) rfl rfl).pk (L' := [blk aD [(sV aI aJ u.codes.length aH)] 28, blk aE [(.slice none 0 0)] 28, blk aF [aB] 28, both (ow [aB] aC) (ow [(sV aK 0 1 1)] ([aA] : List Code_))]) [1, 2, 3, 4] rfl rfl
   refine tf rfl rfl (fun a hf => e_appendD (xs := aC) (ys := ([aA] : List Code_)) 3 et_26 hf hm rfl rfl rfl rfl aY) ?_
   rintro aa w hm
   rw [aZ] at hm
   refine tAn rfl (tP rfl (fun w => yF fo_28_0 rfl) (tO (tf0 rfl rfl (fun a hf => e_store1 2 hf hm rfl sizeOf26 rfl rfl rfl (rep_one (hm.ow_rep 3 rfl)) rfl) ?_)))
   rintro _ w hm
   exact tAn rfl (tE (gR (gM rfl (gP (by omega) (by omega) rfl (gA rfl (gE (gZe fun a hf => ⟨aa, hf.sb rfl, hm.pk [0, 1, 2, 3] rfl rfl⟩)))))))
  repeat clear hm
  rintro ao ab a w ⟨aN, hf, hm⟩ ap aq
  refine gv hf (gS (gS (gR (gM rfl (gF fo_28_0 rfl (gL hm 0 isAgg26 rfl ?_))))))
  obtain ⟨ar, au, rfl, aw⟩ := ro_slice h1
  refine gY (yV st_26 rfl) (gB rfl (gE (go _ 17 rfl (decide_eq_false (by omega)) (gcf rfl (gXt (gHh (gS (gS (gR (gY (yn (hm.blk_at 2 rfl) isAgg28 sizeOf28 rfl) (gC hm rfl call27 (spec_UnitValid_ok _ (⟨ab⟩ : Unit_) aN (hm.ow_rep 3 rfl)) fun ax ay w hm => gN rfl (gE (gsn 34 rfl (fun ac => ?_) fun ac => ?_)))))))))))))
  ·
   refine gct rfl (gS (gR (gY (yG rfl (y_build (vs := []) (cs := #[(.slice none 0 0)]) rfl rfl (by kernel_rfl))) (gSN hm 1 sizeOf28 (one_cons rfl one_nil) rfl fun w hm => gA rfl (gE (gRt ?_))))))
   replace hm := hm.nilow (α := Code_)
   exact grct 2 results59 hm rfl isAgg28 sizeOf28 ⟨(.slice none 0 0), rfl, hm.pk [0] rfl rfl⟩
  exact gcf rfl (gSk (gS (gR (gY (yn (hm.blk_at 2 rfl) isAgg28 sizeOf28 rfl) (gSN hm 1 sizeOf28 (one_cons (rep_one (hm.ow_rep 3 rfl)) one_nil) rfl fun w hm => gA rfl (gE (gRt (grct 1 results59 hm rfl isAgg28 sizeOf28 ⟨aN, rfl, hm.pk [3] rfl rfl⟩))))))))
theorem spec_l15Each_ok (w0 : World) (u : Unit_) (v1 : Value) (h1 : GT.rep (hp w0) [v1] u.codes) (pass : Str) :
    ConM Tryz.prog 56 [(.agg #[v1]), (.string ⟨(pass).b.toArray⟩)] w0 (spec_l15Each u pass) fun r v w' => ∃ (x1 : Value), v = (.tuple #[(.agg #[x1]), (.bool (r.2))]) ∧ Mem w0 (hp w0) w' [ow [x1] r.1.codes] := by
  unfold spec_l15Each
  refine gcon func56 rfl fun r => ?_
  have hm := Mem.start w0
  refine gS (gR (gBx hm rfl fun aC w hm => gAl hm zeroValue28 rfl fun aD w hm => gA rfl (gE (gS (gS (gR (gY (yn (hm.blk_at 1 rfl) isAgg28 sizeOf28 rfl) (gC hm rfl call100 (spec_IsSingle_ok _ u v1 (hm.now h1)) fun aE aF w hm => gN rfl (gE (gsn 8 rfl (fun aA => ?_) fun aA => ?_))))))))))
  ·
   refine gct rfl (gS (gR (gY (yG rfl (y_build (vs := []) (cs := #[(.slice none 0 0)]) rfl rfl (by kernel_rfl))) (gSN hm 0 sizeOf28 (one_cons rfl one_nil) rfl fun w hm => gA rfl (gE (gRt ?_))))))
   replace hm := hm.nilow (α := Code_)
   exact grct 1 results56 hm rfl isAgg28 sizeOf28 ⟨(.slice none 0 0), rfl, hm.pk [0] rfl rfl⟩
  refine gcf rfl (gSk (gS (gR (gY (yn (hm.blk_at 1 rfl) isAgg28 sizeOf28 rfl) (gM rfl (gCg rfl call59 (spec_l10Each_ok _ u v1 (hm.now h1) pass) ?_))))))
  rintro aG aH aI w ⟨aB, rfl, hB⟩
  replace hm := hm.give hB; clear hB
  exact gX rfl (gX rfl (gSN hm 1 sizeOf28 (one_cons (rep_one (hm.ow_rep 0 rfl)) one_nil) rfl fun w hm => gA rfl (gE (gRt (grct 1 results56 hm rfl isAgg28 sizeOf28 ⟨aB, rfl, hm.pk [0] rfl rfl⟩)))))
theorem spec_HoistUnit_ok (w0 : World) (u : Unit_) (v1 : Value) (h1 : GT.rep (hp w0) [v1] u.codes) :
    ConM Tryz.prog 22 [(.agg #[v1])] w0 (spec_HoistUnit u) fun r v w' => ∃ (x1 : Value), v = (.tuple #[(.agg #[x1]), (.bool (r.2))]) ∧ Mem w0 (hp w0) w' [ow [x1] r.1.codes] := by
  unfold spec_HoistUnit
  refine gcon func22 rfl fun r => ?_
  have hm := Mem.start w0
  refine gS (gR (gBx hm rfl fun aB w hm => gAl hm zeroValue28 rfl fun aC w hm => gA rfl (gE (gS (gR (gY (yn (hm.blk_at 1 rfl) isAgg28 sizeOf28 rfl) (gCg rfl call56 (spec_l15Each_ok _ u v1 (hm.now h1) (mkS [104, 111, 105, 115, 116])) ?_)))))))
  rintro aD aE aF w ⟨aA, rfl, hB⟩
  replace hm := hm.give hB; clear hB
  exact gX rfl (gX rfl (gSN hm 1 sizeOf28 (one_cons (rep_one (hm.ow_rep 0 rfl)) one_nil) rfl fun w hm => gA rfl (gE (gRt (grct 1 results22 hm rfl isAgg28 sizeOf28 ⟨aA, rfl, hm.pk [0] rfl rfl⟩)))))
theorem impl_within_ok (w0 : World) (n_ : Int) (low : Int) (high : Int) :
    ConM Tryz.prog 43 [(nV n_), (nV low), (nV high)] w0 (impl_within n_ low high) fun r v w' => v = (.bool (r)) ∧ Below w0.heap.size w0 w' := by
  unfold impl_within
  refine gcon func43 rfl fun r => ?_
  have hm := Mem.start w0
  refine gS (gR (gA rfl (gE (gS (gJ hm (fun aA => [(6, (.bool (aA)))]) (fun aA => []) (fun aA => ?_) ?_)))))
  ·
   refine gR (gM rfl (gM rfl (gB rfl (gM rfl (gsd 10 rfl (fun aB => ?_) fun aB => ?_)))))
   ·
    exact gM rfl (gM rfl (gB rfl (gKt rfl (gA rfl (gE (gz hm [] rfl))))))
   exact gO rfl (gO rfl (gO rfl (gKf rfl (gA rfl (gE (gz hm [] rfl))))))
  repeat clear hm
  intro aA w hm
  exact gRt (gr1 results43 rfl ⟨rfl, hm.below⟩)
theorem impl_codeOk_1_ok (w0 : World) (r_ : Int) (c0_ : Code_) (v1 : Value) (h1 : GT.rep (hp w0) [v1] c0_.blocks) (bf0 : Nat) (hbf0 : w0.heap[bf0]? = some (.cells ([(nV c0_.params), (nV c0_.regs), v1] : List Value).toArray 44 (0, 0))) :
    ConM Tryz.prog 145 [(nV r_), (pV bf0)] w0 (impl_codeOk_1 r_ c0_) fun r v w' => v = (.bool (r)) ∧ Below w0.heap.size w0 w' := by
  unfold impl_codeOk_1
  refine gcon func145 rfl fun r => ?_
  have hm := Mem.start w0
  exact gS (gR (gA rfl (gE (gS (gR (gM rfl (gF fo_44_1 rfl (gY (yl isAgg3 (hm.old_cell hbf0 rfl) rfl) (gB rfl (gC hm rfl call43 (impl_within_ok _ r_ 0 (w64 (c0_.regs - 1))) fun aA aB w hm => gA rfl (gE (gRt (gr1 results145 rfl ⟨rfl, hm.below⟩)))))))))))))
theorem impl_nextCount_ok (w0 : World) (jump : Int) :
    ConM Tryz.prog 146 [(nV jump)] w0 (impl_nextCount jump) fun r v w' => v = (nV r) ∧ Below w0.heap.size w0 w' := by
  unfold impl_nextCount
  refine gcon func146 rfl fun r => ?_
  have hm := Mem.start w0
  refine gS (gR (gA rfl (gE (gS (gS (gR (gM rfl (gE (gBk (gS (gR (gB rfl (gA rfl (gE (gsd 4 rfl (fun aA => ?_) fun aA => ?_)))))))))))))))
  ·
   exact gct rfl (gS (gR (gA rfl (gE (gRt (gr1 results146 rfl ⟨rfl, hm.below⟩))))))
  refine gcf rfl (gS (gR (gB rfl (gA rfl (gE (gsd 6 rfl (fun aB => ?_) fun aB => ?_))))))
  ·
   exact gct rfl (gS (gR (gA rfl (gE (gRt (gr1 results146 rfl ⟨rfl, hm.below⟩))))))
  refine gcf rfl (gS (gR (gB rfl (gA rfl (gE (gsd 8 rfl (fun aC => ?_) fun aC => ?_))))))
  ·
   exact gct rfl (gS (gR (gA rfl (gE (gRt (gr1 results146 rfl ⟨rfl, hm.below⟩))))))
  exact gcf rfl (gSk (gS (gR (gA rfl (gE (gRt (gr1 results146 rfl ⟨rfl, hm.below⟩)))))))
theorem impl_usesOn_ok (w0 : World) (jump : Int) :
    ConM Tryz.prog 142 [(nV jump)] w0 (impl_usesOn jump) fun r v w' => v = (.bool (r)) ∧ Below w0.heap.size w0 w' := by
  unfold impl_usesOn
  refine gcon func142 rfl fun r => ?_
  have hm := Mem.start w0
  refine gS (gR (gA rfl (gE (gS (gJ hm (fun aA => [(2, (.bool (aA)))]) (fun aA => []) (fun aA => ?_) ?_)))))
  ·
   refine gR (gM rfl (gB rfl (gM rfl (gsd 5 rfl (fun aB => ?_) fun aB => ?_))))
   ·
    exact gO rfl (gO rfl (gKt rfl (gA rfl (gE (gz hm [] rfl)))))
   exact gM rfl (gB rfl (gKf rfl (gA rfl (gE (gz hm [] rfl)))))
  repeat clear hm
  intro aA w hm
  exact gRt (gr1 results142 rfl ⟨rfl, hm.below⟩)
theorem impl_codeOk_2_ok (w0 : World) (n_ : Int) (c0_ : Code_) (v1 : Value) (h1 : GT.rep (hp w0) [v1] c0_.blocks) (bf0 : Nat) (hbf0 : w0.heap[bf0]? = some (.cells ([(nV c0_.params), (nV c0_.regs), v1] : List Value).toArray 44 (0, 0))) :
    ConM Tryz.prog 148 [(nV n_), (pV bf0)] w0 (impl_codeOk_2 n_ c0_) fun r v w' => v = (.bool (r)) ∧ Below w0.heap.size w0 w' := by
  unfold impl_codeOk_2
  refine gcon func148 rfl fun r => ?_
  have hm := Mem.start w0
  refine gS (gR (gA rfl (gE (gS (gR (gM rfl (gF fo_44_2 rfl (gY (yl isAgg42 (hm.old_cell hbf0 rfl) rfl) ?_))))))))
  obtain ⟨aA, aB, rfl, aC⟩ := ro_slice h1
  exact gY (yV st_42 rfl) (gY (yS (by omega) (by omega) rfl) (gC hm rfl call43 (impl_within_ok _ n_ 1 (((c0_.blocks.length : Int)) - 1)) fun aD aE w hm => gN rfl (gA rfl (gE (gRt (gr1 results148 rfl ⟨rfl, hm.below⟩))))))
theorem slices_IndexFunc_S_int_int_ok (w0 : World) (s_ : List Int) (v1 : Value) (h1 : GT.rep (hp w0) [v1] s_) (f : Int → Option Bool) (fv1 : Value) (hfn1 : ∀ (w : World) (y0 : Int) (r : Bool), Below w0.heap.size w0 w → f y0 = some r → FnOk Tryz.prog fv1 [(nV y0)] w (fun v w' => v = (.bool (r)) ∧ Below w.heap.size w w')) :
    ConM Tryz.prog 206 [v1, fv1] w0 (slices_IndexFunc_S_int_int s_ f) fun r v w' => v = (nV r) ∧ Below w0.heap.size w0 w' := by
  unfold slices_IndexFunc_S_int_int
  refine gcon func206 rfl fun r => ?_
  have hm := Mem.start w0
  refine gS (gR (gA rfl (gE (gS (gS (gR (gM rfl ?_)))))))
  obtain ⟨aE, aF, rfl, aL⟩ := ro_slice h1
  refine gY (yV st_57 rfl) (gM rfl (gE (gBk (gNf hm (fun aA aC => [(0, (.slice aE s_.length aF)), (1, fv1), (7, (nV ((s_.length : Int)))), (8, (nV aA))]) (fun aA aC => []) [] rfl ?_ ?_))))
  ·
   repeat clear hm
   intro aM aG aA aC w hm aN aO aP aH
   refine gS (gR (gB rfl (gE (gS (go _ 9 rfl (decide_eq_true (by omega)) (gct rfl (gSk (gS (gBk (gS (gR (gM rfl (gA rfl (gE (gS (gR (gM rfl (gM rfl (gM rfl (gg fun aD aI aB => ?_))))))))))))))))))))
   obtain ⟨aQ, aR, aS, he⟩ := idx_form h1 aB
   obtain ⟨rfl, _, rfl⟩ := sl3 he
   refine gI st_57 aI (idx_lt aB) rfl (gY (yl isAgg3 ((flat_cells (cs := [(nV aD)]) (hm.now h1) aB rfl).cell (j := 0) rfl) rfl) (gb fun aT aJ => gf rfl (fun a hf => e_callv hf rfl rfl rfl (hfn1 _ aD _ hm.below aJ)) ?_))
   rintro aV w ⟨rfl, hB⟩
   replace hm := hm.below' hB; clear hB
   refine gE (gs 16 rfl (fun aK => ?_) fun aK => ?_)
   ·
    exact gct rfl (gS (gR (gM rfl (gA rfl (gE (gRt (gLr aH aG (gr1 results206 rfl ⟨rfl, hm.below⟩))))))))
   exact gcf rfl (gSk (gR (gP (by omega) (by omega) rfl (gM rfl (gE (gze hm [] rfl))))))
  repeat clear hm
  intro aW aX w hm aY aZ
  exact gS (gR (gB rfl (gE (gS (go _ 9 rfl (decide_eq_false (by omega)) (gcf rfl (gXt (gHh (gS (gR (gA rfl (gE (gRt (gr1 results206 rfl ⟨rfl, hm.below⟩))))))))))))))
theorem slices_ContainsFunc_S_int_int_ok (w0 : World) (s_ : List Int) (v1 : Value) (h1 : GT.rep (hp w0) [v1] s_) (f : Int → Option Bool) (fv1 : Value) (hfn1 : ∀ (w : World) (y0 : Int) (r : Bool), Below w0.heap.size w0 w → f y0 = some r → FnOk Tryz.prog fv1 [(nV y0)] w (fun v w' => v = (.bool (r)) ∧ Below w.heap.size w w')) :
    ConM Tryz.prog 147 [v1, fv1] w0 (slices_ContainsFunc_S_int_int s_ f) fun r v w' => v = (.bool (r)) ∧ Below w0.heap.size w0 w' := by
  unfold slices_ContainsFunc_S_int_int
  refine gcon func147 rfl fun r => ?_
  have hm := Mem.start w0
  exact gS (gR (gA rfl (gE (gS (gR (gM rfl (gM rfl (gC hm rfl call206 (slices_IndexFunc_S_int_int_ok _ s_ v1 (hm.now h1) f fv1 (fun w y0 r hB hq => hfn1 w y0 r (hm.below.trans (hB.mono hm.below.size)) hq)) fun aA aB w hm => gB rfl (gA rfl (gE (gRt (gr1 results147 rfl ⟨rfl, hm.below⟩))))))))))))
theorem impl_insOk_1_ok (w0 : World) (r_ : Int) (c0_ : Code_) (v1 : Value) (h1 : GT.rep (hp w0) [v1] c0_.blocks) (bf0 : Nat) (hbf0 : w0.heap[bf0]? = some (.cells ([(nV c0_.params), (nV c0_.regs), v1] : List Value).toArray 44 (0, 0))) :
    ConM Tryz.prog 208 [(nV r_), (pV bf0)] w0 (impl_insOk_1 r_ c0_) fun r v w' => v = (.bool (r)) ∧ Below w0.heap.size w0 w' := by
  unfold impl_insOk_1
  refine gcon func208 rfl fun r => ?_
  have hm := Mem.start w0
  exact gS (gR (gA rfl (gE (gS (gR (gM rfl (gF fo_44_1 rfl (gY (yl isAgg3 (hm.old_cell hbf0 rfl) rfl) (gB rfl (gC hm rfl call43 (impl_within_ok _ r_ 0 (w64 (c0_.regs - 1))) fun aA aB w hm => gA rfl (gE (gRt (gr1 results208 rfl ⟨rfl, hm.below⟩)))))))))))))
theorem impl_isIns_ok (w0 : World) (op : Int) :
    ConM Tryz.prog 205 [(nV op)] w0 (impl_isIns op) fun r v w' => v = (.bool (r)) ∧ Below w0.heap.size w0 w' := by
  unfold impl_isIns
  refine gcon func205 rfl fun r => ?_
  have hm := Mem.start w0
  exact gS (gR (gA rfl (gE (gS (gR (gM rfl (gC hm rfl call43 (impl_within_ok _ op 1 14) fun aA aB w hm => gA rfl (gE (gRt (gr1 results205 rfl ⟨rfl, hm.below⟩))))))))))
theorem impl_insOk_2_ok (w0 : World) (r_ : Int) (c0_0_ : Code_) (v1 : Value) (h1 : GT.rep (hp w0) [v1] c0_0_.blocks) (aA : Nat) (aB : w0.heap[aA]? = some (.cells ([(nV c0_0_.params), (nV c0_0_.regs), v1] : List Value).toArray 44 (0, 0))) (bf0 : Nat) (hbf0 : w0.heap[bf0]? = some (.cells ([(.func (.func 208) #[] #[(pV aA)])] : List Value).toArray 155 (0, 0))) :
    ConM Tryz.prog 209 [(nV r_), (pV bf0)] w0 (impl_insOk_2 r_ c0_0_) fun r v w' => v = (.bool (r)) ∧ Below w0.heap.size w0 w' := by
  unfold impl_insOk_2
  refine gcon func209 rfl fun r => ?_
  have hm := Mem.start w0
  refine gS (gR (gA rfl (gE (gS (gR (gY (yl isAgg155 (hm.old_cell hbf0 rfl) rfl) (gM rfl (gb fun aD aC => gf rfl (fun a hf => e_callv hf rfl rfl rfl ⟨208, [(pV aA)], rfl, call208, impl_insOk_1_ok _ r_ c0_0_ v1 (rep_later (hm.now h1) (Below.refl _ _)) aA (hm.old_later aB (Below.refl _ _)) _ aC⟩) ?_))))))))
  rintro aE w ⟨rfl, hB⟩
  replace hm := hm.below' hB; clear hB
  exact gN rfl (gA rfl (gE (gRt (gr1 results209 rfl ⟨rfl, hm.below⟩))))
theorem impl_sets_ok (w0 : World) (op : Int) :
    ConM Tryz.prog 141 [(nV op)] w0 (impl_sets op) fun r v w' => v = (.bool (r)) ∧ Below w0.heap.size w0 w' := by
  unfold impl_sets
  refine gcon func141 rfl fun r => ?_
  have hm := Mem.start w0
  refine gS (gR (gA rfl (gE (gS (gJ hm (fun aA => [(2, (.bool (aA)))]) (fun aA => []) (fun aA => ?_) ?_)))))
  ·
   refine gR (gM rfl (gC hm rfl call205 (impl_isIns_ok _ op) fun aD aE w hm => gM rfl (gs 5 rfl (fun aB => ?_) fun aB => ?_)))
   ·
    refine gM rfl (gB rfl (gKt rfl (gM rfl (gsd 9 rfl (fun aC => ?_) fun aC => ?_))))
    ·
     exact gM rfl (gB rfl (gKt rfl (gA rfl (gE (gz hm [] rfl)))))
    exact gO rfl (gO rfl (gKf rfl (gA rfl (gE (gz hm [] rfl)))))
   exact gO rfl (gO rfl (gKf rfl (gM rfl (gO rfl (gO rfl (gKf rfl (gA rfl (gE (gz hm [] rfl)))))))))
  repeat clear hm
  intro aA w hm
  exact gRt (gr1 results141 rfl ⟨rfl, hm.below⟩)
theorem impl_isByte_ok (w0 : World) (n_ : Int) :
    ConM Tryz.prog 210 [(nV n_)] w0 (impl_isByte n_) fun r v w' => v = (.bool (r)) ∧ Below w0.heap.size w0 w' := by
  unfold impl_isByte
  refine gcon func210 rfl fun r => ?_
  have hm := Mem.start w0
  exact gS (gR (gA rfl (gE (gS (gR (gM rfl (gC hm rfl call43 (impl_within_ok _ n_ 0 255) fun aA aB w hm => gA rfl (gE (gRt (gr1 results210 rfl ⟨rfl, hm.below⟩))))))))))
theorem impl_insArgs_ok (w0 : World) (op : Int) :
    ConM Tryz.prog 211 [(nV op)] w0 (impl_insArgs op) fun r v w' => v = (nV r) ∧ Below w0.heap.size w0 w' := by
  unfold impl_insArgs
  refine gcon func211 rfl fun r => ?_
  have hm := Mem.start w0
  refine gS (gR (gA rfl (gE (gS (gS (gR (gM rfl (gE (gBk (gS (gR (gB rfl (gA rfl (gE (gsd 4 rfl (fun aD => ?_) fun aD => ?_)))))))))))))))
  ·
   exact gct rfl (gS (gR (gA rfl (gE (gRt (gr1 results211 rfl ⟨rfl, hm.below⟩))))))
  refine gcf rfl (gS (gS (gR (gB rfl (gA rfl (gE (gJ hm (fun aA => [(6, (.bool (aA)))]) (fun aA => []) (fun aA => ?_) ?_)))))))
  ·
   refine gsd 6 rfl (fun aE => ?_) fun aE => ?_
   ·
    exact gct rfl (gSk (gz hm [] rfl))
   refine gcf rfl (gS (gR (gB rfl (gA rfl (gE (gJ hm (fun aB => [(6, (.bool (aB)))]) (fun aB => []) (fun aB => ?_) ?_))))))
   ·
    refine gsd 6 rfl (fun aF => ?_) fun aF => ?_
    ·
     exact gct rfl (gSk (gz hm [] rfl))
    refine gcf rfl (gS (gR (gB rfl (gA rfl (gE (gJ hm (fun aC => [(6, (.bool (aC)))]) (fun aC => []) (fun aC => ?_) ?_))))))
    ·
     refine gsd 6 rfl (fun aG => ?_) fun aG => ?_
     ·
      exact gct rfl (gSk (gz hm [] rfl))
     exact gcf rfl (gR (gB rfl (gA rfl (gE (gz hm [] rfl)))))
    repeat clear hm
    intro aC w hm
    exact gz hm [] rfl
   repeat clear hm
   intro aB w hm
   exact gz hm [] rfl
  repeat clear hm
  intro aA w hm
  refine gs 6 rfl (fun aH => ?_) fun aH => ?_
  ·
   exact gct rfl (gS (gR (gA rfl (gE (gRt (gr1 results211 rfl ⟨rfl, hm.below⟩))))))
  exact gcf rfl (gSk (gS (gR (gA rfl (gE (gRt (gr1 results211 rfl ⟨rfl, hm.below⟩)))))))
theorem impl_insOk_ok (w0 : World) (u : Unit_) (v1 : Value) (h1 : GT.rep (hp w0) [v1] u.codes) (k_ : Int) (x_ : Ins_) (v2 : Value) (h2 : GT.rep (hp w0) [v2] x_.args) :
    ConM Tryz.prog 151 [(.agg #[v1]), (nV k_), (.agg #[(nV x_.op), (nV x_.to), v2, (nV x_.n_)])] w0 (impl_insOk u k_ x_) fun r v w' => v = (.bool (r)) ∧ Below w0.heap.size w0 w' := by
  unfold impl_insOk
  refine gcon func151 rfl fun r => ?_
  have hm := Mem.start w0
  refine gS (gR (gBx hm rfl fun aA w hm => gBx hm rfl fun aB w hm => gA rfl (gE (gS (gR (gF fo_28_0 rfl (gL hm 1 isAgg26 rfl (gM rfl (gg fun aC aR aN => ?_)))))))))
  obtain ⟨aF, aG, aH, he⟩ := idx_form' h1 aN
  subst he
  obtain ⟨aO, aS, aP⟩ := rk_Code_ h1 aN
  refine gI st_26 aR (idx_lt aN) rfl (gY (yn (aS.mono hm.lez) isAgg44 sizeOf44 rfl) (gAl hm zeroValue44 rfl fun aD w hm => gSN hm 0 sizeOf44 (one_cons rfl (one_cons rfl (one_cons (rep_one aP) one_nil))) rfl fun w hm => gE (gS (gR (gY (yU rfl) (gAl hm zeroValue155 rfl fun aE w hm => gS1 hm 0 sizeOf155 rfl rfl fun w hm => gE (gS (gS (gJ hm (fun aI => [(1, (nV k_)), (3, (pV aA)), (5, (pV aB)), (8, (pV aE)), (24, (.bool (aI)))]) (fun aI => [blk aA [(sV aF aG u.codes.length aH)] 28, blk aB [(nV x_.op), (nV x_.to), v2, (nV x_.n_)] 61, blk aE [(.func (.func 208) #[] #[(pV aD)])] 155, blk aD [(nV aC.params), (nV aC.regs), aO] 44]) (fun aI => ?_) ?_)))))))))
  ·
   refine gR (gF fo_61_0 rfl (gL hm 2 isAgg3 rfl (gC hm rfl call205 (impl_isIns_ok _ x_.op) fun an ao w hm => gN rfl (gM rfl (gsn 19 rfl (fun aT => ?_) fun aT => ?_)))))
   ·
    exact gO rfl (gO rfl (gO rfl (gO rfl (gKt rfl (gE (gz hm [3, 2, 0, 1] rfl))))))
   exact gF fo_61_2 rfl (gL hm 2 isAgg57 rfl (gY (yU rfl) (gC hm rfl call147 (slices_ContainsFunc_S_int_int_ok _ x_.args v2 (hm.now h2) (fun y0 => impl_insOk_2 y0 aC) (.func (.func 209) #[] #[(pV aE)]) (fun w y0 r hB hq => ⟨209, [(pV aE)], rfl, call209, impl_insOk_2_ok w y0 aC aO (rep_later (hm.now aP) hB) aD (hm.blk_later 1 rfl hB) aE (hm.blk_later 0 rfl hB) r hq⟩)) fun ap aq w hm => gKf rfl (gE (gz hm [3, 2, 0, 1] rfl)))))
  repeat clear hm
  intro aI w hm
  refine gs 24 rfl (fun aV => ?_) fun aV => ?_
  ·
   exact gct rfl (gS (gR (gA rfl (gE (gRt (gr1 results151 rfl ⟨rfl, hm.below⟩))))))
  refine gcf rfl (gSk (gS (gS (gJ hm (fun aJ => [(1, (nV k_)), (3, (pV aA)), (5, (pV aB)), (45, (.bool (aJ)))]) (fun aJ => [blk aA [(sV aF aG u.codes.length aH)] 28, blk aB [(nV x_.op), (nV x_.to), v2, (nV x_.n_)] 61]) (fun aJ => ?_) ?_))))
  ·
   refine gR (gF fo_61_0 rfl (gL hm 1 isAgg3 rfl (gC hm rfl call141 (impl_sets_ok _ x_.op) fun ar au w hm => gM rfl (gs 28 rfl (fun aW => ?_) fun aW => ?_))))
   ·
    refine gL hm 2 isAgg155 rfl (gF fo_61_1 rfl (gL hm 1 isAgg3 rfl (gb fun aw aX => gf rfl (fun a hf => e_callv hf rfl rfl rfl ⟨208, [(pV aD)], rfl, call208, impl_insOk_1_ok _ x_.to aC aO (rep_later (hm.now aP) (Below.refl _ _)) aD (hm.blk_later 3 rfl (Below.refl _ _)) _ aX⟩) ?_)))
    rintro ax w ⟨rfl, hB⟩
    replace hm := hm.below' hB; clear hB
    refine gN rfl (gKt rfl (gM rfl (gsn 35 rfl (fun aY => ?_) fun aY => ?_)))
    ·
     exact gO rfl (gO rfl (gO rfl (gO rfl (gO rfl (gO rfl (gO rfl (gO rfl (gO rfl (gKt rfl (gE (gz hm [0, 1] rfl)))))))))))
    refine gF fo_61_0 rfl (gL hm 1 isAgg3 rfl (gC hm rfl call141 (impl_sets_ok _ x_.op) fun ay az w hm => gN rfl (gM rfl (gsn 40 rfl (fun aZ => ?_) fun aZ => ?_))))
    ·
     exact gF fo_61_1 rfl (gL hm 1 isAgg3 rfl (gB rfl (gKt rfl (gKf rfl (gE (gz hm [0, 1] rfl))))))
    exact gO rfl (gO rfl (gO rfl (gKf rfl (gKf rfl (gE (gz hm [0, 1] rfl))))))
   refine gO rfl (gO rfl (gO rfl (gO rfl (gO rfl (gKf rfl (gM rfl (gF fo_61_0 rfl (gL hm 1 isAgg3 rfl (gC hm rfl call141 (impl_sets_ok _ x_.op) fun bA bB w hm => gN rfl (gM rfl (gsn 40 rfl (fun aa => ?_) fun aa => ?_)))))))))))
   ·
    exact gF fo_61_1 rfl (gL hm 1 isAgg3 rfl (gB rfl (gKt rfl (gKf rfl (gE (gz hm [0, 1] rfl))))))
   exact gO rfl (gO rfl (gO rfl (gKf rfl (gKf rfl (gE (gz hm [0, 1] rfl))))))
  repeat clear hm
  intro aJ w hm
  refine gs 45 rfl (fun ab => ?_) fun ab => ?_
  ·
   exact gct rfl (gS (gR (gA rfl (gE (gRt (gr1 results151 rfl ⟨rfl, hm.below⟩))))))
  refine gcf rfl (gSk (gS (gS (gR (gF fo_61_0 rfl (gL hm 1 isAgg3 rfl (gE (gBk (gS (gR (gB rfl (gA rfl (gE (gsd 48 rfl (fun ac => ?_) fun ac => ?_))))))))))))))
  ·
   refine gct rfl (gS (gJ hm (fun aK => [(6, (.bool (aK)))]) (fun aK => []) (fun aK => ?_) ?_))
   ·
    refine gR (gF fo_61_2 rfl (gL hm 1 isAgg57 rfl ?_))
    obtain ⟨bC, bD, rfl, bE⟩ := ro_slice h2
    refine gY (yV st_57 rfl) (gB rfl (gM rfl (gsd 54 rfl (fun ae => ?_) fun ae => ?_)))
    ·
     exact gF fo_61_3 rfl (gL hm 1 isAgg3 rfl (gC hm rfl call210 (impl_isByte_ok _ x_.n_) fun bF bG w hm => gKt rfl (gA rfl (gE (gz hm [] rfl)))))
    exact gO rfl (gO rfl (gO rfl (gKf rfl (gA rfl (gE (gz hm [] rfl))))))
   repeat clear hm
   intro aK w hm
   exact gRt (gr1 results151 rfl ⟨rfl, hm.below⟩)
  refine gcf rfl (gS (gR (gB rfl (gA rfl (gE (gsd 59 rfl (fun af => ?_) fun af => ?_))))))
  ·
   refine gct rfl (gS (gJ hm (fun aL => [(6, (.bool (aL)))]) (fun aL => []) (fun aL => ?_) ?_))
   ·
    refine gW (.p 0 (.p 2 (.p 3 (.e 1 (.e 4 (.p 5 (.p 6 (.p 9 (.p 11 (.q 7 (.p 8 (.q 10 (.e 12 (.p 13 (.p 14 (.e 15 (.p 16 (.p 17 (.p 18 .fin))) .nil))) .nil)))))))) .nil) .nil)))) [7, 10, 12, 15] [0, 2, 3, 5, 6, 8, 9, 11, 13, 14, 16, 17, 18] hm [0, 1] [blk aA [(sV aF aG u.codes.length aH)] 28, blk aB [(nV x_.op), (nV x_.to), v2, (nV x_.n_)] 61] rfl mxo (by kernel_rfl) (fun _ _ _ h => h.2) fun w hm hS => tP rfl (fun w => yF fo_61_3 rfl) (tP rfl (fun w => yM rfl) (tP rfl (fun w => yB rfl) (tO (tY rfl (yL hm 1 isAgg3 rfl) (tAn rfl (tO (gb fun bH ag => tf rfl rfl (fun a hf => e_call hf rfl call43 rfl (impl_within_ok _ x_.n_ 0 (w64 (k_ - 1)) _ ag)) ?_)))))))
    rintro bJ w ⟨rfl, hB⟩
    replace hm := hm.below' hB; clear hB
    refine tAk hm [0, 1] rfl fun hS => tP rfl (fun w => yM rfl) (gs 66 rfl (fun ah => ?_) fun ah => ?_)
    ·
     refine tP rfl (fun w => yF fo_61_2 rfl) (tP rfl (fun w => yF fo_28_0 rfl) (tP rfl (fun w => yF fo_61_3 rfl) (tQ rfl hS (fun w hm => yL hm 1 isAgg57 rfl) ?_)))
     obtain ⟨bK, bL, rfl, bM⟩ := ro_slice h2
     refine tP rfl (fun w => yV st_57 rfl) (tQ rfl hS (fun w hm => yL hm 0 isAgg26 rfl) (tO (tY rfl (yL hm 1 isAgg3 rfl) (tAs hS (gg fun bN ai aQ => ?_)))))
     obtain ⟨bO, aj, bP⟩ := rk_Code_ h1 aQ
     exact tP rfl (fun w => yI st_26 ai (idx_lt aQ) rfl) (tP rfl (fun w => yF fo_44_0 rfl) (tO (tY rfl (yl isAgg3 ((aj.mono hm.lez).cell (j := 0) rfl) rfl) (tAs hS (tP rfl (fun w => yB rfl) (tP rfl (fun w => yKt rfl) (tP rfl (fun w => yA rfl) (tE (gz hm [] rfl)))))))))
    exact tPo rfl rfl (tPo rfl rfl (tPo rfl rfl (tQo rfl hS rfl (tPo rfl rfl (tQo rfl hS rfl (tO (tEo rfl rfl (tAs hS (tPo rfl rfl (tPo rfl rfl (tO (tEo rfl rfl (tAs hS (tPo rfl rfl (tP rfl (fun w => yKf rfl) (tP rfl (fun w => yA rfl) (tE (gz hm [] rfl))))))))))))))))))
   repeat clear hm
   intro aL w hm
   exact gRt (gr1 results151 rfl ⟨rfl, hm.below⟩)
  refine gcf rfl (gSk (gS (gJ hm (fun aM => [(6, (.bool (aM)))]) (fun aM => []) (fun aM => ?_) ?_)))
  ·
   refine gW (.p 0 (.e 1 (.p 2 (.p 3 (.p 4 (.p 7 (.q 5 (.p 6 (.e 8 (.e 9 (.p 10 (.p 11 (.p 12 .fin))) .nil) .nil))))))) .nil)) [8, 9] [0, 2, 3, 4, 6, 7, 10, 11, 12] hm [0, 1] [blk aA [(sV aF aG u.codes.length aH)] 28, blk aB [(nV x_.op), (nV x_.to), v2, (nV x_.n_)] 61] rfl mxo (by kernel_rfl) (fun _ _ _ h => h.2) fun w hm hS => tP rfl (fun w => yF fo_61_3 rfl) (tO (tY rfl (yL hm 1 isAgg3 rfl) (tAn rfl (tP rfl (fun w => yB rfl) (tP rfl (fun w => yM rfl) (gsd 82 rfl (fun ak => ?_) fun ak => ?_))))))
   ·
    refine tP rfl (fun w => yF fo_61_2 rfl) (tP rfl (fun w => yF fo_61_0 rfl) (tQ rfl hS (fun w hm => yL hm 1 isAgg57 rfl) ?_))
    obtain ⟨bQ, bR, rfl, bS⟩ := ro_slice h2
    refine tP rfl (fun w => yV st_57 rfl) (tO (tY rfl (yL hm 1 isAgg3 rfl) (tAs hS (tO (gb fun bT am => tf rfl rfl (fun a hf => e_call hf rfl call211 rfl (impl_insArgs_ok _ x_.op _ am)) ?_)))))
    rintro bU w ⟨rfl, hB⟩
    replace hm := hm.below' hB; clear hB
    exact tAk hm [0, 1] rfl fun hS => tP rfl (fun w => yB rfl) (tP rfl (fun w => yKt rfl) (tP rfl (fun w => yA rfl) (tE (gz hm [] rfl))))
   exact tPo rfl rfl (tPo rfl rfl (tQo rfl hS rfl (tPo rfl rfl (tO (tEo rfl rfl (tAs hS (tO (tEo rfl rfl (tAs hS (tPo rfl rfl (tP rfl (fun w => yKf rfl) (tP rfl (fun w => yA rfl) (tE (gz hm [] rfl))))))))))))))
  repeat clear hm
  intro aM w hm
  exact gRt (gr1 results151 rfl ⟨rfl, hm.below⟩)
theorem impl_codeOk_3_ok (w0 : World) (i_ : Ins_) (v1 : Value) (h1 : GT.rep (hp w0) [v1] i_.args) (c0_ : Unit_) (v2 : Value) (h2 : GT.rep (hp w0) [v2] c0_.codes) (bf0 : Nat) (hbf0 : w0.heap[bf0]? = some (.cells ([v2] : List Value).toArray 28 (0, 0))) (c1_ : Int) (bf1 : Nat) (hbf1 : w0.heap[bf1]? = some (.cells ([(nV c1_)] : List Value).toArray 3 (0, 0))) :
    ConM Tryz.prog 150 [(.agg #[(nV i_.op), (nV i_.to), v1, (nV i_.n_)]), (pV bf0), (pV bf1)] w0 (impl_codeOk_3 i_ c0_ c1_) fun r v w' => v = (.bool (r)) ∧ Below w0.heap.size w0 w' := by
  unfold impl_codeOk_3
  refine gcon func150 rfl fun r => ?_
  have hm := Mem.start w0
  exact gS (gR (gBx hm rfl fun aA w hm => gA rfl (gE (gS (gR (gY (yn (hm.old_at hbf0) isAgg28 sizeOf28 rfl) (gY (yl isAgg3 (hm.old_cell hbf1 rfl) rfl) (gY (yn (hm.blk_at 0 rfl) isAgg61 sizeOf61 rfl) (gC hm rfl call151 (impl_insOk_ok _ c0_ v2 (hm.now h2) c1_ i_ v1 (hm.now h1)) fun aB aC w hm => gN rfl (gA rfl (gE (gRt (gr1 results150 rfl ⟨rfl, hm.below⟩)))))))))))))
theorem slices_IndexFunc_S_impl_Ins_impl_Ins_ok (w0 : World) (s_ : List Ins_) (v1 : Value) (h1 : GT.rep (hp w0) [v1] s_) (f : Ins_ → Option Bool) (fv1 : Value) (hfn1 : ∀ (w : World) (y0 : Ins_) (z1 : Value) (_ : GT.rep (hp w) [z1] y0.args) (r : Bool), Below w0.heap.size w0 w → f y0 = some r → FnOk Tryz.prog fv1 [(.agg #[(nV y0.op), (nV y0.to), z1, (nV y0.n_)])] w (fun v w' => v = (.bool (r)) ∧ Below w.heap.size w w')) :
    ConM Tryz.prog 207 [v1, fv1] w0 (slices_IndexFunc_S_impl_Ins_impl_Ins s_ f) fun r v w' => v = (nV r) ∧ Below w0.heap.size w0 w' := by
  unfold slices_IndexFunc_S_impl_Ins_impl_Ins
  refine gcon func207 rfl fun r => ?_
  have hm := Mem.start w0
  refine gS (gR (gA rfl (gE (gS (gS (gR (gM rfl ?_)))))))
  obtain ⟨aD, aE, rfl, aO⟩ := ro_slice h1
  refine gY (yV st_56 rfl) (gM rfl (gE (gBk (gNf hm (fun aA aC => [(0, (.slice aD s_.length aE)), (1, fv1), (7, (nV ((s_.length : Int)))), (8, (nV aA))]) (fun aA aC => []) [] rfl ?_ ?_))))
  ·
   repeat clear hm
   intro aP aF aA aC w hm aQ aR aS aG
   refine gS (gR (gB rfl (gE (gS (go _ 9 rfl (decide_eq_true (by omega)) (gct rfl (gSk (gS (gBk (gS (gR (gM rfl (gA rfl (gE (gS (gR (gM rfl (gM rfl (gM rfl (gg fun aH aI aB => ?_))))))))))))))))))))
   obtain ⟨aT, aV, aW, he⟩ := idx_form' h1 aB
   obtain ⟨rfl, _, rfl⟩ := sl3 he
   obtain ⟨aJ, aK, aL⟩ := rk_Ins_ h1 aB
   refine gI st_56 aI (idx_lt aB) rfl (gY (yn (aK.mono hm.lez) isAgg61 sizeOf61 rfl) (gb fun aX aM => gf rfl (fun a hf => e_callv hf rfl rfl rfl (hfn1 _ aH aJ (hm.now aL) _ hm.below aM)) ?_))
   rintro aY w ⟨rfl, hB⟩
   replace hm := hm.below' hB; clear hB
   refine gE (gs 16 rfl (fun aN => ?_) fun aN => ?_)
   ·
    exact gct rfl (gS (gR (gM rfl (gA rfl (gE (gRt (gLr aG aF (gr1 results207 rfl ⟨rfl, hm.below⟩))))))))
   exact gcf rfl (gSk (gR (gP (by omega) (by omega) rfl (gM rfl (gE (gze hm [] rfl))))))
  repeat clear hm
  intro aZ aa w hm ab ac
  exact gS (gR (gB rfl (gE (gS (go _ 9 rfl (decide_eq_false (by omega)) (gcf rfl (gXt (gHh (gS (gR (gA rfl (gE (gRt (gr1 results207 rfl ⟨rfl, hm.below⟩))))))))))))))
theorem slices_ContainsFunc_S_impl_Ins_impl_Ins_ok (w0 : World) (s_ : List Ins_) (v1 : Value) (h1 : GT.rep (hp w0) [v1] s_) (f : Ins_ → Option Bool) (fv1 : Value) (hfn1 : ∀ (w : World) (y0 : Ins_) (z1 : Value) (_ : GT.rep (hp w) [z1] y0.args) (r : Bool), Below w0.heap.size w0 w → f y0 = some r → FnOk Tryz.prog fv1 [(.agg #[(nV y0.op), (nV y0.to), z1, (nV y0.n_)])] w (fun v w' => v = (.bool (r)) ∧ Below w.heap.size w w')) :
    ConM Tryz.prog 149 [v1, fv1] w0 (slices_ContainsFunc_S_impl_Ins_impl_Ins s_ f) fun r v w' => v = (.bool (r)) ∧ Below w0.heap.size w0 w' := by
  unfold slices_ContainsFunc_S_impl_Ins_impl_Ins
  refine gcon func149 rfl fun r => ?_
  have hm := Mem.start w0
  exact gS (gR (gA rfl (gE (gS (gR (gM rfl (gM rfl (gC hm rfl call207 (slices_IndexFunc_S_impl_Ins_impl_Ins_ok _ s_ v1 (hm.now h1) f fv1 (fun w y0 aA aB r hB hq => hfn1 w y0 aA aB r (hm.below.trans (hB.mono hm.below.size)) hq)) fun aC aD w hm => gB rfl (gA rfl (gE (gRt (gr1 results149 rfl ⟨rfl, hm.below⟩))))))))))))
theorem slices_Index_S_int_int_ok (w0 : World) (s_ : List Int) (v1 : Value) (h1 : GT.rep (hp w0) [v1] s_) (v_ : Int) :
    ConM Tryz.prog 193 [v1, (nV v_)] w0 (slices_Index_S_int_int s_ v_) fun r v w' => v = (nV r) ∧ Below w0.heap.size w0 w' := by
  unfold slices_Index_S_int_int
  refine gcon func193 rfl fun r => ?_
  have hm := Mem.start w0
  refine gS (gR (gA rfl (gE (gS (gS (gR (gM rfl ?_)))))))
  obtain ⟨aD, aE, rfl, aK⟩ := ro_slice h1
  refine gY (yV st_57 rfl) (gM rfl (gE (gBk (gNf hm (fun aA aC => [(0, (.slice aD s_.length aE)), (1, (nV v_)), (7, (nV ((s_.length : Int)))), (8, (nV aA))]) (fun aA aC => []) [] rfl ?_ ?_))))
  ·
   repeat clear hm
   intro aL aF aA aC w hm aM aN aO aG
   refine gS (gR (gB rfl (gE (gS (go _ 9 rfl (decide_eq_true (by omega)) (gct rfl (gSk (gS (gBk (gS (gR (gM rfl (gA rfl (gE (gS (gR (gM rfl (gM rfl (gM rfl (gg fun aH aI aB => ?_))))))))))))))))))))
   obtain ⟨aP, aQ, aR, he⟩ := idx_form h1 aB
   obtain ⟨rfl, _, rfl⟩ := sl3 he
   refine gI st_57 aI (idx_lt aB) rfl (gY (yl isAgg3 ((flat_cells (cs := [(nV aH)]) (hm.now h1) aB rfl).cell (j := 0) rfl) rfl) (gB rfl (gE (gsd 16 rfl (fun aJ => ?_) fun aJ => ?_))))
   ·
    exact gct rfl (gS (gR (gM rfl (gA rfl (gE (gRt (gLr aG aF (gr1 results193 rfl ⟨rfl, hm.below⟩))))))))
   exact gcf rfl (gSk (gR (gP (by omega) (by omega) rfl (gM rfl (gE (gze hm [] rfl))))))
  repeat clear hm
  intro aS aT w hm aV aW
  exact gS (gR (gB rfl (gE (gS (go _ 9 rfl (decide_eq_false (by omega)) (gcf rfl (gXt (gHh (gS (gR (gA rfl (gE (gRt (gr1 results193 rfl ⟨rfl, hm.below⟩))))))))))))))
theorem slices_Contains_S_int_int_ok (w0 : World) (s_ : List Int) (v1 : Value) (h1 : GT.rep (hp w0) [v1] s_) (v_ : Int) :
    ConM Tryz.prog 125 [v1, (nV v_)] w0 (slices_Contains_S_int_int s_ v_) fun r v w' => v = (.bool (r)) ∧ Below w0.heap.size w0 w' := by
  unfold slices_Contains_S_int_int
  refine gcon func125 rfl fun r => ?_
  have hm := Mem.start w0
  exact gS (gR (gA rfl (gE (gS (gR (gM rfl (gM rfl (gC hm rfl call193 (slices_Index_S_int_int_ok _ s_ v1 (hm.now h1) v_) fun aA aB w hm => gB rfl (gA rfl (gE (gRt (gr1 results125 rfl ⟨rfl, hm.below⟩))))))))))))
theorem impl_PredsOf_ok (w0 : World) (c_ : Code_) (v1 : Value) (h1 : GT.rep (hp w0) [v1] c_.blocks) (b_ : Int) :
    ConM Tryz.prog 78 [(.agg #[(nV c_.params), (nV c_.regs), v1]), (nV b_)] w0 (impl_PredsOf c_ b_) fun r v w' => ∃ (x1 : Value), v = x1 ∧ Mem w0 (hp w0) w' [ow [x1] r] := by
  unfold impl_PredsOf
  refine gcon func78 rfl fun r => ?_
  have hm := Mem.start w0
  refine gS (gR (gBx hm rfl fun ab w hm => gA rfl (gE (gS (gR (gA rfl (gE (gS (gS (gR (gM rfl (gF fo_44_2 rfl (gL hm 0 isAgg42 rfl ?_)))))))))))))
  obtain ⟨aI, aE, rfl, ac⟩ := ro_slice h1
  refine gY (yV st_42 rfl) (gY (yS (by omega) (by omega) rfl) (gC hm rfl call43 (impl_within_ok _ b_ 0 (((c_.blocks.length : Int)) - 1)) fun ae af w hm => gN rfl (gE (gsn 14 rfl (fun aL => ?_) fun aL => ?_))))
  ·
   refine gct rfl (gS (gR (gA rfl (gE (gRt ?_)))))
   replace hm := hm.nilow (α := Int)
   exact gr1 results78 rfl ⟨(.slice none 0 0), rfl, hm.pk [0] rfl rfl⟩
  refine gcf rfl (gSk (gS (gS (gR (gF fo_44_2 rfl (gL hm 0 isAgg42 rfl (gY (yV st_42 rfl) (gM rfl (gE (gBk ?_))))))))))
  replace hm := hm.nilow (α := Int)
  refine gNg (fun aA aJ a w => ∃ (aB : Value), St 33 [(1, (nV b_)), (5, aB), (16, (.slice aI c_.blocks.length aE)), (17, (nV ((c_.blocks.length : Int)))), (18, (nV aA))] w0 (hp w0) [ow [aB] aJ] a w) (fun a hf => ⟨(.slice none 0 0), hf.sb rfl, hm.pk [0] rfl rfl⟩) ?_ ?_
  ·
   repeat clear hm
   rintro _ _ aA aJ a w ⟨aB, hf, hm⟩ ag ah ai _
   refine gv hf (gS (gR (gB rfl (gE (gS (go _ 19 rfl (decide_eq_true (by omega)) (gct rfl (gSk (gS (gJg (fun aF a w => ∃ (aC : Value), St 33 [(1, (nV b_)), (5, aC), (16, (.slice aI c_.blocks.length aE)), (17, (nV ((c_.blocks.length : Int)))), (18, (nV aA))] w0 (hp w0) [ow [aC] aF] a w) (fun aF => ?_) ?_))))))))))
   ·
    refine gBk (gS (gR (gM rfl (gg fun aM aN aG => ?_))))
    obtain ⟨aO, aP, aj, he⟩ := idx_form' h1 aG
    obtain ⟨rfl, _, rfl⟩ := sl3 he
    obtain ⟨ak, am, aQ, aR, aS, aT, aK⟩ := rk_Block_ h1 aG
    refine gI st_42 aN (idx_lt aG) rfl (gY (yn (aR.mono hm.lez) isAgg59 sizeOf59 rfl) (gAl hm zeroValue59 rfl fun an w hm => gA rfl (gSN hm 0 sizeOf59 (one_cons (rep_one aS) (one_cons (rep_one aT) (one_cons rfl (one_cons rfl (one_cons (rep_one aK) one_nil))))) rfl fun w hm => gE (gS (gR (gF fo_59_4 rfl (gL hm 0 isAgg57 rfl (gM rfl (gC hm rfl call125 (slices_Contains_S_int_int_ok _ aM.next_ aQ (hm.now aK) b_) fun ao ap w hm => gE (gJg (fun aH a w => ∃ (aD : Value), St 33 [(1, (nV b_)), (5, aD), (16, (sV aO aP c_.blocks.length aE)), (17, (nV ((c_.blocks.length : Int)))), (18, (nV aA))] w0 (hp w0) [ow [aD] aH] a w) (fun aH => ?_) ?_))))))))))
    ·
     refine gs 26 rfl (fun aV => ?_) fun aV => ?_
     ·
      refine gct rfl (gR (gM rfl (gM rfl (gf rfl (fun a hf => e_build (vs := #[(0, (nV aA))]) (cs := [(nV aA)]) et_57 hf hm rfl rfl (by kernel_rfl) rfl rfl) ?_))))
      rintro _ w ⟨aq, rfl, hm⟩
      replace hm := hm.lit (xs := ([aA] : List Int)) 0 rfl rfl rfl rfl
      refine gb fun ar aW => ?_
      obtain ⟨aX, aY⟩ := appM_some.1 aW
      refine gf rfl (fun a hf => e_append 2 et_57 hf hm rfl (hm.ow_rep 0 rfl) rfl rfl rfl aX) ?_
      rintro aZ w hm
      rw [aY] at hm
      exact gA rfl (gE (gZ fun a hf => ⟨aZ, hf.sb rfl, hm.pk [2] rfl rfl⟩))
     exact gcf rfl (gSk (gZ fun a hf => ⟨aB, hf.sb rfl, hm.pk [1] rfl rfl⟩))
    repeat clear hm
    rintro aH a w ⟨aD, hf, hm⟩
    exact gv hf (gZ fun a hf => ⟨aD, hf.sb rfl, hm.pk [0] rfl rfl⟩)
   repeat clear hm
   rintro aF a w ⟨aC, hf, hm⟩
   exact gv hf (gR (gP (by omega) (by omega) rfl (gM rfl (gE (gZe fun a hf => ⟨aC, hf.sb rfl, hm.pk [0] rfl rfl⟩)))))
  repeat clear hm
  rintro au aw a w ⟨aa, hf, hm⟩ ax ay
  exact gv hf (gS (gR (gB rfl (gE (gS (go _ 19 rfl (decide_eq_false (by omega)) (gcf rfl (gXt (gHh (gS (gR (gM rfl (gA rfl (gE (gRt (gr1 results78 rfl ⟨aa, rfl, hm.pk [0] rfl rfl⟩))))))))))))))))
theorem impl_codeOk_4_ok (w0 : World) (r_ : Int) (c0_0_ : Code_) (v1 : Value) (h1 : GT.rep (hp w0) [v1] c0_0_.blocks) (aA : Nat) (aB : w0.heap[aA]? = some (.cells ([(nV c0_0_.params), (nV c0_0_.regs), v1] : List Value).toArray 44 (0, 0))) (bf0 : Nat) (hbf0 : w0.heap[bf0]? = some (.cells ([(.func (.func 145) #[] #[(pV aA)])] : List Value).toArray 155 (0, 0))) :
    ConM Tryz.prog 152 [(nV r_), (pV bf0)] w0 (impl_codeOk_4 r_ c0_0_) fun r v w' => v = (.bool (r)) ∧ Below w0.heap.size w0 w' := by
  unfold impl_codeOk_4
  refine gcon func152 rfl fun r => ?_
  have hm := Mem.start w0
  refine gS (gR (gA rfl (gE (gS (gR (gY (yl isAgg155 (hm.old_cell hbf0 rfl) rfl) (gM rfl (gb fun aD aC => gf rfl (fun a hf => e_callv hf rfl rfl rfl ⟨145, [(pV aA)], rfl, call145, impl_codeOk_1_ok _ r_ c0_0_ v1 (rep_later (hm.now h1) (Below.refl _ _)) aA (hm.old_later aB (Below.refl _ _)) _ aC⟩) ?_))))))))
  rintro aE w ⟨rfl, hB⟩
  replace hm := hm.below' hB; clear hB
  exact gN rfl (gA rfl (gE (gRt (gr1 results152 rfl ⟨rfl, hm.below⟩))))
theorem impl_codeOk_ok (w0 : World) (u : Unit_) (v1 : Value) (h1 : GT.rep (hp w0) [v1] u.codes) (k_ : Int) :
    ConM Tryz.prog 97 [(.agg #[v1]), (nV k_)] w0 (impl_codeOk u k_) fun r v w' => v = (.bool (r)) ∧ Below w0.heap.size w0 w' := by
  unfold impl_codeOk
  refine gcon func97 rfl fun r => ?_
  have hm := Mem.start w0
  refine gS (gR (gBx hm rfl fun aD w hm => gBx hm rfl fun aE w hm => gA rfl (gE (gS (gR (gF fo_28_0 rfl (gL hm 1 isAgg26 rfl (gL hm 0 isAgg3 rfl (gg fun aA ap aY => ?_)))))))))
  obtain ⟨aL, aM, aN, he⟩ := idx_form' h1 aY
  subst he
  obtain ⟨aq, ar, aK⟩ := rk_Code_ h1 aY
  refine gI st_26 ap (idx_lt aY) rfl (gY (yn (ar.mono hm.lez) isAgg44 sizeOf44 rfl) (gAl hm zeroValue44 rfl fun aB w hm => gSN hm 0 sizeOf44 (one_cons rfl (one_cons rfl (one_cons (rep_one aK) one_nil))) rfl fun w hm => gE (gS (gS (gJ hm (fun aP => [(2, (pV aD)), (3, (pV aE)), (5, (pV aB)), (36, (.bool (aP)))]) (fun aP => [blk aD [(sV aL aM u.codes.length aN)] 28, blk aE [(nV k_)] 3, blk aB [(nV aA.params), (nV aA.regs), aq] 44]) (fun aP => ?_) ?_)))))
  ·
   refine gR (gF fo_44_1 rfl (gL hm 0 isAgg3 rfl (gC hm rfl call43 (impl_within_ok _ aA.regs 0 300) fun bb bc w hm => gN rfl (gM rfl (gsn 21 rfl (fun au => ?_) fun au => ?_)))))
   ·
    exact gO rfl (gO rfl (gO rfl (gO rfl (gO rfl (gO rfl (gO rfl (gKt rfl (gM rfl (gO rfl (gO rfl (gO rfl (gO rfl (gO rfl (gKt rfl (gE (gz hm [2, 1, 0] rfl))))))))))))))))
   refine gF fo_44_0 rfl (gL hm 0 isAgg3 rfl (gF fo_44_1 rfl (gL hm 0 isAgg3 rfl (gY (yG rfl (y_min rfl rfl rfl)) ?_))))
   have bd : minI 3 aA.regs = min 3 aA.regs := minI_eq _ _
   refine gC hm rfl call43 (impl_within_ok _ aA.params 0 (minI 3 aA.regs)) fun be bf w hm => gN rfl (gKf rfl (gM rfl (gsn 30 rfl (fun aw => ?_) fun aw => ?_)))
   ·
    exact gO rfl (gO rfl (gO rfl (gO rfl (gO rfl (gKt rfl (gE (gz hm [2, 1, 0] rfl)))))))
   refine gF fo_44_2 rfl (gL hm 0 isAgg42 rfl ?_)
   obtain ⟨bg, bh, rfl, bi⟩ := ro_slice aK
   exact gY (yV st_42 rfl) (gC hm rfl call43 (impl_within_ok _ (aA.blocks.length : Int) 1 160) fun bj bk w hm => gN rfl (gKf rfl (gE (gz hm [2, 1, 0] rfl))))
  repeat clear hm
  intro aP w hm
  refine gs 36 rfl (fun ax => ?_) fun ax => ?_
  ·
   exact gct rfl (gS (gR (gA rfl (gE (gRt (gr1 results97 rfl ⟨rfl, hm.below⟩))))))
  refine gcf rfl (gSk (gS (gR (gY (yU rfl) (gAl hm zeroValue155 rfl fun aG w hm => gS1 hm 0 sizeOf155 rfl rfl fun w hm => gE (gS (gS (gR (gF fo_44_2 rfl (gL hm 3 isAgg42 rfl ?_))))))))))
  obtain ⟨ai, aF, rfl, bl⟩ := ro_slice aK
  refine gY (yV st_42 rfl) (gM rfl (gE (gBk (gNf hm (fun aJ aj => [(2, (pV aD)), (3, (pV aE)), (5, (pV aB)), (6, (pV aG)), (39, (.slice ai aA.blocks.length aF)), (40, (nV ((aA.blocks.length : Int)))), (41, (nV aJ))]) (fun aJ aj => [blk aD [(sV aL aM u.codes.length aN)] 28, blk aE [(nV k_)] 3, blk aB [(nV aA.params), (nV aA.regs), (.slice ai aA.blocks.length aF)] 44, blk aG [(.func (.func 145) #[] #[(pV aB)])] 155]) [1, 2, 3, 0] rfl ?_ ?_))))
  ·
   repeat clear hm
   intro bm aZ aJ aj w hm bo bp bq aa
   refine gS (gR (gB rfl (gE (gS (go _ 42 rfl (decide_eq_true (by omega)) (gct rfl (gSk (gS (gBk (gS (gR (gM rfl (gg fun aC ay ab => ?_)))))))))))))
   obtain ⟨aH, aI, br, he⟩ := idx_form' aK ab
   obtain ⟨rfl, _, rfl⟩ := sl3 he
   obtain ⟨ac, aQ, aR, az, aS, ak, ae⟩ := rk_Block_ aK ab
   refine gI st_42 ay (idx_lt ab) rfl (gY (yn (az.mono hm.lez) isAgg59 sizeOf59 rfl) (gAl hm zeroValue59 rfl fun aO w hm => gA rfl (gSN hm 0 sizeOf59 (one_cons (rep_one aS) (one_cons (rep_one ak) (one_cons rfl (one_cons rfl (one_cons (rep_one ae) one_nil))))) rfl fun w hm => gE (gS (gS (gJ hm (fun aT => [(2, (pV aD)), (3, (pV aE)), (5, (pV aB)), (6, (pV aG)), (7, (nV aJ)), (8, (pV aO)), (39, (sV aH aI aA.blocks.length aF)), (40, (nV ((aA.blocks.length : Int)))), (41, (nV aJ)), (75, (.bool (aT)))]) (fun aT => [blk aD [(sV aL aM u.codes.length aN)] 28, blk aE [(nV k_)] 3, blk aB [(nV aA.params), (nV aA.regs), (sV aH aI aA.blocks.length aF)] 44, blk aG [(.func (.func 145) #[] #[(pV aB)])] 155, blk aO [ac, aQ, (nV aC.jump), (nV aC.on), aR] 59]) (fun aT => ?_) ?_))))))
   ·
    refine gW (.p 0 (.p 3 (.q 1 (.p 2 (.e 4 (.e 5 (.p 6 (.p 7 (.p 8 (.e 9 (.e 10 (.p 11 (.p 13 (.q 12 (.e 14 (.e 15 (.p 16 (.p 17 (.p 18 (.p 19 (.p 20 (.e 21 (.e 22 (.p 23 (.p 24 (.p 25 (.e 26 (.p 27 (.p 28 (.p 29 .fin))) .nil)))) .nil) .nil)))))) .nil) .nil)))) .nil) .nil)))) .nil) .nil))))) [4, 5, 14] [0, 2, 3, 6, 7, 8, 11, 13, 16, 17, 18, 19, 20, 23, 24, 25, 27, 28, 29] hm [0, 1, 2, 3, 4] [blk aO [ac, aQ, (nV aC.jump), (nV aC.on), aR] 59, blk aD [(sV aL aM u.codes.length aN)] 28, blk aE [(nV k_)] 3, blk aB [(nV aA.params), (nV aA.regs), (sV aH aI aA.blocks.length aF)] 44, blk aG [(.func (.func 145) #[] #[(pV aB)])] 155] rfl mxo (by kernel_rfl) (fun _ _ _ h => h.2) fun w hm hS => tP rfl (fun w => yF fo_59_4 rfl) (tP rfl (fun w => yF fo_59_2 rfl) (tQ rfl hS (fun w hm => yL hm 0 isAgg57 rfl) ?_))
    obtain ⟨bs, bt, rfl, bu⟩ := ro_slice ae
    refine tP rfl (fun w => yV st_57 rfl) (tO (tY rfl (yL hm 0 isAgg3 rfl) (tAs hS (tO (gb fun bv bA => tf rfl rfl (fun a hf => e_call hf rfl call146 rfl (impl_nextCount_ok _ aC.jump _ bA)) ?_)))))
    rintro bw w ⟨rfl, hB⟩
    replace hm := hm.below' hB; clear hB
    refine tAk hm [0, 1, 2, 3, 4] rfl fun hS => tP rfl (fun w => yB rfl) (tP rfl (fun w => yM rfl) (gsd 53 rfl (fun bB => ?_) fun bB => ?_))
    ·
     refine tPo rfl rfl (tO (tEo rfl rfl (tAn rfl (tO (tEo rfl rfl (tAn rfl (tPo rfl rfl (tPo rfl rfl (tQo rfl hS rfl (tO (tEo rfl rfl (tAs hS (tO (tEo rfl rfl (tAn rfl (tPo rfl rfl (tPo rfl rfl (tP rfl (fun w => yKt rfl) (tP rfl (fun w => yM rfl) (tPo rfl rfl (tO (tEo rfl rfl (tAn rfl (tO (tEo rfl rfl (tAn rfl (tPo rfl rfl (tPo rfl rfl (tPo rfl rfl (tO ?_))))))))))))))))))))))))))))))
     exact tEo rfl rfl (tAn rfl (tPo rfl rfl (tPo rfl rfl (tP rfl (fun w => yKt rfl) (tE (gz hm [1, 2, 3, 4, 0] rfl))))))
    refine tP rfl (fun w => yF fo_59_2 rfl) (tO (tY rfl (yL hm 0 isAgg3 rfl) (tAn rfl (tO (gb fun bx bC => tf rfl rfl (fun a hf => e_call hf rfl call142 rfl (impl_usesOn_ok _ aC.jump _ bC)) ?_)))))
    rintro bz w ⟨rfl, hB⟩
    replace hm := hm.below' hB; clear hB
    refine tAk hm [0, 1, 2, 3, 4] rfl fun hS => tP rfl (fun w => yM rfl) (gs 57 rfl (fun bD => ?_) fun bD => ?_)
    ·
     refine tP rfl (fun w => yF fo_59_3 rfl) (tQ rfl hS (fun w hm => yL hm 4 isAgg155 rfl) (tO (tY rfl (yL hm 0 isAgg3 rfl) (tAs hS (tO (gb fun cA bE => tf rfl rfl (fun a hf => e_callv hf rfl rfl rfl ⟨145, [(pV aB)], rfl, call145, impl_codeOk_1_ok _ aC.on aA (sV aH aI aA.blocks.length aF) (rep_later (hm.now aK) (Below.refl _ _)) aB (hm.blk_later 3 rfl (Below.refl _ _)) _ bE⟩) ?_))))))
     rintro cB w ⟨rfl, hB⟩
     replace hm := hm.below' hB; clear hB
     refine tAn rfl (tP rfl (fun w => yN rfl) (tP rfl (fun w => yKt rfl) (tP rfl (fun w => yKf rfl) (tP rfl (fun w => yM rfl) (gsn 65 rfl (fun bF => ?_) fun bF => ?_)))))
     ·
      exact tPo rfl rfl (tO (tEo rfl rfl (tAn rfl (tO (tEo rfl rfl (tAn rfl (tPo rfl rfl (tPo rfl rfl (tPo rfl rfl (tO (tEo rfl rfl (tAn rfl (tPo rfl rfl (tPo rfl rfl (tP rfl (fun w => yKt rfl) (tE (gz hm [1, 2, 3, 4, 0] rfl)))))))))))))))))
     refine tP rfl (fun w => yF fo_59_2 rfl) (tO (tY rfl (yL hm 0 isAgg3 rfl) (tAn rfl (tO (gb fun cC bG => tf rfl rfl (fun a hf => e_call hf rfl call142 rfl (impl_usesOn_ok _ aC.jump _ bG)) ?_)))))
     rintro cD w ⟨rfl, hB⟩
     replace hm := hm.below' hB; clear hB
     refine tAn rfl (tP rfl (fun w => yN rfl) (tP rfl (fun w => yM rfl) (gsn 70 rfl (fun bH => ?_) fun bH => ?_)))
     ·
      exact tP rfl (fun w => yF fo_59_3 rfl) (tO (tY rfl (yL hm 0 isAgg3 rfl) (tAn rfl (tP rfl (fun w => yB rfl) (tP rfl (fun w => yKt rfl) (tP rfl (fun w => yKf rfl) (tE (gz hm [1, 2, 3, 4, 0] rfl))))))))
     exact tPo rfl rfl (tO (tEo rfl rfl (tAn rfl (tPo rfl rfl (tP rfl (fun w => yKf rfl) (tP rfl (fun w => yKf rfl) (tE (gz hm [1, 2, 3, 4, 0] rfl))))))))
    refine tPo rfl rfl (tQo rfl hS rfl (tO (tEo rfl rfl (tAs hS (tO (tEo rfl rfl (tAn rfl (tPo rfl rfl (tP rfl (fun w => yKf rfl) (tP rfl (fun w => yKf rfl) (tP rfl (fun w => yM rfl) (tP rfl (fun w => yF fo_59_2 rfl) (tO (tY rfl (yL hm 0 isAgg3 rfl) (tAn rfl (tO (gb fun cE bJ => tf rfl rfl (fun a hf => e_call hf rfl call142 rfl (impl_usesOn_ok _ aC.jump _ bJ)) ?_)))))))))))))))))
    rintro cF w ⟨rfl, hB⟩
    replace hm := hm.below' hB; clear hB
    refine tAn rfl (tP rfl (fun w => yN rfl) (tP rfl (fun w => yM rfl) (gsn 70 rfl (fun bK => ?_) fun bK => ?_)))
    ·
     exact tP rfl (fun w => yF fo_59_3 rfl) (tO (tY rfl (yL hm 0 isAgg3 rfl) (tAn rfl (tP rfl (fun w => yB rfl) (tP rfl (fun w => yKt rfl) (tP rfl (fun w => yKf rfl) (tE (gz hm [1, 2, 3, 4, 0] rfl))))))))
    exact tPo rfl rfl (tO (tEo rfl rfl (tAn rfl (tPo rfl rfl (tP rfl (fun w => yKf rfl) (tP rfl (fun w => yKf rfl) (tE (gz hm [1, 2, 3, 4, 0] rfl))))))))
   repeat clear hm
   intro aT w hm
   refine gs 75 rfl (fun bL => ?_) fun bL => ?_
   ·
    exact gct rfl (gS (gR (gA rfl (gE (gRt (gLr aa aZ (gr1 results97 rfl ⟨rfl, hm.below⟩)))))))
   refine gcf rfl (gSk (gS (gS (gJ hm (fun aV => [(2, (pV aD)), (3, (pV aE)), (5, (pV aB)), (6, (pV aG)), (7, (nV aJ)), (8, (pV aO)), (39, (sV aH aI aA.blocks.length aF)), (40, (nV ((aA.blocks.length : Int)))), (41, (nV aJ)), (85, (.bool (aV)))]) (fun aV => [blk aD [(sV aL aM u.codes.length aN)] 28, blk aE [(nV k_)] 3, blk aB [(nV aA.params), (nV aA.regs), (sV aH aI aA.blocks.length aF)] 44, blk aG [(.func (.func 145) #[] #[(pV aB)])] 155, blk aO [ac, aQ, (nV aC.jump), (nV aC.on), aR] 59]) (fun aV => ?_) ?_))))
   ·
    refine gR (gF fo_59_4 rfl (gL hm 4 isAgg57 rfl (gY (yU rfl) (gC hm rfl call147 (slices_ContainsFunc_S_int_int_ok _ aC.next_ aR (hm.now ae) (fun y0 => impl_codeOk_2 y0 aA) (.func (.func 148) #[] #[(pV aB)]) (fun w y0 r hB hq => ⟨148, [(pV aB)], rfl, call148, impl_codeOk_2_ok w y0 aA (sV aH aI aA.blocks.length aF) (rep_later (hm.now aK) hB) aB (hm.blk_later 2 rfl hB) r hq⟩)) fun cG cH w hm => gM rfl (gs 80 rfl (fun bM => ?_) fun bM => ?_)))))
    ·
     exact gO rfl (gO rfl (gO rfl (gO rfl (gKt rfl (gE (gz hm [0, 1, 2, 3, 4] rfl))))))
    exact gF fo_59_1 rfl (gL hm 4 isAgg56 rfl (gY (yU rfl) (gC hm rfl call149 (slices_ContainsFunc_S_impl_Ins_impl_Ins_ok _ aC.ins aQ (hm.now ak) (fun y0 => impl_codeOk_3 y0 u k_) (.func (.func 150) #[] #[(pV aD), (pV aE)]) (fun w y0 bN bO r hB hq => ⟨150, [(pV aD), (pV aE)], rfl, call150, impl_codeOk_3_ok w y0 bN bO u (sV aL aM u.codes.length aN) (rep_later (hm.now h1) hB) aD (hm.blk_later 0 rfl hB) k_ aE (hm.blk_later 1 rfl hB) r hq⟩)) fun cI cJ w hm => gKf rfl (gE (gz hm [0, 1, 2, 3, 4] rfl)))))
   repeat clear hm
   intro aV w hm
   refine gs 85 rfl (fun bP => ?_) fun bP => ?_
   ·
    exact gct rfl (gS (gR (gA rfl (gE (gRt (gLr aa aZ (gr1 results97 rfl ⟨rfl, hm.below⟩)))))))
   refine gcf rfl (gSk (gS (gR (gY (yn (hm.blk_at 2 rfl) isAgg44 sizeOf44 rfl) (gM rfl (gCg rfl call78 (impl_PredsOf_ok _ aA (sV aH aI aA.blocks.length aF) (hm.now aK) aJ) ?_))))))
   rintro am cK cL w ⟨_, rfl, hB⟩
   replace hm := hm.give hB; clear hB
   obtain ⟨cM, cN, rfl, cO⟩ := ro_slice (hm.ow_rep 0 rfl)
   refine gY (yV st_57 rfl) (gA rfl (gE (gS (gR (gF fo_59_0 rfl (gL hm 5 isAgg55 rfl ?_))))))
   obtain ⟨bQ, an, rfl, cP⟩ := ro_slice aS
   refine gY (yV st_55 rfl) (gM rfl (gE (gBk (gNf hm (fun aW ao => [(2, (pV aD)), (3, (pV aE)), (5, (pV aB)), (6, (pV aG)), (7, (nV aJ)), (9, (nV ((am.length : Int)))), (39, (sV aH aI aA.blocks.length aF)), (40, (nV ((aA.blocks.length : Int)))), (41, (nV aJ)), (91, (.slice bQ aC.phis.length an)), (92, (nV ((aC.phis.length : Int)))), (93, (nV aW))]) (fun aW ao => [blk aD [(sV aL aM u.codes.length aN)] 28, blk aE [(nV k_)] 3, blk aB [(nV aA.params), (nV aA.regs), (sV aH aI aA.blocks.length aF)] 44, blk aG [(.func (.func 145) #[] #[(pV aB)])] 155]) [1, 2, 3, 4] rfl ?_ ?_))))
   ·
    repeat clear hm
    intro cQ bR aW ao w hm cR cS cT bS
    refine gS (gR (gB rfl (gE (gS (go _ 94 rfl (decide_eq_true (by omega)) (gct rfl (gSk (gS (gBk (gS (gR (gg fun af bT ag => ?_))))))))))))
    obtain ⟨bU, bV, cU, he⟩ := idx_form' aS ag
    obtain ⟨rfl, _, rfl⟩ := sl3 he
    obtain ⟨cV, bW, ah⟩ := rk_Phi_ aS ag
    refine gI st_55 bT (idx_lt ag) rfl (gY (yn (bW.mono hm.lez) isAgg87 sizeOf87 rfl) (gAl hm zeroValue87 rfl fun cW w hm => gSN hm 0 sizeOf87 (one_cons rfl (one_cons (rep_one ah) one_nil)) rfl fun w hm => gE (gS (gJ hm (fun aX => [(2, (pV aD)), (3, (pV aE)), (5, (pV aB)), (6, (pV aG)), (7, (nV aJ)), (9, (nV ((am.length : Int)))), (39, (sV aH aI aA.blocks.length aF)), (40, (nV ((aA.blocks.length : Int)))), (41, (nV aJ)), (91, (sV bU bV aC.phis.length an)), (92, (nV ((aC.phis.length : Int)))), (93, (nV aW)), (118, (.bool (aX)))]) (fun aX => [blk aD [(sV aL aM u.codes.length aN)] 28, blk aE [(nV k_)] 3, blk aB [(nV aA.params), (nV aA.regs), (sV aH aI aA.blocks.length aF)] 44, blk aG [(.func (.func 145) #[] #[(pV aB)])] 155]) (fun aX => ?_) ?_))))
    ·
     refine gR (gM rfl (gB rfl (gM rfl (gsd 99 rfl (fun bX => ?_) fun bX => ?_))))
     ·
      exact gO rfl (gO rfl (gO rfl (gO rfl (gO rfl (gKt rfl (gM rfl (gO rfl (gO rfl (gO rfl (gO rfl (gO rfl (gKt rfl (gM rfl (gO rfl (gO rfl (gO rfl (gO rfl (gKt rfl (gE (gz hm [1, 2, 3, 4] rfl))))))))))))))))))))
     refine gL hm 4 isAgg155 rfl (gF fo_87_0 rfl (gL hm 0 isAgg3 rfl (gb fun cX bY => gf rfl (fun a hf => e_callv hf rfl rfl rfl ⟨145, [(pV aB)], rfl, call145, impl_codeOk_1_ok _ af.to aA (sV aH aI aA.blocks.length aF) (rep_later (hm.now aK) (Below.refl _ _)) aB (hm.blk_later 3 rfl (Below.refl _ _)) _ bY⟩) ?_)))
     rintro cY w ⟨rfl, hB⟩
     replace hm := hm.below' hB; clear hB
     refine gN rfl (gKf rfl (gM rfl (gsn 106 rfl (fun bZ => ?_) fun bZ => ?_)))
     ·
      exact gO rfl (gO rfl (gO rfl (gO rfl (gO rfl (gKt rfl (gM rfl (gO rfl (gO rfl (gO rfl (gO rfl (gKt rfl (gE (gz hm [1, 2, 3, 4] rfl)))))))))))))
     refine gF fo_87_1 rfl (gL hm 0 isAgg57 rfl ?_)
     obtain ⟨b7, b8, rfl, cZ⟩ := ro_slice ah
     refine gY (yV st_57 rfl) (gM rfl (gB rfl (gKf rfl (gM rfl (gsd 113 rfl (fun b9 => ?_) fun b9 => ?_)))))
     ·
      exact gO rfl (gO rfl (gO rfl (gO rfl (gKt rfl (gE (gz hm [1, 2, 3, 4] rfl))))))
     exact gF fo_87_1 rfl (gL hm 0 isAgg57 rfl (gY (yU rfl) (gC hm rfl call147 (slices_ContainsFunc_S_int_int_ok _ af.args (.slice b7 af.args.length b8) (hm.now ah) (fun y0 => impl_codeOk_4 y0 aA) (.func (.func 152) #[] #[(pV aG)]) (fun w y0 r hB hq => ⟨152, [(pV aG)], rfl, call152, impl_codeOk_4_ok w y0 aA (sV aH aI aA.blocks.length aF) (rep_later (hm.now aK) hB) aB (hm.blk_later 3 rfl hB) aG (hm.blk_later 4 rfl hB) r hq⟩)) fun c7 c8 w hm => gKf rfl (gE (gz hm [1, 2, 3, 4] rfl)))))
    repeat clear hm
    intro aX w hm
    refine gs 118 rfl (fun ba => ?_) fun ba => ?_
    ·
     exact gct rfl (gS (gR (gA rfl (gE (gRt (gLr bS bR (gLr aa aZ (gr1 results97 rfl ⟨rfl, hm.below⟩))))))))
    exact gcf rfl (gSk (gR (gP (by omega) (by omega) rfl (gM rfl (gE (gze hm [0, 1, 2, 3] rfl))))))
   repeat clear hm
   intro c9 ca w hm cb cc
   exact gS (gR (gB rfl (gE (gS (go _ 94 rfl (decide_eq_false (by omega)) (gcf rfl (gXt (gHh (gR (gP (by omega) (by omega) rfl (gM rfl (gE (gze hm [0, 1, 2, 3] rfl)))))))))))))
  repeat clear hm
  intro cd ce w hm cf cg
  exact gS (gR (gB rfl (gE (gS (go _ 42 rfl (decide_eq_false (by omega)) (gcf rfl (gXt (gHh (gS (gR (gA rfl (gE (gRt (gr1 results97 rfl ⟨rfl, hm.below⟩))))))))))))))
theorem impl_codeCount_ok (w0 : World) (c_ : Code_) (v1 : Value) (h1 : GT.rep (hp w0) [v1] c_.blocks) :
    ConM Tryz.prog 52 [(.agg #[(nV c_.params), (nV c_.regs), v1])] w0 (impl_codeCount c_) fun r v w' => v = (nV r) ∧ Below w0.heap.size w0 w' := by
  unfold impl_codeCount
  refine gcon func52 rfl fun r => ?_
  have hm := Mem.start w0
  refine gS (gR (gBx hm rfl fun aK w hm => gA rfl (gE (gS (gR (gA rfl (gE (gS (gS (gR (gF fo_44_2 rfl (gL hm 0 isAgg42 rfl ?_))))))))))))
  obtain ⟨aF, aG, rfl, aL⟩ := ro_slice h1
  refine gY (yV st_42 rfl) (gM rfl (gE (gBk (gNf hm (fun aA aB => [(3, (nV aB)), (7, (.slice aF c_.blocks.length aG)), (8, (nV ((c_.blocks.length : Int)))), (9, (nV aA))]) (fun aA aB => []) [] rfl ?_ ?_))))
  ·
   repeat clear hm
   intro _ _ aA aB w hm aM aN aO _
   refine gS (gR (gB rfl (gE (gS (go _ 10 rfl (decide_eq_true (by omega)) (gct rfl (gSk (gS (gBk (gS (gR (gg fun aP aH aC => ?_))))))))))))
   obtain ⟨aQ, aR, aS, he⟩ := idx_form' h1 aC
   obtain ⟨rfl, _, rfl⟩ := sl3 he
   obtain ⟨aT, aV, aW, aI, aD, aE, aJ⟩ := rk_Block_ h1 aC
   refine gI st_42 aH (idx_lt aC) rfl (gY (yn (aI.mono hm.lez) isAgg59 sizeOf59 rfl) (gAl hm zeroValue59 rfl fun aX w hm => gSN hm 0 sizeOf59 (one_cons (rep_one aD) (one_cons (rep_one aE) (one_cons rfl (one_cons rfl (one_cons (rep_one aJ) one_nil))))) rfl fun w hm => gE (gR (gM rfl (gF fo_59_0 rfl (gL hm 0 isAgg55 rfl ?_))))))
   obtain ⟨aY, aZ, rfl, aa⟩ := ro_slice aD
   refine gY (yV st_55 rfl) (gF fo_59_1 rfl (gL hm 0 isAgg56 rfl ?_))
   obtain ⟨ab, ac, rfl, ae⟩ := ro_slice aE
   exact gY (yV st_56 rfl) (gP (by omega) (by omega) rfl (gB rfl (gA rfl (gE (gR (gP (by omega) (by omega) rfl (gM rfl (gE (gze hm [] rfl)))))))))
  repeat clear hm
  intro af ag w hm ah ai
  exact gS (gR (gB rfl (gE (gS (go _ 10 rfl (decide_eq_false (by omega)) (gcf rfl (gXt (gHh (gS (gR (gM rfl (gA rfl (gE (gRt (gr1 results52 rfl ⟨rfl, hm.below⟩)))))))))))))))
theorem impl_UnitValid_ok (w0 : World) (u : Unit_) (v1 : Value) (h1 : GT.rep (hp w0) [v1] u.codes) :
    ConM Tryz.prog 48 [(.agg #[v1])] w0 (impl_UnitValid u) fun r v w' => v = (.bool (r)) ∧ Below w0.heap.size w0 w' := by
  unfold impl_UnitValid
  refine gcon func48 rfl fun r => ?_
  have hm := Mem.start w0
  refine gS (gR (gBx hm rfl fun aE w hm => gA rfl (gE (gS (gS (gR (gF fo_28_0 rfl (gL hm 0 isAgg26 rfl ?_))))))))
  obtain ⟨aF, aB, rfl, aR⟩ := ro_slice h1
  refine gY (yV st_26 rfl) (gC hm rfl call43 (impl_within_ok _ (u.codes.length : Int) 1 4) fun aS aT w hm => gN rfl (gE (gsn 10 rfl (fun aH => ?_) fun aH => ?_)))
  ·
   exact gct rfl (gS (gR (gA rfl (gE (gRt (gr1 results48 rfl ⟨rfl, hm.below⟩))))))
  refine gcf rfl (gSk (gS (gR (gA rfl (gE (gS (gS (gR (gF fo_28_0 rfl (gL hm 0 isAgg26 rfl (gY (yV st_26 rfl) (gM rfl (gE (gBk (gNf hm (fun aA aC => [(1, (pV aE)), (3, (nV aC)), (12, (.slice aF u.codes.length aB)), (13, (nV ((u.codes.length : Int)))), (14, (nV aA))]) (fun aA aC => [blk aE [(.slice aF u.codes.length aB)] 28]) [0] rfl ?_ ?_)))))))))))))))
  ·
   repeat clear hm
   intro aV aI aA aC w hm aW aX aY aJ
   refine gS (gR (gB rfl (gE (gS (go _ 15 rfl (decide_eq_true (by omega)) (gct rfl (gSk (gS (gBk (gS (gR (gM rfl (gg fun aK aL aD => ?_)))))))))))))
   obtain ⟨aM, aN, aZ, he⟩ := idx_form' h1 aD
   obtain ⟨rfl, _, rfl⟩ := sl3 he
   obtain ⟨aO, aP, aG⟩ := rk_Code_ h1 aD
   refine gI st_26 aL (idx_lt aD) rfl (gY (yn (aP.mono hm.lez) isAgg44 sizeOf44 rfl) (gAl hm zeroValue44 rfl fun aa w hm => gA rfl (gSN hm 0 sizeOf44 (one_cons rfl (one_cons rfl (one_cons (rep_one aG) one_nil))) rfl fun w hm => gE (gS (gS (gR (gY (yn (hm.blk_at 1 rfl) isAgg28 sizeOf28 rfl) (gM rfl (gC hm rfl call97 (impl_codeOk_ok _ u (sV aM aN u.codes.length aB) (hm.now h1) aA) fun ab ac w hm => gN rfl (gE (gsn 22 rfl (fun aQ => ?_) fun aQ => ?_)))))))))))
   ·
    exact gct rfl (gS (gR (gA rfl (gE (gRt (gLr aJ aI (gr1 results48 rfl ⟨rfl, hm.below⟩)))))))
   exact gcf rfl (gSk (gR (gM rfl (gY (yn (hm.blk_at 0 rfl) isAgg44 sizeOf44 rfl) (gC hm rfl call52 (impl_codeCount_ok _ aK aO (hm.now aG)) fun ae af w hm => gB rfl (gA rfl (gE (gR (gP (by omega) (by omega) rfl (gM rfl (gE (gze hm [1] rfl))))))))))))
  repeat clear hm
  intro ag ah w hm ai aj
  exact gS (gR (gB rfl (gE (gS (go _ 15 rfl (decide_eq_false (by omega)) (gcf rfl (gXt (gHh (gS (gR (gM rfl (gB rfl (gA rfl (gE (gRt (gr1 results48 rfl ⟨rfl, hm.below⟩))))))))))))))))
theorem slices_IndexFunc_S_impl_Code_impl_Code_ok (w0 : World) (s_ : List Code_) (v1 : Value) (h1 : GT.rep (hp w0) [v1] s_) (f : Code_ → Option Bool) (fv1 : Value) (hfn1 : ∀ (w : World) (y0 : Code_) (z1 : Value) (_ : GT.rep (hp w) [z1] y0.blocks) (r : Bool), Below w0.heap.size w0 w → f y0 = some r → FnOk Tryz.prog fv1 [(.agg #[(nV y0.params), (nV y0.regs), z1])] w (fun v w' => v = (.bool (r)) ∧ Below w.heap.size w w')) :
    ConM Tryz.prog 154 [v1, fv1] w0 (slices_IndexFunc_S_impl_Code_impl_Code s_ f) fun r v w' => v = (nV r) ∧ Below w0.heap.size w0 w' := by
  unfold slices_IndexFunc_S_impl_Code_impl_Code
  refine gcon func154 rfl fun r => ?_
  have hm := Mem.start w0
  refine gS (gR (gA rfl (gE (gS (gS (gR (gM rfl ?_)))))))
  obtain ⟨aD, aE, rfl, aO⟩ := ro_slice h1
  refine gY (yV st_26 rfl) (gM rfl (gE (gBk (gNf hm (fun aA aC => [(0, (.slice aD s_.length aE)), (1, fv1), (7, (nV ((s_.length : Int)))), (8, (nV aA))]) (fun aA aC => []) [] rfl ?_ ?_))))
  ·
   repeat clear hm
   intro aP aF aA aC w hm aQ aR aS aG
   refine gS (gR (gB rfl (gE (gS (go _ 9 rfl (decide_eq_true (by omega)) (gct rfl (gSk (gS (gBk (gS (gR (gM rfl (gA rfl (gE (gS (gR (gM rfl (gM rfl (gM rfl (gg fun aH aI aB => ?_))))))))))))))))))))
   obtain ⟨aT, aV, aW, he⟩ := idx_form' h1 aB
   obtain ⟨rfl, _, rfl⟩ := sl3 he
   obtain ⟨aJ, aK, aL⟩ := rk_Code_ h1 aB
   refine gI st_26 aI (idx_lt aB) rfl (gY (yn (aK.mono hm.lez) isAgg44 sizeOf44 rfl) (gb fun aX aM => gf rfl (fun a hf => e_callv hf rfl rfl rfl (hfn1 _ aH aJ (hm.now aL) _ hm.below aM)) ?_))
   rintro aY w ⟨rfl, hB⟩
   replace hm := hm.below' hB; clear hB
   refine gE (gs 16 rfl (fun aN => ?_) fun aN => ?_)
   ·
    exact gct rfl (gS (gR (gM rfl (gA rfl (gE (gRt (gLr aG aF (gr1 results154 rfl ⟨rfl, hm.below⟩))))))))
   exact gcf rfl (gSk (gR (gP (by omega) (by omega) rfl (gM rfl (gE (gze hm [] rfl))))))
  repeat clear hm
  intro aZ aa w hm ab ac
  exact gS (gR (gB rfl (gE (gS (go _ 9 rfl (decide_eq_false (by omega)) (gcf rfl (gXt (gHh (gS (gR (gA rfl (gE (gRt (gr1 results154 rfl ⟨rfl, hm.below⟩))))))))))))))
theorem slices_ContainsFunc_S_impl_Code_impl_Code_ok (w0 : World) (s_ : List Code_) (v1 : Value) (h1 : GT.rep (hp w0) [v1] s_) (f : Code_ → Option Bool) (fv1 : Value) (hfn1 : ∀ (w : World) (y0 : Code_) (z1 : Value) (_ : GT.rep (hp w) [z1] y0.blocks) (r : Bool), Below w0.heap.size w0 w → f y0 = some r → FnOk Tryz.prog fv1 [(.agg #[(nV y0.params), (nV y0.regs), z1])] w (fun v w' => v = (.bool (r)) ∧ Below w.heap.size w w')) :
    ConM Tryz.prog 101 [v1, fv1] w0 (slices_ContainsFunc_S_impl_Code_impl_Code s_ f) fun r v w' => v = (.bool (r)) ∧ Below w0.heap.size w0 w' := by
  unfold slices_ContainsFunc_S_impl_Code_impl_Code
  refine gcon func101 rfl fun r => ?_
  have hm := Mem.start w0
  exact gS (gR (gA rfl (gE (gS (gR (gM rfl (gM rfl (gC hm rfl call154 (slices_IndexFunc_S_impl_Code_impl_Code_ok _ s_ v1 (hm.now h1) f fv1 (fun w y0 aA aB r hB hq => hfn1 w y0 aA aB r (hm.below.trans (hB.mono hm.below.size)) hq)) fun aC aD w hm => gB rfl (gA rfl (gE (gRt (gr1 results101 rfl ⟨rfl, hm.below⟩))))))))))))
theorem impl_graphOk_1_1_ok (w0 : World) (n_ : Int) (c0_ : Code_) (v1 : Value) (h1 : GT.rep (hp w0) [v1] c0_.blocks) (bf0 : Nat) (hbf0 : w0.heap[bf0]? = some (.cells ([(nV c0_.params), (nV c0_.regs), v1] : List Value).toArray 44 (0, 0))) :
    ConM Tryz.prog 217 [(nV n_), (pV bf0)] w0 (impl_graphOk_1_1 n_ c0_) fun r v w' => v = (.bool (r)) ∧ Below w0.heap.size w0 w' := by
  unfold impl_graphOk_1_1
  refine gcon func217 rfl fun r => ?_
  have hm := Mem.start w0
  refine gS (gR (gA rfl (gE (gS (gR (gM rfl (gF fo_44_2 rfl (gY (yl isAgg42 (hm.old_cell hbf0 rfl) rfl) ?_))))))))
  obtain ⟨aA, aB, rfl, aC⟩ := ro_slice h1
  exact gY (yV st_42 rfl) (gY (yS (by omega) (by omega) rfl) (gC hm rfl call43 (impl_within_ok _ n_ 0 (((c0_.blocks.length : Int)) - 1)) fun aD aE w hm => gN rfl (gA rfl (gE (gRt (gr1 results217 rfl ⟨rfl, hm.below⟩))))))
theorem impl_graphOk_1_ok (w0 : World) (b_ : Block_) (v1 : Value) (h1 : GT.rep (hp w0) [v1] b_.phis) (v2 : Value) (h2 : GT.rep (hp w0) [v2] b_.ins) (v3 : Value) (h3 : GT.rep (hp w0) [v3] b_.next_) (c0_ : Code_) (v4 : Value) (h4 : GT.rep (hp w0) [v4] c0_.blocks) (bf0 : Nat) (hbf0 : w0.heap[bf0]? = some (.cells ([(nV c0_.params), (nV c0_.regs), v4] : List Value).toArray 44 (0, 0))) :
    ConM Tryz.prog 216 [(.agg #[v1, v2, (nV b_.jump), (nV b_.on), v3]), (pV bf0)] w0 (impl_graphOk_1 b_ c0_) fun r v w' => v = (.bool (r)) ∧ Below w0.heap.size w0 w' := by
  unfold impl_graphOk_1
  refine gcon func216 rfl fun r => ?_
  have hm := Mem.start w0
  exact gS (gR (gBx hm rfl fun aA w hm => gA rfl (gE (gS (gR (gF fo_59_4 rfl (gL hm 0 isAgg57 rfl (gY (yU rfl) (gC hm rfl call147 (slices_ContainsFunc_S_int_int_ok _ b_.next_ v3 (hm.now h3) (fun y0 => impl_graphOk_1_1 y0 c0_) (.func (.func 217) #[] #[(pV bf0)]) (fun w y0 r hB hq => ⟨217, [(pV bf0)], rfl, call217, impl_graphOk_1_1_ok w y0 c0_ v4 (rep_later (hm.now h4) hB) bf0 (hm.old_later hbf0 hB) r hq⟩)) fun aB aC w hm => gA rfl (gE (gRt (gr1 results216 rfl ⟨rfl, hm.below⟩))))))))))))
theorem slices_IndexFunc_S_impl_Block_impl_Block_ok (w0 : World) (s_ : List Block_) (v1 : Value) (h1 : GT.rep (hp w0) [v1] s_) (f : Block_ → Option Bool) (fv1 : Value) (hfn1 : ∀ (w : World) (y0 : Block_) (z1 : Value) (_ : GT.rep (hp w) [z1] y0.phis) (z2 : Value) (_ : GT.rep (hp w) [z2] y0.ins) (z3 : Value) (_ : GT.rep (hp w) [z3] y0.next_) (r : Bool), Below w0.heap.size w0 w → f y0 = some r → FnOk Tryz.prog fv1 [(.agg #[z1, z2, (nV y0.jump), (nV y0.on), z3])] w (fun v w' => v = (.bool (r)) ∧ Below w.heap.size w w')) :
    ConM Tryz.prog 268 [v1, fv1] w0 (slices_IndexFunc_S_impl_Block_impl_Block s_ f) fun r v w' => v = (nV r) ∧ Below w0.heap.size w0 w' := by
  unfold slices_IndexFunc_S_impl_Block_impl_Block
  refine gcon func268 rfl fun r => ?_
  have hm := Mem.start w0
  refine gS (gR (gA rfl (gE (gS (gS (gR (gM rfl ?_)))))))
  obtain ⟨aD, aE, rfl, aS⟩ := ro_slice h1
  refine gY (yV st_42 rfl) (gM rfl (gE (gBk (gNf hm (fun aA aC => [(0, (.slice aD s_.length aE)), (1, fv1), (7, (nV ((s_.length : Int)))), (8, (nV aA))]) (fun aA aC => []) [] rfl ?_ ?_))))
  ·
   repeat clear hm
   intro aT aF aA aC w hm aV aW aX aG
   refine gS (gR (gB rfl (gE (gS (go _ 9 rfl (decide_eq_true (by omega)) (gct rfl (gSk (gS (gBk (gS (gR (gM rfl (gA rfl (gE (gS (gR (gM rfl (gM rfl (gM rfl (gg fun aH aI aB => ?_))))))))))))))))))))
   obtain ⟨aY, aZ, aa, he⟩ := idx_form' h1 aB
   obtain ⟨rfl, _, rfl⟩ := sl3 he
   obtain ⟨aJ, aK, aL, aM, aN, aO, aP⟩ := rk_Block_ h1 aB
   refine gI st_42 aI (idx_lt aB) rfl (gY (yn (aM.mono hm.lez) isAgg59 sizeOf59 rfl) (gb fun ab aQ => gf rfl (fun a hf => e_callv hf rfl rfl rfl (hfn1 _ aH aJ (hm.now aN) aK (hm.now aO) aL (hm.now aP) _ hm.below aQ)) ?_))
   rintro ac w ⟨rfl, hB⟩
   replace hm := hm.below' hB; clear hB
   refine gE (gs 16 rfl (fun aR => ?_) fun aR => ?_)
   ·
    exact gct rfl (gS (gR (gM rfl (gA rfl (gE (gRt (gLr aG aF (gr1 results268 rfl ⟨rfl, hm.below⟩))))))))
   exact gcf rfl (gSk (gR (gP (by omega) (by omega) rfl (gM rfl (gE (gze hm [] rfl))))))
  repeat clear hm
  intro ae af w hm ag ah
  exact gS (gR (gB rfl (gE (gS (go _ 9 rfl (decide_eq_false (by omega)) (gcf rfl (gXt (gHh (gS (gR (gA rfl (gE (gRt (gr1 results268 rfl ⟨rfl, hm.below⟩))))))))))))))
theorem slices_ContainsFunc_S_impl_Block_impl_Block_ok (w0 : World) (s_ : List Block_) (v1 : Value) (h1 : GT.rep (hp w0) [v1] s_) (f : Block_ → Option Bool) (fv1 : Value) (hfn1 : ∀ (w : World) (y0 : Block_) (z1 : Value) (_ : GT.rep (hp w) [z1] y0.phis) (z2 : Value) (_ : GT.rep (hp w) [z2] y0.ins) (z3 : Value) (_ : GT.rep (hp w) [z3] y0.next_) (r : Bool), Below w0.heap.size w0 w → f y0 = some r → FnOk Tryz.prog fv1 [(.agg #[z1, z2, (nV y0.jump), (nV y0.on), z3])] w (fun v w' => v = (.bool (r)) ∧ Below w.heap.size w w')) :
    ConM Tryz.prog 215 [v1, fv1] w0 (slices_ContainsFunc_S_impl_Block_impl_Block s_ f) fun r v w' => v = (.bool (r)) ∧ Below w0.heap.size w0 w' := by
  unfold slices_ContainsFunc_S_impl_Block_impl_Block
  refine gcon func215 rfl fun r => ?_
  have hm := Mem.start w0
  exact gS (gR (gA rfl (gE (gS (gR (gM rfl (gM rfl (gC hm rfl call268 (slices_IndexFunc_S_impl_Block_impl_Block_ok _ s_ v1 (hm.now h1) f fv1 (fun w y0 aA aB aC aD aE aF r hB hq => hfn1 w y0 aA aB aC aD aE aF r (hm.below.trans (hB.mono hm.below.size)) hq)) fun aG aH w hm => gB rfl (gA rfl (gE (gRt (gr1 results215 rfl ⟨rfl, hm.below⟩))))))))))))
theorem impl_graphOk_ok (w0 : World) (c_ : Code_) (v1 : Value) (h1 : GT.rep (hp w0) [v1] c_.blocks) :
    ConM Tryz.prog 159 [(.agg #[(nV c_.params), (nV c_.regs), v1])] w0 (impl_graphOk c_) fun r v w' => v = (.bool (r)) ∧ Below w0.heap.size w0 w' := by
  unfold impl_graphOk
  refine gcon func159 rfl fun r => ?_
  have hm := Mem.start w0
  refine gS (gR (gBx hm rfl fun aB w hm => gA rfl (gE (gS (gJ hm (fun aA => [(2, (.bool (aA)))]) (fun aA => []) (fun aA => ?_) ?_)))))
  ·
   refine gR (gF fo_44_2 rfl (gL hm 0 isAgg42 rfl ?_))
   obtain ⟨aC, aD, rfl, aL⟩ := ro_slice h1
   refine gY (yV st_42 rfl) (gB rfl (gM rfl (gsd 7 rfl (fun aE => ?_) fun aE => ?_)))
   ·
    exact gF fo_44_2 rfl (gL hm 0 isAgg42 rfl (gY (yU rfl) (gC hm rfl call215 (slices_ContainsFunc_S_impl_Block_impl_Block_ok _ c_.blocks (.slice aC c_.blocks.length aD) (hm.now h1) (fun y0 => impl_graphOk_1 y0 c_) (.func (.func 216) #[] #[(pV aB)]) (fun w y0 aF aG aH aI aJ aK r hB hq => ⟨216, [(pV aB)], rfl, call216, impl_graphOk_1_ok w y0 aF aG aH aI aJ aK c_ (.slice aC c_.blocks.length aD) (rep_later (hm.now h1) hB) aB (hm.blk_later 0 rfl hB) r hq⟩)) fun aM aN w hm => gN rfl (gKt rfl (gA rfl (gE (gz hm [] rfl)))))))
   exact gO rfl (gO rfl (gO rfl (gO rfl (gO rfl (gKf rfl (gA rfl (gE (gz hm [] rfl))))))))
  repeat clear hm
  intro aA w hm
  exact gRt (gr1 results159 rfl ⟨rfl, hm.below⟩)
theorem impl_reachedWithout_ok (w0 : World) (c_ : Code_) (v1 : Value) (h1 : GT.rep (hp w0) [v1] c_.blocks) (not : Int) :
    ConM Tryz.prog 160 [(.agg #[(nV c_.params), (nV c_.regs), v1]), (nV not)] w0 (impl_reachedWithout c_ not) fun r v w' => ∃ (x1 : Value), v = x1 ∧ Mem w0 (hp w0) w' [ow [x1] r] := by
  unfold impl_reachedWithout
  refine gcon func160 rfl fun r => ?_
  have hm := Mem.start w0
  refine gS (gR (gBx hm rfl fun aD w hm => gA rfl (gE (gS (gR (gF fo_44_2 rfl (gL hm 0 isAgg42 rfl ?_)))))))
  obtain ⟨aL, aM, rfl, bD⟩ := ro_slice h1
  refine gY (yV st_42 rfl) (gb fun aA aY => ?_)
  obtain ⟨⟨aZ, aa⟩, aV⟩ := makeM_some.1 aY
  refine gf rfl (fun a hf => e_make (x0 := (false : Bool)) et_98 (fun _ => (Flat.own_iff.2 rfl)) hf hm rfl rfl rfl aZ (Int.le_refl _) aa) ?_
  rintro bE w hm
  rw [aV] at hm
  have h0_1l : (aA.length : Int) = (c_.blocks.length : Int) := by rw [← aV]; simp only [List.length_replicate]; omega
  refine gA rfl (gE (gS (gR (gf rfl (fun a hf => e_build (vs := #[(0, (nV 0))]) (cs := [(nV 0)]) et_57 hf hm rfl rfl (by kernel_rfl) rfl rfl) ?_))))
  rintro _ w ⟨ab, rfl, hm⟩
  replace hm := hm.lit (xs := ([0] : List Int)) 0 rfl rfl rfl rfl
  refine gA rfl (gE (gS ?_))
  obtain ⟨aB, aC, rfl, bF⟩ := ro_slice (hm.ow_rep 1 rfl)
  refine gJ hm (fun aF => [(5, (.slice aB aA.length aC))]) (fun aF => [ow [(.slice aB aA.length aC)] aF]) (fun aF => ?_) ?_
  ·
   refine gBk (gMg (fun aE a w => ∃ (aN : Value), St 48 [(1, (nV not)), (2, (pV aD)), (5, (.slice aB aA.length aC)), (6, aN)] w0 (hp w0) [blk aD [(nV c_.params), (nV c_.regs), (.slice aL c_.blocks.length aM)] 44, ow [(.slice aB aA.length aC)] aE.1, ow [aN] aE.2] a w) (fun a hf => ⟨(sV ab 0 1 1), hf.sb rfl, hm.pk [2, 1, 0] rfl rfl⟩) ?_)
   repeat clear hm
   rintro bG ac aE a w ⟨aN, hf, hm⟩ bH ae
   refine gv hf (gS (gS (gR (gM rfl ?_))))
   obtain ⟨bJ, af, rfl, bK⟩ := ro_slice (hm.ow_rep 2 rfl)
   refine gY (yV st_57 rfl) (gB rfl (gE (gsd 15 rfl (fun ag => ?_) fun ag => ?_)))
   ·
    refine gct rfl (gSk (gJg (fun aG a w => ∃ (aH : Value), St 48 [(1, (nV not)), (2, (pV aD)), (5, (.slice aB aA.length aC)), (6, aH)] w0 (hp w0) [blk aD [(nV c_.params), (nV c_.regs), (.slice aL c_.blocks.length aM)] 44, ow [(.slice aB aA.length aC)] aG.1, ow [aH] aG.2] a w) (fun aG => ?_) ?_))
    ·
     refine gBk (gS (gR (gM rfl (gM rfl (gY (yV st_57 rfl) (gY (yS (by omega) (by omega) rfl) (gg fun aW ah aO => ?_)))))))
     obtain ⟨ai, aj, bL, he⟩ := idx_form (hm.ow_rep 2 rfl) aO
     obtain ⟨rfl, _, rfl⟩ := sl3 he
     refine gI st_57 ah (idx_lt aO) rfl (gY (yl isAgg3 ((flat_cells (cs := [(nV aW)]) (hm.ow_rep 2 rfl) aO rfl).cell (j := 0) rfl) rfl) (gA rfl (gE (gS (gR (gM rfl (gM rfl (gY (yV st_57 rfl) (gY (yS (by omega) (by omega) rfl) (gb fun aP ak => ?_))))))))))
     obtain ⟨am, aX⟩ := subM_some.1 ak
     have an := (hm.ow_rep 2 rfl)
     obtain ⟨aI, aQ⟩ : ∃ nv, nv = subV (GT.sz (Int)) (sV ai aj aE.2.length af) (0 : Int).toNat (((aE.2.length : Int)) - 1 : Int).toNat := ⟨_, rfl⟩
     refine gY (yG rfl (yl_eq aQ (y_slcH (α := Int) st_57 an rfl rfl rfl am _))) (gA rfl (gE (gS (gS (gJg (fun aR a w => ∃ (aJ : Value), St 48 [(1, (nV not)), (2, (pV aD)), (5, (.slice aB aA.length aC)), (6, aJ), (7, (nV aW)), (35, (.bool (aR)))] w0 (hp w0) [blk aD [(nV c_.params), (nV c_.regs), (.slice aL c_.blocks.length aM)] 44, ow [(.slice aB aA.length aC)] aE.1, ow [aJ] aP] a w) (fun aR => ?_) ?_)))))
     ·
      refine gR (gM rfl (gM rfl (gB rfl (gM rfl (gsd 30 rfl (fun ao => ?_) fun ao => ?_)))))
      ·
       refine gO rfl (gO rfl (gO rfl (gO rfl (gKt rfl (gE ?_)))))
       replace hm := hm.imp (c' := ow [aI] aP) 2 rfl (fun F h0 => by rw [aQ, ← aX]; exact own_subV h0 (by omega) (by omega))
       exact gZ fun a hf => ⟨aI, hf.sb rfl, hm.pk [0, 1, 2] rfl rfl⟩
      refine gM rfl (gM rfl (gg fun ap aq aS => ?_))
      obtain ⟨bM, bN, bO, he⟩ := idx_form (hm.ow_rep 1 rfl) aS
      obtain ⟨rfl, _, rfl⟩ := sl3 he
      have hL4_1 := rep_slice_len (hm.ow_rep 1 rfl)
      refine gI st_98 aq (idx_lt2 aS hL4_1) rfl (gY (yl isAgg4 ((flat_cells (cs := [(.bool (ap))]) (hm.ow_rep 1 rfl) aS rfl).cell (j := 0) rfl) rfl) (gKf rfl (gE ?_)))
      replace hm := hm.imp (c' := ow [aI] aP) 2 rfl (fun F h0 => by rw [aQ, ← aX]; exact own_subV h0 (by omega) (by omega))
      exact gZ fun a hf => ⟨aI, hf.sb rfl, hm.pk [0, 1, 2] rfl rfl⟩
     repeat clear hm
     rintro aR a w ⟨aJ, hf, hm⟩
     refine gv hf (gs 35 rfl (fun ar => ?_) fun ar => ?_)
     ·
      exact gct rfl (gXt (gHh (gZ fun a hf => ⟨aJ, hf.sb rfl, hm.pk [0, 1, 2] rfl rfl⟩)))
     refine gcf rfl (gSk (gS (gR (gM rfl (gM rfl (gg fun bP au aK => ?_))))))
     obtain ⟨bQ, bR, bS, he⟩ := idx_form (hm.ow_rep 1 rfl) aK
     obtain ⟨rfl, _, rfl⟩ := sl3 he
     have hL3_1 := rep_slice_len (hm.ow_rep 1 rfl)
     refine gI st_98 au (idx_lt2 aK hL3_1) rfl (gf0 rfl (fun a hf => e_setElem (x1 := true) (j := 0) (vs := [(.bool (true))]) 1 hf hm rfl aK rfl sizeOf4 rfl rfl rfl (one_cons rfl one_nil) rfl rfl) ?_)
     rintro _ w hm
     have bT := List.getElem?_set_self (a := true) (idx_lt aK)
     refine gE (gR (gM rfl (gF fo_44_2 rfl (gL hm 0 isAgg42 rfl (gM rfl (gg fun bU aw aT => ?_))))))
     obtain ⟨bV, bW, bX, he⟩ := idx_form' h1 aT
     obtain ⟨rfl, _, rfl⟩ := sl3 he
     obtain ⟨bY, bZ, b7, ax, b8, b9, ay⟩ := rk_Block_ h1 aT
     refine gI st_42 aw (idx_lt aT) rfl (gF fo_59_4 rfl (gY (yl isAgg57 ((ax.mono hm.lez).cell (j := 4) rfl) rfl) (gb fun ba az => ?_)))
     obtain ⟨bA, bB⟩ := appM_some.1 az
     refine gf rfl (fun a hf => e_append 2 et_57 hf hm rfl (hm.now ay) rfl rfl rfl bA) ?_
     rintro bC w hm
     rw [bB] at hm
     exact gA rfl (gE (gZ fun a hf => ⟨bC, hf.sb rfl, hm.pk [0, 1, 2] rfl rfl⟩))
    repeat clear hm
    rintro aG a w ⟨aH, hf, hm⟩
    exact gv hf (gZe fun a hf => ⟨aH, hf.sb rfl, hm.pk [0, 1, 2] rfl rfl⟩)
   exact gcf rfl (gXt (gHh (gLp ae ac (gz hm [1] rfl))))
  repeat clear hm
  intro aF w hm
  exact gS (gR (gM rfl (gA rfl (gE (gRt (gr1 results160 rfl ⟨(.slice aB aA.length aC), rfl, hm.pk [0] rfl rfl⟩))))))
theorem impl_domsOf_ok (w0 : World) (hz : Heap) (hle0 : Heap.le hz (hp w0)) (c_ : Code_) (v1 : Value) (h1 : GT.rep hz [v1] c_.blocks) :
    ConM Tryz.prog 104 [(.agg #[(nV c_.params), (nV c_.regs), v1])] w0 (impl_domsOf c_) fun r v w' => (r = none ∧ v = .pointer none ∧ Below w0.heap.size w0 w') ∨ ∃ q, r = some q ∧ (∃ (b1 : Nat) (x2 : Value) (x3 : Value) (x4 : Value) (hz2 : Heap), v = (pV b1) ∧ Heap.le hz hz2 ∧ GT.rep hz2 [x2] q.c.blocks ∧ Mem w0 hz2 w' [junk w0 hz, blk b1 [(nV q.c.params), (nV q.c.regs), x2, x3, x4] 166, ow [x3] q.over, ow [x4] q.in_]) := by
  unfold impl_domsOf
  refine gcon func104 rfl fun r => ?_
  have hm := Mem.startA hle0
  refine gS (gR (gBx hm rfl fun aG w hm => gA rfl (gE (gS (gS (gR (gY (yn (hm.blk_at 0 rfl) isAgg44 sizeOf44 rfl) (gC hm rfl call159 (impl_graphOk_ok _ c_ v1 (hm.now h1)) fun bJ bK w hm => gN rfl (gE (gsn 10 rfl (fun am => ?_) fun am => ?_))))))))))
  ·
   exact gct rfl (gS (gR (gA rfl (gE (gRt (gr1 results104 rfl (.inl ⟨rfl, rfl, Mem.belowA (M := []) hle0 (Heap.le_refl _) (hm.pk [1] rfl rfl)⟩)))))))
  refine gcf rfl (gSk (gS (gW (.q 0 (.e 1 (.e 2 (.p 3 (.e 4 (.p 5 .fin) .nil)) .nil) .nil)) [1, 2] [3, 5] hm [0, 1] [blk aG [(nV c_.params), (nV c_.regs), v1] 44, junk w0 hz] rfl mxo (by kernel_rfl) (fun _ _ _ h => h.2) fun w hm hS => tQ rfl hS (fun w hm => yn (hm.blk_at 0 rfl) isAgg44 sizeOf44 rfl) (tO (tY rfl (yn (hm.blk_at 0 rfl) isAgg44 sizeOf44 rfl) (tAs hS (tO (gb fun aA an => tf rfl rfl (fun a hf => e_call hf rfl call160 rfl (impl_reachedWithout_ok _ c_ v1 (hm.now h1) (-1) _ an)) ?_))))))))
  rintro bL w ⟨_, rfl, hB⟩
  replace hm := hm.give hB; clear hB
  refine tAk hm [1, 2] rfl fun hS => ?_
  obtain ⟨aB, aC, rfl, bM⟩ := ro_slice h1
  obtain ⟨aO, aD, rfl, bN⟩ := ro_slice (hm.ow_rep 0 rfl)
  refine tP rfl (fun w => yG rfl (y_build (vs := [(0, (.agg #[(nV c_.params), (nV c_.regs), (.slice aB c_.blocks.length aC)])), (2, (.slice aO aA.length aD))]) (cs := #[(nV c_.params), (nV c_.regs), (.slice aB c_.blocks.length aC), (.slice none 0 0), (.slice aO aA.length aD)]) rfl rfl (by kernel_rfl))) (tO (tf rfl rfl (fun a hf => e_box hf hm rfl rfl rfl) ?_))
  rintro _ w ⟨aH, rfl, hm⟩
  refine tAn rfl (tP rfl (fun w => yA rfl) (tE (gS (gS (gR (gF fo_44_2 rfl (gL hm 2 isAgg42 rfl (gY (yV st_42 rfl) (gM rfl (gE (gBk ?_)))))))))))
  replace hm := hm.nilow (α := List Bool)
  refine gNg (fun aM aF a w => ∃ (aK : Value), St 71 [(1, (pV aG)), (3, (pV aH)), (18, (nV ((c_.blocks.length : Int)))), (19, (nV aM))] w0 hz [blk aG [(nV c_.params), (nV c_.regs), (.slice aB c_.blocks.length aC)] 44, blk aH [(nV c_.params), (nV c_.regs), (.slice aB c_.blocks.length aC), aK, (.slice aO aA.length aD)] 166, ow [aK] aF, ow [(.slice aO aA.length aD)] aA, junk w0 hz] a w) (fun a hf => ⟨(.slice none 0 0), hf.sb rfl, hm.pk [3, 1, 0, 2, 4] rfl rfl⟩) ?_ ?_
  ·
   repeat clear hm
   rintro _ _ aM aF a w ⟨aK, hf, hm⟩ bO bP bQ _
   refine gv hf (gS (gR (gB rfl (gE (gS (go _ 20 rfl (decide_eq_true (by omega)) (gct rfl (gSk (gS (gBk (gS (gR (gM rfl (gA rfl (gE (gS (gR (gF fo_44_2 rfl (gL hm 0 isAgg42 rfl (gY (yV st_42 rfl) (gb fun aL ao => ?_)))))))))))))))))))))
   obtain ⟨⟨ap, aq⟩, ai⟩ := makeM_some.1 ao
   refine gf rfl (fun a hf => e_make (x0 := (false : Bool)) et_98 (fun _ => (Flat.own_iff.2 rfl)) hf hm rfl rfl rfl ap (Int.le_refl _) aq) ?_
   rintro aj w hm
   rw [ai] at hm
   have h1_1l : (aL.length : Int) = (c_.blocks.length : Int) := by rw [← ai]; simp only [List.length_replicate]; omega
   refine gA rfl (gE (gS (gS (gR (gM rfl (gY (yG rfl (y_nilptr rfl rfl)) (gF fo_166_2 rfl (gL hm 2 isAgg98 rfl (gM rfl (gg fun ar au ae => ?_))))))))))
   obtain ⟨aI, aJ, bR, he⟩ := idx_form (hm.ow_rep 4 rfl) ae
   obtain ⟨rfl, _, rfl⟩ := sl3 he
   refine gI st_98 au (idx_lt ae) rfl (gY (yl isAgg4 ((flat_cells (cs := [(.bool (ar))]) (hm.ow_rep 4 rfl) ae rfl).cell (j := 0) rfl) rfl) (gE (gJ hm (fun aE => [(1, (pV aG)), (3, (pV aH)), (5, aj), (18, (nV ((c_.blocks.length : Int)))), (19, (nV aM))]) (fun aE => [blk aG [(nV c_.params), (nV c_.regs), (.slice aB c_.blocks.length aC)] 44, blk aH [(nV c_.params), (nV c_.regs), (.slice aB c_.blocks.length aC), aK, (sV aI aJ aA.length aD)] 166, ow [aK] aF, ow [(sV aI aJ aA.length aD)] aA, ow [aj] aE, junk w0 hz]) (fun aE => ?_) ?_)))
   ·
    refine gs 32 rfl (fun aw => ?_) fun aw => ?_
    ·
     refine gct rfl (gS (gR (gY (yn (hm.blk_at 1 rfl) isAgg44 sizeOf44 rfl) (gM rfl (gCg rfl call160 (impl_reachedWithout_ok _ c_ (.slice aB c_.blocks.length aC) (hm.now h1) aM) ?_)))))
     rintro aN bS bT w ⟨_, rfl, hB⟩
     replace hm := hm.give hB; clear hB
     refine gA rfl (gE (gS (gR (gM rfl ?_))))
     obtain ⟨aR, aS, rfl, bU⟩ := ro_slice (hm.ow_rep 1 rfl)
     refine gY (yV st_98 rfl) (gM rfl (gE ?_))
     obtain ⟨aT, aV, rfl, bV⟩ := ro_slice (hm.ow_rep 4 rfl)
     obtain ⟨aW, aX, rfl, bW⟩ := ro_slice (hm.ow_rep 0 rfl)
     refine gBk (gNf hm (fun aY af => [(1, (pV aG)), (3, (pV aH)), (5, (.slice aR aL.length aS)), (6, (.slice aW aN.length aX)), (18, (nV ((c_.blocks.length : Int)))), (19, (nV aM)), (37, (nV ((aL.length : Int)))), (38, (nV aY))]) (fun aY af => [blk aG [(nV c_.params), (nV c_.regs), (.slice aB c_.blocks.length aC)] 44, blk aH [(nV c_.params), (nV c_.regs), (.slice aB c_.blocks.length aC), (.slice aT aF.length aV), (sV aI aJ aA.length aD)] 166, ow [(.slice aT aF.length aV)] aF, ow [(sV aI aJ aA.length aD)] aA, ow [(.slice aR aL.length aS)] af, ow [(.slice aW aN.length aX)] aN, junk w0 hz]) [2, 3, 4, 5, 1, 0, 6] rfl ?_ ?_)
     ·
      repeat clear hm
      intro _ _ aY af w hm bX bY bZ _
      refine gS (gR (gB rfl (gE (gS (go _ 39 rfl (decide_eq_true (by omega)) (gct rfl (gSk (gS (gBk (gS (gR (gM rfl (gA rfl (gE (gJ hm (fun aZ => [(1, (pV aG)), (3, (pV aH)), (5, (.slice aR aL.length aS)), (6, (.slice aW aN.length aX)), (18, (nV ((c_.blocks.length : Int)))), (19, (nV aM)), (37, (nV ((aL.length : Int)))), (38, (nV aY))]) (fun aZ => [blk aG [(nV c_.params), (nV c_.regs), (.slice aB c_.blocks.length aC)] 44, blk aH [(nV c_.params), (nV c_.regs), (.slice aB c_.blocks.length aC), (.slice aT aF.length aV), (sV aI aJ aA.length aD)] 166, ow [(.slice aT aF.length aV)] aF, ow [(sV aI aJ aA.length aD)] aA, ow [(.slice aR aL.length aS)] aZ, ow [(.slice aW aN.length aX)] aN, junk w0 hz]) (fun aZ => ?_) ?_)))))))))))))))
      ·
       refine gR (gM rfl (gM rfl (gM rfl (gY (yG rfl (y_nilptr rfl rfl)) (gF fo_166_2 rfl (gL hm 1 isAgg98 rfl (gM rfl (gg fun ax ay ak => gI st_98 ay (idx_lt ak) rfl (gY (yl isAgg4 ((flat_cells (cs := [(.bool (ax))]) (hm.ow_rep 3 rfl) ak rfl).cell (j := 0) rfl) rfl) (gM rfl (gs 50 rfl (fun az => ?_) fun az => ?_)))))))))))
       ·
        refine gM rfl (gM rfl (gg fun aa bA ag => ?_))
        obtain ⟨b7, b8, b9, he⟩ := idx_form (hm.ow_rep 5 rfl) ag
        obtain ⟨rfl, _, rfl⟩ := sl3 he
        refine gI st_98 bA (idx_lt ag) rfl (gY (yl isAgg4 ((flat_cells (cs := [(.bool (aa))]) (hm.ow_rep 5 rfl) ag rfl).cell (j := 0) rfl) rfl) (gN rfl (gKt rfl (gg fun ba bB ab => ?_))))
        obtain ⟨bb, bc, bd, he⟩ := idx_form (hm.ow_rep 4 rfl) ab
        obtain ⟨rfl, _, rfl⟩ := sl3 he
        have hL4_1 := rep_slice_len (hm.ow_rep 4 rfl)
        refine gI st_98 bB (idx_lt2 ab hL4_1) rfl (gf0 rfl (fun a hf => e_setElem (x1 := !(aa)) (j := 0) (vs := [(.bool (!(aa)))]) 4 hf hm rfl ab rfl sizeOf4 rfl rfl rfl (one_cons rfl one_nil) rfl rfl) ?_)
        rintro _ w hm
        have be := List.getElem?_set_self (a := !(aa)) (idx_lt ab)
        exact gE (gz hm [0, 1, 2, 3, 4, 5, 6] rfl)
       refine gO rfl (gO rfl (gO rfl (gO rfl (gO rfl (gKf rfl (gg fun bf bC ac => ?_))))))
       obtain ⟨bg, bh, bi, he⟩ := idx_form (hm.ow_rep 4 rfl) ac
       obtain ⟨rfl, _, rfl⟩ := sl3 he
       have hL4_2 := rep_slice_len (hm.ow_rep 4 rfl)
       refine gI st_98 bC (idx_lt2 ac hL4_2) rfl (gf0 rfl (fun a hf => e_setElem (x1 := false) (j := 0) (vs := [(.bool (false))]) 4 hf hm rfl ac rfl sizeOf4 rfl rfl rfl (one_cons rfl one_nil) rfl rfl) ?_)
       rintro _ w hm
       have bj := List.getElem?_set_self (a := false) (idx_lt ac)
       exact gE (gz hm [0, 1, 2, 3, 4, 5, 6] rfl)
      repeat clear hm
      intro aZ w hm
      exact gR (gP (by omega) (by omega) rfl (gM rfl (gE (gze hm [0, 1, 2, 3, 4, 5, 6] rfl))))
     repeat clear hm
     intro bk bl w hm bm bo
     exact gS (gR (gB rfl (gE (gS (go _ 39 rfl (decide_eq_false (by omega)) (gcf rfl (gXt (gHh (gz hm [0, 1, 2, 3, 4, 6] rfl)))))))))
    exact gcf rfl (gSk (gz hm [1, 2, 3, 4, 0, 5] rfl))
   repeat clear hm
   intro aE w hm
   refine gR (gM rfl (gM rfl (gY (yG rfl (y_nilptr rfl rfl)) (gF fo_166_1 rfl (gL hm 1 isAgg99 rfl (gM rfl ?_))))))
   obtain ⟨aP, aQ, rfl, bp⟩ := ro_slice (hm.ow_rep 4 rfl)
   refine gf rfl (fun a hf => e_build (vs := #[(0, (.slice aP aE.length aQ))]) (cs := [(.slice aP aE.length aQ)]) et_99 hf hm rfl rfl (by kernel_rfl) rfl rfl) ?_
   rintro _ w ⟨ah, rfl, hm⟩
   replace hm := hm.els_nil (α := List Bool)
   replace hm := hm.imp (c' := ow [(.slice aP aE.length aQ)] (aE : List Bool)) 6 rfl (fun F h0 => h0)
   replace hm := (hm.els_cons 0 6 (by decide) rfl rfl).pk (L' := [els [(.slice aP aE.length aQ)] ([aE] : List (List Bool)), blk ah [(.slice aP aE.length aQ)] 98, blk aG [(nV c_.params), (nV c_.regs), (.slice aB c_.blocks.length aC)] 44, blk aH [(nV c_.params), (nV c_.regs), (.slice aB c_.blocks.length aC), aK, (sV aI aJ aA.length aD)] 166, ow [aK] aF, ow [(sV aI aJ aA.length aD)] aA, junk w0 hz]) [0, 1, 2, 3, 4, 5, 7] rfl rfl
   replace hm := (hm.lit_els 1 0 (by decide) rfl rfl rfl rfl).pk (L' := [ow [(sV ah 0 1 1)] ([aE] : List (List Bool)), blk aG [(nV c_.params), (nV c_.regs), (.slice aB c_.blocks.length aC)] 44, blk aH [(nV c_.params), (nV c_.regs), (.slice aB c_.blocks.length aC), aK, (sV aI aJ aA.length aD)] 166, ow [aK] aF, ow [(sV aI aJ aA.length aD)] aA, junk w0 hz]) [1, 2, 3, 4, 5, 6] rfl rfl
   refine gb fun bq bD => ?_
   obtain ⟨bE, bF⟩ := appM_some.1 bD
   replace hm := (hm.both 3 0 (by decide) rfl rfl).pk (L' := [blk aG [(nV c_.params), (nV c_.regs), (.slice aB c_.blocks.length aC)] 44, blk aH [(nV c_.params), (nV c_.regs), (.slice aB c_.blocks.length aC), aK, (sV aI aJ aA.length aD)] 166, both (ow [aK] aF) (ow [(sV ah 0 1 1)] ([aE] : List (List Bool))), ow [(sV aI aJ aA.length aD)] aA, junk w0 hz]) [1, 2, 3, 4, 5] rfl rfl
   refine gf rfl (fun a hf => e_appendD (xs := aF) (ys := ([aE] : List (List Bool))) 2 et_99 hf hm rfl rfl rfl rfl bE) ?_
   rintro bG w hm
   rw [bF] at hm
   exact gY (yG rfl (y_nilptr rfl rfl)) (gF fo_166_1 rfl (gS1 hm 1 sizeOf99 (rep_one (hm.ow_rep 2 rfl)) rfl fun w hm => gE (gR (gP (by omega) (by omega) rfl (gM rfl (gE (gZe fun a hf => ⟨bG, hf.sb rfl, hm.pk [0, 1, 2, 3, 4] rfl rfl⟩)))))))
  repeat clear hm
  rintro br bs a w ⟨bH, hf, hm⟩ bt bu
  exact gv hf (gS (gR (gB rfl (gE (gS (go _ 20 rfl (decide_eq_false (by omega)) (gcf rfl (gXt (gHh (gS (gR (gM rfl (gA rfl (gE (gRt (gr1 results104 rfl (.inr ⟨_, rfl, ⟨aH, (.slice aB c_.blocks.length aC), bH, (.slice aO aA.length aD), hz, rfl, (Heap.le_refl _), h1, hm.pk [4, 1, 2, 3] rfl rfl⟩⟩)))))))))))))))))
theorem impl_MadeBy_ok (w0 : World) (x_ : Ins_) (v1 : Value) (h1 : GT.rep (hp w0) [v1] x_.args) :
    ConM Tryz.prog 99 [(.agg #[(nV x_.op), (nV x_.to), v1, (nV x_.n_)])] w0 (impl_MadeBy x_) fun r v w' => v = (nV r) ∧ Below w0.heap.size w0 w' := by
  unfold impl_MadeBy
  refine gcon func99 rfl fun r => ?_
  have hm := Mem.start w0
  refine gS (gR (gBx hm rfl fun aB w hm => gA rfl (gE (gS (gS (gR (gF fo_61_0 rfl (gL hm 0 isAgg3 rfl (gC hm rfl call141 (impl_sets_ok _ x_.op) fun aC aD w hm => gN rfl (gE (gsn 6 rfl (fun aA => ?_) fun aA => ?_)))))))))))
  ·
   exact gct rfl (gS (gR (gA rfl (gE (gRt (gr1 results99 rfl ⟨rfl, hm.below⟩))))))
  exact gcf rfl (gSk (gS (gR (gF fo_61_1 rfl (gL hm 0 isAgg3 rfl (gA rfl (gE (gRt (gr1 results99 rfl ⟨rfl, hm.below⟩)))))))))
theorem impl_placesOf_ok (w0 : World) (c_ : Code_) (v1 : Value) (h1 : GT.rep (hp w0) [v1] c_.blocks) :
    ConM Tryz.prog 55 [(.agg #[(nV c_.params), (nV c_.regs), v1])] w0 (impl_placesOf c_) fun r v w' => ∃ (x1 : Value), v = x1 ∧ Mem w0 (hp w0) w' [ow [x1] r] := by
  unfold impl_placesOf
  refine gcon func55 rfl fun r => ?_
  have hm := Mem.start w0
  refine gS (gR (gBx hm rfl fun cF w hm => gA rfl (gE (gS (gR (gF fo_44_1 rfl (gL hm 0 isAgg3 rfl (gb fun aC b9 => ?_))))))))
  obtain ⟨⟨ba, bb⟩, bN⟩ := makeM_some.1 b9
  refine gf rfl (fun a hf => e_make (x0 := ([] : List place)) et_73 (fun _ => (own_list.2 (.inl ⟨rfl, rfl⟩))) hf hm rfl rfl rfl ba (Int.le_refl _) bb) ?_
  rintro cG w hm
  rw [bN] at hm
  have h0_1l : (aC.length : Int) = c_.regs := by rw [← bN]; simp only [List.length_replicate]; omega
  refine gA rfl (gE (gS (gS (gR (gF fo_44_2 rfl (gL hm 1 isAgg42 rfl ?_))))))
  obtain ⟨bc, aY, rfl, cH⟩ := ro_slice h1
  refine gY (yV st_42 rfl) (gM rfl (gE ?_))
  obtain ⟨aF, aD, rfl, cI⟩ := ro_slice (hm.ow_rep 0 rfl)
  refine gBk (gNf hm (fun aB bE => [(3, (.slice aF aC.length aD)), (15, (.slice bc c_.blocks.length aY)), (16, (nV ((c_.blocks.length : Int)))), (17, (nV aB))]) (fun aB bE => [ow [(.slice aF aC.length aD)] bE]) [0] rfl ?_ ?_)
  ·
   repeat clear hm
   intro _ _ aB bE w hm cJ cK cL _
   refine gS (gR (gB rfl (gE (gS (go _ 18 rfl (decide_eq_true (by omega)) (gct rfl (gSk (gS (gBk (gS (gR (gM rfl (gg fun aA bd bF => ?_)))))))))))))
   obtain ⟨aa, ab, cM, he⟩ := idx_form' h1 bF
   obtain ⟨rfl, _, rfl⟩ := sl3 he
   obtain ⟨cN, aK, aL, be, ap, aq, bf⟩ := rk_Block_ h1 bF
   refine gI st_42 bd (idx_lt bF) rfl (gY (yn (be.mono hm.lez) isAgg59 sizeOf59 rfl) (gAl hm zeroValue59 rfl fun aG w hm => gA rfl (gSN hm 0 sizeOf59 (one_cons (rep_one ap) (one_cons (rep_one aq) (one_cons rfl (one_cons rfl (one_cons (rep_one bf) one_nil))))) rfl fun w hm => gE (gS (gS (gR (gF fo_59_0 rfl (gL hm 0 isAgg55 rfl ?_))))))))
   obtain ⟨bO, aH, rfl, cO⟩ := ro_slice ap
   refine gY (yV st_55 rfl) (gM rfl (gE (gBk (gNf hm (fun ar aM => [(3, (.slice aF aC.length aD)), (4, (nV aB)), (5, (pV aG)), (15, (sV aa ab c_.blocks.length aY)), (16, (nV ((c_.blocks.length : Int)))), (17, (nV aB)), (23, (.slice bO aA.phis.length aH)), (24, (nV ((aA.phis.length : Int)))), (25, (nV ar))]) (fun ar aM => [ow [(.slice aF aC.length aD)] aM, blk aG [(.slice bO aA.phis.length aH), aK, (nV aA.jump), (nV aA.on), aL] 59]) [1, 0] rfl ?_ ?_))))
   ·
    repeat clear hm
    intro _ _ ar aM w hm cP cQ cR _
    refine gS (gR (gB rfl (gE (gS (go _ 26 rfl (decide_eq_true (by omega)) (gct rfl (gSk (gS (gBk (gS (gR (gg fun aE bg bG => ?_))))))))))))
    obtain ⟨aN, aO, cS, he⟩ := idx_form' ap bG
    obtain ⟨rfl, _, rfl⟩ := sl3 he
    obtain ⟨aQ, bh, bi⟩ := rk_Phi_ ap bG
    refine gI st_55 bg (idx_lt bG) rfl (gY (yn (bh.mono hm.lez) isAgg87 sizeOf87 rfl) (gAl hm zeroValue87 rfl fun aR w hm => gSN hm 0 sizeOf87 (one_cons rfl (one_cons (rep_one bi) one_nil)) rfl fun w hm => gE (gJ hm (fun au => [(3, (.slice aF aC.length aD)), (4, (nV aB)), (5, (pV aG)), (15, (sV aa ab c_.blocks.length aY)), (16, (nV ((c_.blocks.length : Int)))), (17, (nV aB)), (23, (sV aN aO aA.phis.length aH)), (24, (nV ((aA.phis.length : Int)))), (25, (nV ar))]) (fun au => [ow [(.slice aF aC.length aD)] au, blk aG [(sV aN aO aA.phis.length aH), aK, (nV aA.jump), (nV aA.on), aL] 59]) (fun au => ?_) ?_)))
    ·
     refine gW (.p 0 (.p 1 (.p 3 (.p 4 (.p 8 (.p 9 (.q 2 (.q 5 (.p 6 (.e 7 (.e 10 (.e 11 (.p 12 (.e 13 .fin .nil)) .nil) .nil) (.e 10 (.e 7 (.e 11 (.p 12 (.e 13 .fin .nil)) .nil) .nil) .nil))))))))))) [2, 5, 7, 10, 11] [0, 1, 3, 4, 6, 8, 9, 12] hm [0, 2] [blk aR [(nV aE.to), aQ] 87, blk aG [(sV aN aO aA.phis.length aH), aK, (nV aA.jump), (nV aA.on), aL] 59] rfl mxo (by kernel_rfl) (fun _ _ _ h => h.2) fun w hm hS => tP rfl (fun w => yM rfl) (tP rfl (fun w => yF fo_87_0 rfl) (tP rfl (fun w => yM rfl) (tP rfl (fun w => yF fo_87_0 rfl) (tP rfl (fun w => yM rfl) (tP rfl (fun w => yG rfl (y_build (vs := [(0, (nV aB)), (1, (nV (-1)))]) (cs := #[(nV aB), (nV (-1))]) rfl rfl (by kernel_rfl))) (tQ rfl hS (fun w hm => yL hm 0 isAgg3 rfl) (tQ rfl hS (fun w hm => yL hm 0 isAgg3 rfl) (gg fun aW bH aS => ?_))))))))
     obtain ⟨aT, aV, cT, he⟩ := idx_form' (hm.ow_rep 1 rfl) aS
     obtain ⟨rfl, _, rfl⟩ := sl3 he
     obtain ⟨_, _, bP, bj⟩ := ro_get' (hm.ow_rep 1 rfl) aS
     have bJ := bj
     obtain ⟨bQ, rfl, -⟩ := id bJ
     replace bJ : GT.rep (hp _) [bQ] aW := bJ
     replace bP : CellsAt (hp _) aT (aV + (aE.to).toNat * 1) [bQ] := bP
     have hL3_1 := rep_slice_len (hm.ow_rep 1 rfl)
     refine tP rfl (fun w => yI st_73 bH (idx_lt2 aS hL3_1) rfl) (gb fun aP bR => tMo ?_ ?_)
     ·
      obtain ⟨_, bk, hm⟩ := hm.openE 1 rfl aS
      have bl := hm.ow_rep 0 rfl
      have aw := bl
      obtain ⟨ac, rfl, -⟩ := id aw
      replace aw : GT.rep (hp _) [ac] aW := aw
      clear bk aw
      replace hm : Mem w0 (hp w0) _ [ow [ac] (aW : List place), blk aR [(nV aE.to), aQ] 87, holeE aT aV aC.length aD (aM : List (List place)) (aE.to).toNat [ac], blk aG [(sV aN aO aA.phis.length aH), aK, (nV aA.jump), (nV aA.on), aL] 59] := hm
      replace hm := hm.pk (L' := [ow [ac] aW, blk aR [(nV aE.to), aQ] 87, holeE aT aV aC.length aD (aM : List (List place)) (aE.to).toNat [ac], blk aG [(sV aN aO aA.phis.length aH), aK, (nV aA.jump), (nV aA.on), aL] 59]) [0, 1, 2, 3] rfl rfl
      refine tY rfl (yl isAgg75 ((hm.holeE_at 2 rfl).cell (j := 0) rfl) rfl) (tAk hm [1, 3] rfl fun hS => tO (tf rfl rfl (fun a hf => e_build (vs := #[(0, (.agg #[(nV aB), (nV (-1))]))]) (cs := [(nV aB), (nV (-1))]) et_75 hf hm rfl rfl (by kernel_rfl) rfl rfl) ?_))
      rintro _ w ⟨bS, rfl, hm⟩
      replace hm := hm.lit (xs := ([(⟨aB, -1⟩ : place)] : List place)) 0 rfl rfl rfl rfl
      refine tAk hm [2, 4] rfl fun hS => tO ?_
      obtain ⟨bm, bo⟩ := appM_some.1 bR
      refine tf rfl rfl (fun a hf => e_append 1 et_75 hf hm rfl (hm.ow_rep 0 rfl) rfl rfl rfl bm) ?_
      rintro ae w hm
      rw [bo] at hm
      refine tAk hm [2, 4] rfl fun hS => ?_
      have hL3_2 := hm.holeE_len 3 rfl
      refine tP rfl (fun w => yI st_73 bH (idx_lt2 aS hL3_2) rfl) (tO ?_)
      have bT : ∀ u ∈ ([ae] : List Value), u.oneCell' = true := (one_cons (rep_one (hm.ow_rep 1 rfl)) one_nil)
      refine tf0 rfl rfl (fun a hf => e_storeH (j := 0) (vs := [ae]) 3 hf hm rfl rfl rfl sizeOf75 rfl rfl (cells_one (bT _ (List.mem_singleton.2 rfl))) bT rfl) ?_
      rintro _ w hm
      replace hm : Mem w0 (hp w0) _ [ow [(sV bS 0 1 1)] ([(⟨aB, -1⟩ : place)] : List place), ow [ae] aP, blk aR [(nV aE.to), aQ] 87, holeE aT aV aC.length aD (aM : List (List place)) (aE.to).toNat [ae], blk aG [(sV aN aO aA.phis.length aH), aK, (nV aA.jump), (nV aA.on), aL] 59] := hm
      refine tAn rfl (tE ?_)
      replace hm := hm.imp (c' := ow [ae] (aP : List place)) 1 rfl (fun F h0 => h0)
      replace hm := (hm.shutE (y := (aP : List place)) 3 1 (by decide) rfl rfl).pk (L' := [ow [(sV bS 0 1 1)] ([(⟨aB, -1⟩ : place)] : List place), blk aR [(nV aE.to), aQ] 87, ow [(sV aT aV aC.length aD)] (aM.set (aE.to).toNat aP), blk aG [(sV aN aO aA.phis.length aH), aK, (nV aA.jump), (nV aA.on), aL] 59]) [0, 2, 3, 4] rfl rfl
      have cU := List.getElem?_set_self (a := (aP : List place)) (idx_lt aS)
      exact gz hm [2, 3] rfl
     refine tO (tf rfl rfl (fun a hf => e_build (vs := #[(0, (.agg #[(nV aB), (nV (-1))]))]) (cs := [(nV aB), (nV (-1))]) et_75 hf hm rfl rfl (by kernel_rfl) rfl rfl) ?_)
     rintro _ w ⟨ax, rfl, hm⟩
     replace hm := hm.lit (xs := ([(⟨aB, -1⟩ : place)] : List place)) 0 rfl rfl rfl rfl
     refine tAk hm [1, 3] rfl fun hS => tO ?_
     obtain ⟨_, bp, hm⟩ := hm.openE 2 rfl aS
     have bq := hm.ow_rep 0 rfl
     have ay := bq
     obtain ⟨af, rfl, -⟩ := id ay
     replace ay : GT.rep (hp _) [af] aW := ay
     clear bp ay
     replace hm : Mem w0 (hp w0) _ [ow [af] (aW : List place), ow [(sV ax 0 1 1)] ([(⟨aB, -1⟩ : place)] : List place), blk aR [(nV aE.to), aQ] 87, holeE aT aV aC.length aD (aM : List (List place)) (aE.to).toNat [af], blk aG [(sV aN aO aA.phis.length aH), aK, (nV aA.jump), (nV aA.on), aL] 59] := hm
     replace hm := hm.pk (L' := [ow [af] aW, ow [(sV ax 0 1 1)] ([(⟨aB, -1⟩ : place)] : List place), blk aR [(nV aE.to), aQ] 87, holeE aT aV aC.length aD (aM : List (List place)) (aE.to).toNat [af], blk aG [(sV aN aO aA.phis.length aH), aK, (nV aA.jump), (nV aA.on), aL] 59]) [0, 1, 2, 3, 4] rfl rfl
     refine tY rfl (yl isAgg75 ((hm.holeE_at 3 rfl).cell (j := 0) rfl) rfl) (tAk hm [2, 4] rfl fun hS => tO ?_)
     obtain ⟨br, bs⟩ := appM_some.1 bR
     refine tf rfl rfl (fun a hf => e_append 0 et_75 hf hm rfl (hm.ow_rep 1 rfl) rfl rfl rfl br) ?_
     rintro ag w hm
     rw [bs] at hm
     refine tAk hm [2, 4] rfl fun hS => ?_
     have hL3_3 := hm.holeE_len 3 rfl
     refine tP rfl (fun w => yI st_73 bH (idx_lt2 aS hL3_3) rfl) (tO ?_)
     have bU : ∀ u ∈ ([ag] : List Value), u.oneCell' = true := (one_cons (rep_one (hm.ow_rep 0 rfl)) one_nil)
     refine tf0 rfl rfl (fun a hf => e_storeH (j := 0) (vs := [ag]) 3 hf hm rfl rfl rfl sizeOf75 rfl rfl (cells_one (bU _ (List.mem_singleton.2 rfl))) bU rfl) ?_
     rintro _ w hm
     replace hm : Mem w0 (hp w0) _ [ow [ag] aP, ow [(sV ax 0 1 1)] ([(⟨aB, -1⟩ : place)] : List place), blk aR [(nV aE.to), aQ] 87, holeE aT aV aC.length aD (aM : List (List place)) (aE.to).toNat [ag], blk aG [(sV aN aO aA.phis.length aH), aK, (nV aA.jump), (nV aA.on), aL] 59] := hm
     refine tAn rfl (tE ?_)
     replace hm := hm.imp (c' := ow [ag] (aP : List place)) 0 rfl (fun F h0 => h0)
     replace hm := (hm.shutE (y := (aP : List place)) 3 0 (by decide) rfl rfl).pk (L' := [ow [(sV ax 0 1 1)] ([(⟨aB, -1⟩ : place)] : List place), blk aR [(nV aE.to), aQ] 87, ow [(sV aT aV aC.length aD)] (aM.set (aE.to).toNat aP), blk aG [(sV aN aO aA.phis.length aH), aK, (nV aA.jump), (nV aA.on), aL] 59]) [1, 2, 3, 4] rfl rfl
     have cV := List.getElem?_set_self (a := (aP : List place)) (idx_lt aS)
     exact gz hm [2, 3] rfl
    repeat clear hm
    intro au w hm
    exact gR (gP (by omega) (by omega) rfl (gM rfl (gE (gze hm [0, 1] rfl))))
   repeat clear hm
   intro cW cX w hm cY cZ
   refine gS (gR (gB rfl (gE (gS (go _ 26 rfl (decide_eq_false (by omega)) (gcf rfl (gXt (gHh (gS (gR (gF fo_59_1 rfl (gL hm 1 isAgg56 rfl ?_))))))))))))
   obtain ⟨bV, bK, rfl, c7⟩ := ro_slice aq
   refine gY (yV st_56 rfl) (gM rfl (gE (gBk (gNf hm (fun aJ aX => [(3, (.slice aF aC.length aD)), (4, (nV aB)), (15, (sV aa ab c_.blocks.length aY)), (16, (nV ((c_.blocks.length : Int)))), (17, (nV aB)), (44, (.slice bV aA.ins.length bK)), (45, (nV ((aA.ins.length : Int)))), (46, (nV aJ))]) (fun aJ aX => [ow [(.slice aF aC.length aD)] aX]) [0] rfl ?_ ?_))))
   ·
    repeat clear hm
    intro _ _ aJ aX w hm c8 c9 ca _
    refine gS (gR (gB rfl (gE (gS (go _ 47 rfl (decide_eq_true (by omega)) (gct rfl (gSk (gS (gJ hm (fun az => [(3, (.slice aF aC.length aD)), (4, (nV aB)), (15, (sV aa ab c_.blocks.length aY)), (16, (nV ((c_.blocks.length : Int)))), (17, (nV aB)), (44, (.slice bV aA.ins.length bK)), (45, (nV ((aA.ins.length : Int)))), (46, (nV aJ))]) (fun az => [ow [(.slice aF aC.length aD)] az]) (fun az => ?_) ?_)))))))))
    ·
     refine gBk (gS (gR (gM rfl (gg fun aI bt bL => ?_))))
     obtain ⟨bu, bv, cb, he⟩ := idx_form' aq bL
     obtain ⟨rfl, _, rfl⟩ := sl3 he
     obtain ⟨ah, bw, bW⟩ := rk_Ins_ aq bL
     refine gI st_56 bt (idx_lt bL) rfl (gY (yn (bw.mono hm.lez) isAgg61 sizeOf61 rfl) (gAl hm zeroValue61 rfl fun bA w hm => gA rfl (gSN hm 0 sizeOf61 (one_cons rfl (one_cons rfl (one_cons (rep_one bW) (one_cons rfl one_nil)))) rfl fun w hm => gE (gS (gR (gY (yn (hm.blk_at 0 rfl) isAgg61 sizeOf61 rfl) (gC hm rfl call99 (impl_MadeBy_ok _ aI ah (hm.now bW)) fun ai cc w hm => gA rfl (gE (gS (gR (gM rfl (gB rfl (gE (gJ hm (fun bB => [(3, (.slice aF aC.length aD)), (4, (nV aB)), (15, (sV aa ab c_.blocks.length aY)), (16, (nV ((c_.blocks.length : Int)))), (17, (nV aB)), (44, (sV bu bv aA.ins.length bK)), (45, (nV ((aA.ins.length : Int)))), (46, (nV aJ))]) (fun bB => [ow [(.slice aF aC.length aD)] bB]) (fun bB => ?_) ?_))))))))))))))
     ·
      refine gsd 54 rfl (fun bx => ?_) fun bx => ?_
      ·
       refine gct rfl (gR (gM rfl (gM rfl (gM rfl (gM rfl (gg fun bC bX aZ => ?_))))))
       obtain ⟨aj, ak, cd, he⟩ := idx_form' (hm.ow_rep 1 rfl) aZ
       obtain ⟨rfl, _, rfl⟩ := sl3 he
       obtain ⟨_, _, bY, bz⟩ := ro_get' (hm.ow_rep 1 rfl) aZ
       have bM := bz
       obtain ⟨bZ, rfl, -⟩ := id bM
       replace bM : GT.rep (hp _) [bZ] bC := bM
       replace bY : CellsAt (hp _) aj (ak + (ai).toNat * 1) [bZ] := bY
       have hL4_1 := rep_slice_len (hm.ow_rep 1 rfl)
       refine gI st_73 bX (idx_lt2 aZ hL4_1) rfl ?_
       obtain ⟨_, cA, hm⟩ := hm.openE 1 rfl aZ
       have cB := hm.ow_rep 0 rfl
       have bD := cB
       obtain ⟨am, rfl, -⟩ := id bD
       replace bD : GT.rep (hp _) [am] bC := bD
       clear cA bD
       replace hm : Mem w0 (hp w0) _ [ow [am] (bC : List place), blk bA [(nV aI.op), (nV aI.to), ah, (nV aI.n_)] 61, holeE aj ak aC.length aD (aX : List (List place)) (ai).toNat [am]] := hm
       replace hm := hm.pk (L' := [ow [am] bC, blk bA [(nV aI.op), (nV aI.to), ah, (nV aI.n_)] 61, holeE aj ak aC.length aD (aX : List (List place)) (ai).toNat [am]]) [0, 1, 2] rfl rfl
       refine gY (yl isAgg75 ((hm.holeE_at 2 rfl).cell (j := 0) rfl) rfl) (gM rfl (gM rfl (gY (yG rfl (y_build (vs := [(0, (nV aB)), (1, (nV aJ))]) (cs := #[(nV aB), (nV aJ)]) rfl rfl (by kernel_rfl))) (gf rfl (fun a hf => e_build (vs := #[(0, (.agg #[(nV aB), (nV aJ)]))]) (cs := [(nV aB), (nV aJ)]) et_75 hf hm rfl rfl (by kernel_rfl) rfl rfl) ?_))))
       rintro _ w ⟨b7, rfl, hm⟩
       replace hm := hm.lit (xs := ([(⟨aB, aJ⟩ : place)] : List place)) 0 rfl rfl rfl rfl
       refine gb fun an cC => ?_
       obtain ⟨cD, cE⟩ := appM_some.1 cC
       refine gf rfl (fun a hf => e_append 1 et_75 hf hm rfl (hm.ow_rep 0 rfl) rfl rfl rfl cD) ?_
       rintro ao w hm
       rw [cE] at hm
       have hL4_2 := hm.holeE_len 3 rfl
       refine gI st_73 bX (idx_lt2 aZ hL4_2) rfl ?_
       have b8 : ∀ u ∈ ([ao] : List Value), u.oneCell' = true := (one_cons (rep_one (hm.ow_rep 1 rfl)) one_nil)
       refine gf0 rfl (fun a hf => e_storeH (j := 0) (vs := [ao]) 3 hf hm rfl rfl rfl sizeOf75 rfl rfl (cells_one (b8 _ (List.mem_singleton.2 rfl))) b8 rfl) ?_
       rintro _ w hm
       replace hm : Mem w0 (hp w0) _ [ow [(sV b7 0 1 1)] ([(⟨aB, aJ⟩ : place)] : List place), ow [ao] an, blk bA [(nV aI.op), (nV aI.to), ah, (nV aI.n_)] 61, holeE aj ak aC.length aD (aX : List (List place)) (ai).toNat [ao]] := hm
       refine gE ?_
       replace hm := hm.imp (c' := ow [ao] (an : List place)) 1 rfl (fun F h0 => h0)
       replace hm := (hm.shutE (y := (an : List place)) 3 1 (by decide) rfl rfl).pk (L' := [ow [(sV b7 0 1 1)] ([(⟨aB, aJ⟩ : place)] : List place), blk bA [(nV aI.op), (nV aI.to), ah, (nV aI.n_)] 61, ow [(sV aj ak aC.length aD)] (aX.set (ai).toNat an)]) [0, 2, 3] rfl rfl
       have ce := List.getElem?_set_self (a := (an : List place)) (idx_lt aZ)
       exact gz hm [2] rfl
      exact gcf rfl (gSk (gz hm [1] rfl))
     repeat clear hm
     intro bB w hm
     exact gz hm [0] rfl
    repeat clear hm
    intro az w hm
    exact gR (gP (by omega) (by omega) rfl (gM rfl (gE (gze hm [0] rfl))))
   repeat clear hm
   intro cf cg w hm ci cj
   exact gS (gR (gB rfl (gE (gS (go _ 47 rfl (decide_eq_false (by omega)) (gcf rfl (gXt (gHh (gR (gP (by omega) (by omega) rfl (gM rfl (gE (gze hm [0] rfl)))))))))))))
  repeat clear hm
  intro ck cl w hm cm cn
  exact gS (gR (gB rfl (gE (gS (go _ 18 rfl (decide_eq_false (by omega)) (gcf rfl (gXt (gHh (gS (gR (gM rfl (gA rfl (gE (gRt (gr1 results55 rfl ⟨(.slice aF aC.length aD), rfl, hm.pk [0] rfl rfl⟩)))))))))))))))
theorem slices_Index_S_bool_bool_ok (w0 : World) (s_ : List Bool) (v1 : Value) (h1 : GT.rep (hp w0) [v1] s_) (v_ : Bool) :
    ConM Tryz.prog 214 [v1, (.bool (v_))] w0 (slices_Index_S_bool_bool s_ v_) fun r v w' => v = (nV r) ∧ Below w0.heap.size w0 w' := by
  unfold slices_Index_S_bool_bool
  refine gcon func214 rfl fun r => ?_
  have hm := Mem.start w0
  refine gS (gR (gA rfl (gE (gS (gS (gR (gM rfl ?_)))))))
  obtain ⟨aD, aE, rfl, aK⟩ := ro_slice h1
  refine gY (yV st_98 rfl) (gM rfl (gE (gBk (gNf hm (fun aA aC => [(0, (.slice aD s_.length aE)), (1, (.bool (v_))), (7, (nV ((s_.length : Int)))), (8, (nV aA))]) (fun aA aC => []) [] rfl ?_ ?_))))
  ·
   repeat clear hm
   intro aL aF aA aC w hm aM aN aO aG
   refine gS (gR (gB rfl (gE (gS (go _ 9 rfl (decide_eq_true (by omega)) (gct rfl (gSk (gS (gBk (gS (gR (gM rfl (gA rfl (gE (gS (gR (gM rfl (gM rfl (gM rfl (gg fun aH aI aB => ?_))))))))))))))))))))
   obtain ⟨aP, aQ, aR, he⟩ := idx_form h1 aB
   obtain ⟨rfl, _, rfl⟩ := sl3 he
   refine gI st_98 aI (idx_lt aB) rfl (gY (yl isAgg4 ((flat_cells (cs := [(.bool (aH))]) (hm.now h1) aB rfl).cell (j := 0) rfl) rfl) (gY (yG rfl (y_eqlb underlying4 rfl rfl rfl)) (gE (gsd 16 rfl (fun aJ => ?_) fun aJ => ?_))))
   ·
    exact gct rfl (gS (gR (gM rfl (gA rfl (gE (gRt (gLr aG aF (gr1 results214 rfl ⟨rfl, hm.below⟩))))))))
   exact gcf rfl (gSk (gR (gP (by omega) (by omega) rfl (gM rfl (gE (gze hm [] rfl))))))
  repeat clear hm
  intro aS aT w hm aV aW
  exact gS (gR (gB rfl (gE (gS (go _ 9 rfl (decide_eq_false (by omega)) (gcf rfl (gXt (gHh (gS (gR (gA rfl (gE (gRt (gr1 results214 rfl ⟨rfl, hm.below⟩))))))))))))))
theorem slices_Contains_S_bool_bool_ok (w0 : World) (s_ : List Bool) (v1 : Value) (h1 : GT.rep (hp w0) [v1] s_) (v_ : Bool) :
    ConM Tryz.prog 155 [v1, (.bool (v_))] w0 (slices_Contains_S_bool_bool s_ v_) fun r v w' => v = (.bool (r)) ∧ Below w0.heap.size w0 w' := by
  unfold slices_Contains_S_bool_bool
  refine gcon func155 rfl fun r => ?_
  have hm := Mem.start w0
  exact gS (gR (gA rfl (gE (gS (gR (gM rfl (gM rfl (gC hm rfl call214 (slices_Index_S_bool_bool_ok _ s_ v1 (hm.now h1) v_) fun aA aB w hm => gB rfl (gA rfl (gE (gRt (gr1 results155 rfl ⟨rfl, hm.below⟩))))))))))))
theorem pimpl_doms__has_ok (w0 : World) (d : doms) (bp0 : Nat) (v1p : Value) (h1p : GT.rep (hp w0) [v1p] d.c.blocks) (v2p : Value) (h2p : GT.rep (hp w0) [v2p] d.over) (v3p : Value) (h3p : GT.rep (hp w0) [v3p] d.in_) (hbbp0 : (hp w0) bp0 = some (.cells ([(nV d.c.params), (nV d.c.regs), v1p, v2p, v3p] : List Value).toArray 166 (0, 0))) (b_ : Int) :
    ConM Tryz.prog 180 [(pV bp0), (nV b_)] w0 (pimpl_doms__has d b_) fun r v w' => v = (.bool (r)) ∧ Below w0.heap.size w0 w' := by
  unfold pimpl_doms__has
  refine gcon func180 rfl fun r => ?_
  have hm := Mem.start w0
  refine gS (gR (gA rfl (gE (gS (gJ hm (fun aA => [(4, (.bool (aA)))]) (fun aA => []) (fun aA => ?_) ?_)))))
  ·
   refine gR (gM rfl (gY (yG rfl (y_neqp underlying129 rfl rfl rfl)) (gM rfl (gM rfl (gM rfl (gY (yG rfl (y_nilptr rfl rfl)) (gF fo_166_2 rfl (gY (yl isAgg98 (hm.hz_cell hbbp0 rfl) rfl) ?_))))))))
   obtain ⟨aF, aG, rfl, aH⟩ := ro_slice h3p
   refine gY (yV st_98 rfl) (gY (yS (by omega) (by omega) rfl) (gC hm rfl call43 (impl_within_ok _ b_ 0 (((d.in_.length : Int)) - 1)) fun aI aJ w hm => gKt rfl (gM rfl (gs 17 rfl (fun aC => ?_) fun aC => ?_))))
   ·
    refine gM rfl (gY (yG rfl (y_nilptr rfl rfl)) (gF fo_166_2 rfl (gY (yl isAgg98 (hm.hz_cell hbbp0 rfl) rfl) (gM rfl (gg fun aD aE aB => ?_)))))
    obtain ⟨aK, aL, aM, he⟩ := idx_form h3p aB
    obtain ⟨rfl, _, rfl⟩ := sl3 he
    exact gI st_98 aE (idx_lt aB) rfl (gY (yl isAgg4 ((flat_cells (cs := [(.bool (aD))]) (hm.now h3p) aB rfl).cell (j := 0) rfl) rfl) (gKt rfl (gA rfl (gE (gz hm [] rfl)))))
   exact gO rfl (gO rfl (gO rfl (gO rfl (gO rfl (gO rfl (gO rfl (gKf rfl (gA rfl (gE (gz hm [] rfl))))))))))
  repeat clear hm
  intro aA w hm
  exact gRt (gr1 results180 rfl ⟨rfl, hm.below⟩)
theorem pimpl_doms__dominates_ok (w0 : World) (d : doms) (bp0 : Nat) (v1p : Value) (h1p : GT.rep (hp w0) [v1p] d.c.blocks) (v2p : Value) (h2p : GT.rep (hp w0) [v2p] d.over) (v3p : Value) (h3p : GT.rep (hp w0) [v3p] d.in_) (hbbp0 : (hp w0) bp0 = some (.cells ([(nV d.c.params), (nV d.c.regs), v1p, v2p, v3p] : List Value).toArray 166 (0, 0))) (a_ : Int) (b_ : Int) :
    ConM Tryz.prog 157 [(pV bp0), (nV a_), (nV b_)] w0 (pimpl_doms__dominates d a_ b_) fun r v w' => v = (.bool (r)) ∧ Below w0.heap.size w0 w' := by
  unfold pimpl_doms__dominates
  refine gcon func157 rfl fun r => ?_
  have hm := Mem.start w0
  refine gS (gR (gA rfl (gE (gS (gJ hm (fun aB => [(6, (.bool (aB)))]) (fun aB => []) (fun aB => ?_) ?_)))))
  ·
   refine gR (gM rfl (gM rfl (gC hm rfl call180 (pimpl_doms__has_ok _ d bp0 v1p (hm.now h1p) v2p (hm.now h2p) v3p (hm.now h3p) (hm.lez _ _ ((Heap.le_refl _) _ _ hbbp0)) a_) fun aP aQ w hm => gM rfl (gs 10 rfl (fun aG => ?_) fun aG => ?_))))
   ·
    refine gM rfl (gM rfl (gC hm rfl call180 (pimpl_doms__has_ok _ d bp0 v1p (hm.now h1p) v2p (hm.now h2p) v3p (hm.now h3p) (hm.lez _ _ ((Heap.le_refl _) _ _ hbbp0)) b_) fun aR aS w hm => gKt rfl (gM rfl (gs 15 rfl (fun aH => ?_) fun aH => ?_))))
    ·
     refine gM rfl (gY (yG rfl (y_nilptr rfl rfl)) (gF fo_166_1 rfl (gY (yl isAgg99 (hm.hz_cell hbbp0 rfl) rfl) (gM rfl (gg fun aI aJ aC => ?_)))))
     obtain ⟨aK, aL, aT, he⟩ := idx_form' h2p aC
     subst he
     obtain ⟨_, _, aD, aM⟩ := ro_get' h2p aC
     have aA := aM
     obtain ⟨aF, rfl, -⟩ := id aA
     replace aA : GT.rep (hp w0) [aF] aI := aA
     replace aD : CellsAt (hp w0) aK (aL + (a_).toNat * 1) [aF] := aD
     refine gI st_99 aJ (idx_lt aC) rfl (gY (yl isAgg98 ((aD.mono hm.lez).cell (j := 0) rfl) rfl) (gM rfl (gg fun aN aO aE => ?_)))
     obtain ⟨aV, aW, aX, he⟩ := idx_form aA aE
     subst he
     exact gI st_98 aO (idx_lt aE) rfl (gY (yl isAgg4 ((flat_cells (cs := [(.bool (aN))]) (hm.now aA) aE rfl).cell (j := 0) rfl) rfl) (gKt rfl (gA rfl (gE (gz hm [] rfl)))))
    exact gO rfl (gO rfl (gO rfl (gO rfl (gO rfl (gO rfl (gO rfl (gO rfl (gO rfl (gO rfl (gKf rfl (gA rfl (gE (gz hm [] rfl)))))))))))))
   exact gO rfl (gO rfl (gO rfl (gKf rfl (gM rfl (gO rfl (gO rfl (gO rfl (gO rfl (gO rfl (gO rfl (gO rfl (gO rfl (gO rfl (gO rfl (gKf rfl (gA rfl (gE (gz hm [] rfl))))))))))))))))))
  repeat clear hm
  intro aB w hm
  exact gRt (gr1 results157 rfl ⟨rfl, hm.below⟩)
theorem impl_singleCode_1_ok (w0 : World) (r_ : Int) (b_ : Int) (i_ : Int) (c0_ : Code_) (bpc0 : Nat) (v1p : Value) (h1p : GT.rep (hp w0) [v1p] c0_.blocks) (hbbpc0 : (hp w0) bpc0 = some (.cells ([(nV c0_.params), (nV c0_.regs), v1p] : List Value).toArray 44 (0, 0))) (c1_ : List (List place)) (bpc1 : Nat) (v2p : Value) (h2p : GT.rep (hp w0) [v2p] c1_) (hbbpc1 : (hp w0) bpc1 = some (.cells ([v2p] : List Value).toArray 73 (0, 0))) (c2_ : doms) (bpc2 : Nat) (bpd2 : Nat) (v3p : Value) (h3p : GT.rep (hp w0) [v3p] c2_.c.blocks) (v4p : Value) (h4p : GT.rep (hp w0) [v4p] c2_.over) (v5p : Value) (h5p : GT.rep (hp w0) [v5p] c2_.in_) (hbbpd2 : (hp w0) bpd2 = some (.cells ([(nV c2_.c.params), (nV c2_.c.regs), v3p, v4p, v5p] : List Value).toArray 166 (0, 0))) (hbbpc2 : (hp w0) bpc2 = some (.cells ([(pV bpd2)] : List Value).toArray 129 (0, 0))) :
    ConM Tryz.prog 156 [(nV r_), (nV b_), (nV i_), (pV bpc0), (pV bpc1), (pV bpc2)] w0 (impl_singleCode_1 r_ b_ i_ c0_ c1_ c2_) fun r v w' => v = (.bool (r)) ∧ Below w0.heap.size w0 w' := by
  unfold impl_singleCode_1
  refine gcon func156 rfl fun r => ?_
  have hm := Mem.start w0
  refine gS (gR (gA rfl (gE (gS (gS (gR (gM rfl (gF fo_44_0 rfl (gY (yl isAgg3 (hm.hz_cell hbbpc0 rfl) rfl) (gB rfl (gE (gsd 13 rfl (fun aJ => ?_) fun aJ => ?_))))))))))))
  ·
   exact gct rfl (gS (gR (gA rfl (gE (gRt (gr1 results156 rfl ⟨rfl, hm.below⟩))))))
  refine gcf rfl (gSk (gS (gJ hm (fun aH => [(9, (.bool (aH)))]) (fun aH => []) (fun aH => ?_) ?_)))
  ·
   refine gW (.p 1 (.e 0 (.p 2 (.e 3 (.p 4 (.p 5 (.p 6 (.p 8 (.p 14 (.e 7 (.p 9 (.e 10 (.p 11 (.p 12 (.e 13 (.p 15 (.p 16 (.p 18 (.p 24 (.e 17 (.p 19 (.e 20 (.p 21 (.p 22 (.e 23 (.p 25 (.p 26 (.p 27 (.p 29 (.p 35 (.e 28 (.p 30 (.e 31 (.p 32 (.p 33 (.e 34 (.p 36 (.p 37 (.p 40 (.p 46 (.q 38 (.e 39 (.p 41 (.e 42 (.p 43 (.p 44 (.e 45 (.e 47 (.p 48 (.p 49 (.p 50 (.p 51 .fin)))) .nil) .nil))) .nil)) .nil)))))) .nil))) .nil)) .nil)))))) .nil))) .nil)) .nil))))) .nil))) .nil)) .nil)))))) .nil)) .nil)) [39, 42, 45] [1, 2, 4, 5, 6, 8, 9, 11, 12, 14, 15, 16, 18, 19, 21, 22, 24, 25, 26, 27, 29, 30, 32, 33, 35, 36, 37, 40, 41, 43, 44, 46, 48, 49, 50, 51] hm [] [] rfl mxo (by kernel_rfl) (fun _ _ _ h => h.2) fun w hm hS => tP rfl (fun w => yM rfl) (tO (tY rfl (yl isAgg73 (hm.hz_cell hbbpc1 rfl) rfl) (tAn rfl (gg fun aK aF aD => ?_))))
   obtain ⟨aL, aM, aW, he⟩ := idx_form' h2p aD
   subst he
   obtain ⟨_, _, aE, aN⟩ := ro_get' h2p aD
   have aC := aN
   obtain ⟨aI, rfl, -⟩ := id aC
   replace aC : GT.rep (hp w0) [aI] aK := aC
   replace aE : CellsAt (hp w0) aL (aM + (r_).toNat * 1) [aI] := aE
   refine tP rfl (fun w => yI st_73 aF (idx_lt aD) rfl) (tO (tY rfl (yl isAgg75 ((aE.mono hm.lez).cell (j := 0) rfl) rfl) (tAn rfl ?_)))
   obtain ⟨aX, aY, rfl, aZ⟩ := ro_slice aC
   refine tP rfl (fun w => yV st_75 rfl) (tP rfl (fun w => yB rfl) (tP rfl (fun w => yM rfl) (gsd 20 rfl (fun aO => ?_) fun aO => ?_)))
   ·
    refine tP rfl (fun w => yM rfl) (tP rfl (fun w => yM rfl) (tO (tY rfl (yl isAgg73 (hm.hz_cell hbbpc1 rfl) rfl) (tAn rfl (tP rfl (fun w => yI st_73 aF (idx_lt aD) rfl) (tO (tY rfl (yl isAgg75 ((aE.mono hm.lez).cell (j := 0) rfl) rfl) (tAn rfl (gg fun aA aG aB => ?_)))))))))
    obtain ⟨aa, ab, ac, he⟩ := idx_form aC aB
    obtain ⟨rfl, _, rfl⟩ := sl3 he
    refine tP rfl (fun w => yI st_75 aG (idx_lt aB) rfl) (tP rfl (fun w => yF fo_77_0 rfl) (tO (tY rfl (yl isAgg3 ((flat_cells (cs := [(nV aA.block), (nV aA.ins)]) (hm.now aC) aB rfl).cell (j := 0) rfl) rfl) (tAn rfl (tP rfl (fun w => yB rfl) (tP rfl (fun w => yM rfl) (gsd 30 rfl (fun aP => ?_) fun aP => ?_)))))))
    ·
     refine tP rfl (fun w => yM rfl) (tP rfl (fun w => yM rfl) (tO (tY rfl (yl isAgg73 (hm.hz_cell hbbpc1 rfl) rfl) (tAn rfl (tP rfl (fun w => yI st_73 aF (idx_lt aD) rfl) (tO (tY rfl (yl isAgg75 ((aE.mono hm.lez).cell (j := 0) rfl) rfl) (tAn rfl (tP rfl (fun w => yI st_75 aG (idx_lt aB) rfl) (tP rfl (fun w => yF fo_77_1 rfl) (tO (tY rfl (yl isAgg3 ((flat_cells (cs := [(nV aA.block), (nV aA.ins)]) (hm.now aC) aB rfl).cell (j := 1) rfl) rfl) (tAn rfl (tP rfl (fun w => yB rfl) (tP rfl (fun w => yKt rfl) (tP rfl (fun w => yM rfl) (gsd 41 rfl (fun aQ => ?_) fun aQ => ?_)))))))))))))))))
     ·
      refine tPo rfl rfl (tPo rfl rfl (tO (tEo rfl rfl (tAn rfl (tPo rfl rfl (tO (tEo rfl rfl (tAn rfl (tPo rfl rfl (tPo rfl rfl (tO (tEo rfl rfl (tAn rfl (tPo rfl rfl (tPo rfl rfl (tPo rfl rfl (tPo rfl rfl (tQo rfl hS rfl (tO (tEo rfl rfl (tAs hS (tPo rfl rfl (tO (tEo rfl rfl (tAs hS (tPo rfl rfl (tPo rfl rfl (tO (tEo rfl rfl (tAs hS ?_))))))))))))))))))))))))))))))
      exact tO (tEo rfl rfl (tAn rfl (tPo rfl rfl (tP rfl (fun w => yKt rfl) (tP rfl (fun w => yKt rfl) (tP rfl (fun w => yA rfl) (tE (gz hm [] rfl))))))))
     refine tP rfl (fun w => yM rfl) (tP rfl (fun w => yM rfl) (tO (tY rfl (yl isAgg73 (hm.hz_cell hbbpc1 rfl) rfl) (tAn rfl (tP rfl (fun w => yI st_73 aF (idx_lt aD) rfl) (tO (tY rfl (yl isAgg75 ((aE.mono hm.lez).cell (j := 0) rfl) rfl) (tAn rfl (tP rfl (fun w => yI st_75 aG (idx_lt aB) rfl) (tP rfl (fun w => yF fo_77_0 rfl) (tO (tY rfl (yl isAgg3 ((flat_cells (cs := [(nV aA.block), (nV aA.ins)]) (hm.now aC) aB rfl).cell (j := 0) rfl) rfl) (tAn rfl (tP rfl (fun w => yB rfl) (tP rfl (fun w => yM rfl) (gsd 51 rfl (fun aR => ?_) fun aR => ?_))))))))))))))))
     ·
      refine tP rfl (fun w => yM rfl) (tP rfl (fun w => yM rfl) (tQ rfl hS (fun w hm => yl isAgg129 (hm.hz_cell hbbpc2 rfl) rfl) (tO (tY rfl (yl isAgg73 (hm.hz_cell hbbpc1 rfl) rfl) (tAs hS (tP rfl (fun w => yI st_73 aF (idx_lt aD) rfl) (tO (tY rfl (yl isAgg75 ((aE.mono hm.lez).cell (j := 0) rfl) rfl) (tAs hS (tP rfl (fun w => yI st_75 aG (idx_lt aB) rfl) (tP rfl (fun w => yF fo_77_0 rfl) (tO (tY rfl (yl isAgg3 ((flat_cells (cs := [(nV aA.block), (nV aA.ins)]) (hm.now aC) aB rfl).cell (j := 0) rfl) rfl) (tAs hS (tO (gb fun ae aS => tf rfl rfl (fun a hf => e_call hf rfl call157 rfl (pimpl_doms__dominates_ok _ c2_ bpd2 v3p (hm.now h3p) v4p (hm.now h4p) v5p (hm.now h5p) (hm.lez _ _ ((Heap.le_refl _) _ _ hbbpd2)) aA.block b_ _ aS)) ?_))))))))))))))))
      rintro af w ⟨rfl, hB⟩
      replace hm := hm.below' hB; clear hB
      exact tAn rfl (tP rfl (fun w => yKt rfl) (tP rfl (fun w => yKf rfl) (tP rfl (fun w => yKt rfl) (tP rfl (fun w => yA rfl) (tE (gz hm [] rfl))))))
     exact tPo rfl rfl (tPo rfl rfl (tQo rfl hS rfl (tO (tEo rfl rfl (tAs hS (tPo rfl rfl (tO (tEo rfl rfl (tAs hS (tPo rfl rfl (tPo rfl rfl (tO (tEo rfl rfl (tAs hS (tO (tEo rfl rfl (tAn rfl (tP rfl (fun w => yKf rfl) (tP rfl (fun w => yKf rfl) (tP rfl (fun w => yKt rfl) (tP rfl (fun w => yA rfl) (tE (gz hm [] rfl)))))))))))))))))))))))
    refine tPo rfl rfl (tPo rfl rfl (tO (tEo rfl rfl (tAn rfl (tPo rfl rfl (tO (tEo rfl rfl (tAn rfl (tPo rfl rfl (tPo rfl rfl (tO (tEo rfl rfl (tAn rfl (tPo rfl rfl (tP rfl (fun w => yKf rfl) (tP rfl (fun w => yM rfl) (tP rfl (fun w => yM rfl) (tP rfl (fun w => yM rfl) (tO (tY rfl (yl isAgg73 (hm.hz_cell hbbpc1 rfl) rfl) (tAn rfl (tP rfl (fun w => yI st_73 aF (idx_lt aD) rfl) (tO (tY rfl (yl isAgg75 ((aE.mono hm.lez).cell (j := 0) rfl) rfl) (tAn rfl (tP rfl (fun w => yI st_75 aG (idx_lt aB) rfl) (tP rfl (fun w => yF fo_77_0 rfl) (tO (tY rfl (yl isAgg3 ((flat_cells (cs := [(nV aA.block), (nV aA.ins)]) (hm.now aC) aB rfl).cell (j := 0) rfl) rfl) (tAn rfl ?_))))))))))))))))))))))))))))))
    refine tP rfl (fun w => yB rfl) (tP rfl (fun w => yM rfl) (gsd 51 rfl (fun aT => ?_) fun aT => ?_))
    ·
     refine tP rfl (fun w => yM rfl) (tP rfl (fun w => yM rfl) (tQ rfl hS (fun w hm => yl isAgg129 (hm.hz_cell hbbpc2 rfl) rfl) (tO (tY rfl (yl isAgg73 (hm.hz_cell hbbpc1 rfl) rfl) (tAs hS (tP rfl (fun w => yI st_73 aF (idx_lt aD) rfl) (tO (tY rfl (yl isAgg75 ((aE.mono hm.lez).cell (j := 0) rfl) rfl) (tAs hS (tP rfl (fun w => yI st_75 aG (idx_lt aB) rfl) (tP rfl (fun w => yF fo_77_0 rfl) (tO (tY rfl (yl isAgg3 ((flat_cells (cs := [(nV aA.block), (nV aA.ins)]) (hm.now aC) aB rfl).cell (j := 0) rfl) rfl) (tAs hS (tO (gb fun ag aV => tf rfl rfl (fun a hf => e_call hf rfl call157 rfl (pimpl_doms__dominates_ok _ c2_ bpd2 v3p (hm.now h3p) v4p (hm.now h4p) v5p (hm.now h5p) (hm.lez _ _ ((Heap.le_refl _) _ _ hbbpd2)) aA.block b_ _ aV)) ?_))))))))))))))))
     rintro ah w ⟨rfl, hB⟩
     replace hm := hm.below' hB; clear hB
     exact tAn rfl (tP rfl (fun w => yKt rfl) (tP rfl (fun w => yKf rfl) (tP rfl (fun w => yKt rfl) (tP rfl (fun w => yA rfl) (tE (gz hm [] rfl))))))
    exact tPo rfl rfl (tPo rfl rfl (tQo rfl hS rfl (tO (tEo rfl rfl (tAs hS (tPo rfl rfl (tO (tEo rfl rfl (tAs hS (tPo rfl rfl (tPo rfl rfl (tO (tEo rfl rfl (tAs hS (tO (tEo rfl rfl (tAn rfl (tP rfl (fun w => yKf rfl) (tP rfl (fun w => yKf rfl) (tP rfl (fun w => yKt rfl) (tP rfl (fun w => yA rfl) (tE (gz hm [] rfl)))))))))))))))))))))))
   refine tPo rfl rfl (tPo rfl rfl (tO (tEo rfl rfl (tAn rfl (tPo rfl rfl (tO (tEo rfl rfl (tAn rfl (tPo rfl rfl (tPo rfl rfl (tO (tEo rfl rfl (tAn rfl (tPo rfl rfl (tPo rfl rfl (tPo rfl rfl (tPo rfl rfl (tO (tEo rfl rfl (tAn rfl (tPo rfl rfl (tO (tEo rfl rfl (tAn rfl (tPo rfl rfl (tPo rfl rfl (tO (tEo rfl rfl (tAn rfl (tPo rfl rfl ?_))))))))))))))))))))))))))))))
   refine tPo rfl rfl (tPo rfl rfl (tPo rfl rfl (tPo rfl rfl (tO (tEo rfl rfl (tAn rfl (tPo rfl rfl (tO (tEo rfl rfl (tAn rfl (tPo rfl rfl (tPo rfl rfl (tO (tEo rfl rfl (tAn rfl (tPo rfl rfl (tPo rfl rfl (tPo rfl rfl (tPo rfl rfl (tQo rfl hS rfl (tO (tEo rfl rfl (tAs hS (tPo rfl rfl (tO (tEo rfl rfl (tAs hS (tPo rfl rfl (tPo rfl rfl (tO ?_))))))))))))))))))))))))))))))
   exact tEo rfl rfl (tAs hS (tO (tEo rfl rfl (tAn rfl (tPo rfl rfl (tPo rfl rfl (tP rfl (fun w => yKf rfl) (tP rfl (fun w => yA rfl) (tE (gz hm [] rfl))))))))))
  repeat clear hm
  intro aH w hm
  exact gRt (gr1 results156 rfl ⟨rfl, hm.below⟩)
theorem impl_singleCode_2_ok (w0 : World) (r_ : Int) (c0_0_ : Code_) (aA : Nat) (v1 : Value) (h1 : GT.rep (hp w0) [v1] c0_0_.blocks) (aD : w0.heap[aA]? = some (.cells ([(nV c0_0_.params), (nV c0_0_.regs), v1] : List Value).toArray 44 (0, 0))) (c0_1_ : List (List place)) (aB : Nat) (v2 : Value) (h2 : GT.rep (hp w0) [v2] c0_1_) (aE : w0.heap[aB]? = some (.cells ([v2] : List Value).toArray 73 (0, 0))) (c0_2_ : doms) (aC : Nat) (bf0_2d : Nat) (v3 : Value) (h3 : GT.rep (hp w0) [v3] c0_2_.c.blocks) (v4 : Value) (h4 : GT.rep (hp w0) [v4] c0_2_.over) (v5 : Value) (h5 : GT.rep (hp w0) [v5] c0_2_.in_) (hbf0_2d : w0.heap[bf0_2d]? = some (.cells ([(nV c0_2_.c.params), (nV c0_2_.c.regs), v3, v4, v5] : List Value).toArray 166 (0, 0))) (aF : w0.heap[aC]? = some (.cells ([(pV bf0_2d)] : List Value).toArray 129 (0, 0))) (bf0 : Nat) (hbf0 : w0.heap[bf0]? = some (.cells ([(.func (.func 156) #[] #[(pV aA), (pV aB), (pV aC)])] : List Value).toArray 54 (0, 0))) (c1_ : Int) (bf1 : Nat) (hbf1 : w0.heap[bf1]? = some (.cells ([(nV c1_)] : List Value).toArray 3 (0, 0))) (c2_ : Int) (bf2 : Nat) (hbf2 : w0.heap[bf2]? = some (.cells ([(nV c2_)] : List Value).toArray 3 (0, 0))) :
    ConM Tryz.prog 158 [(nV r_), (pV bf0), (pV bf1), (pV bf2)] w0 (impl_singleCode_2 r_ c0_0_ c0_1_ c0_2_ c1_ c2_) fun r v w' => v = (.bool (r)) ∧ Below w0.heap.size w0 w' := by
  unfold impl_singleCode_2
  refine gcon func158 rfl fun r => ?_
  have hm := Mem.start w0
  refine gS (gR (gA rfl (gE (gS (gR (gY (yl isAgg54 (hm.old_cell hbf0 rfl) rfl) (gM rfl (gY (yl isAgg3 (hm.old_cell hbf1 rfl) rfl) (gY (yl isAgg3 (hm.old_cell hbf2 rfl) rfl) (gb fun aH aG => gf rfl (fun a hf => e_callv hf rfl rfl rfl ⟨156, [(pV aA), (pV aB), (pV aC)], rfl, call156, impl_singleCode_1_ok _ r_ c1_ c2_ c0_0_ aA v1 (rep_later (hm.now h1) (Below.refl _ _)) (hm.old_later aD (Below.refl _ _)) c0_1_ aB v2 (rep_later (hm.now h2) (Below.refl _ _)) (hm.old_later aE (Below.refl _ _)) c0_2_ aC bf0_2d v3 (rep_later (hm.now h3) (Below.refl _ _)) v4 (rep_later (hm.now h4) (Below.refl _ _)) v5 (rep_later (hm.now h5) (Below.refl _ _)) (hm.old_later hbf0_2d (Below.refl _ _)) (hm.old_later aF (Below.refl _ _)) _ aG⟩) ?_))))))))))
  rintro aI w ⟨rfl, hB⟩
  replace hm := hm.below' hB; clear hB
  exact gN rfl (gA rfl (gE (gRt (gr1 results158 rfl ⟨rfl, hm.below⟩))))
abbrev od103_1 : Go.Wk.Ord := (.e 6 (.e 7 .fin .nil) .nil)
abbrev od103_2 : Go.Wk.Ord := (.e 3 (.e 5 od103_1 .nil) (.e 5 (.e 3 od103_1 .nil) .nil))
abbrev od103_3 : Go.Wk.Ord := (.e 3 (.e 4 od103_1 .nil) (.e 4 (.e 3 od103_1 .nil) .nil))
abbrev od103_4 : Go.Wk.Ord := (.e 1 (.e 3 od103_1 .nil) .nil)
theorem impl_singleCode_ok (w0 : World) (c_ : Code_) (v1 : Value) (h1 : GT.rep (hp w0) [v1] c_.blocks) :
    ConM Tryz.prog 103 [(.agg #[(nV c_.params), (nV c_.regs), v1])] w0 (impl_singleCode c_) fun r v w' => v = (.bool (r)) ∧ Below w0.heap.size w0 w' := by
  unfold impl_singleCode
  refine gcon func103 rfl fun r => ?_
  have hm := Mem.start w0
  refine gS (gR (gBx hm rfl fun aB w hm => gA rfl (gE (gS (gJg (fun aA a w => ∃ (aw : Heap) (aC aF : Nat) (aQ bS ax : Value) (aD : Nat) (bT : Value), Heap.le (hp w0) aw ∧ GT.rep aw [aQ] (aA.2.2.1) ∧ St 123 [(1, (pV aB)), (3, (pV aC)), (4, (pV aD))] w0 aw [blk aB [(nV c_.params), (nV c_.regs), v1] 44, blk aC [(pV aF)] 129, blk aF [(nV aA.1), (nV aA.2.1), aQ, bS, ax] 166, ow [bS] aA.2.2.2.1, ow [ax] aA.2.2.2.2.1, blk aD [bT] 73, ow [bT] aA.2.2.2.2.2] a w) (fun aA => ?_) ?_)))))
  ·
   refine gW (.q 0 (.q 2 (.e 1 (.e 3 (.e 4 (.e 5 od103_1 .nil) (.e 5 (.e 4 od103_1 .nil) .nil)) (.e 4 od103_2 (.e 5 od103_3 .nil))) (.e 4 (.e 1 od103_2 (.e 5 od103_4 .nil)) (.e 5 (.e 1 od103_3 (.e 4 od103_4 .nil)) .nil))))) [0, 1, 2, 4, 5] [] hm [0] [blk aB [(nV c_.params), (nV c_.regs), v1] 44] rfl mxo (by kernel_rfl) (fun _ _ _ h => h.2) fun w hm hS => tQ rfl hS (fun w hm => yn (hm.blk_at 0 rfl) isAgg44 sizeOf44 rfl) (tQ rfl hS (fun w hm => yn (hm.blk_at 0 rfl) isAgg44 sizeOf44 rfl) (gb fun dv ak => gb fun am aW => gb fun cZ aV => tJg (.e 1 (.e 3 (.e 4 (.e 5 .fin .nil) (.e 5 (.e 4 .fin .nil) .nil)) (.e 4 (.e 3 (.e 5 .fin .nil) (.e 5 (.e 3 .fin .nil) .nil)) (.e 5 (.e 3 (.e 4 .fin .nil) (.e 4 (.e 3 .fin .nil) .nil)) .nil))) (.e 4 (.e 1 (.e 3 (.e 5 .fin .nil) (.e 5 (.e 3 .fin .nil) .nil)) (.e 5 (.e 1 (.e 3 .fin .nil) .nil) .nil)) (.e 5 (.e 1 (.e 3 (.e 4 .fin .nil) (.e 4 (.e 3 .fin .nil) .nil)) (.e 4 (.e 1 (.e 3 .fin .nil) .nil) .nil)) .nil))) od103_1 rfl (fun bu a w => ∃ (an : Heap) (ay az bA : Nat) (bB bC bD bE : Value), Heap.le (hp w0) an ∧ GT.rep an [bB] am.c.blocks ∧ St 123 [(1, (pV aB)), (3, (pV ay)), (4, (pV az)), (18, (pV bA)), (20, bE)] w0 an [blk aB [(nV c_.params), (nV c_.regs), v1] 44, blk ay [(.pointer none)] 129, blk az [(.slice none 0 0)] 73, blk bA [(nV am.c.params), (nV am.c.regs), bB, bC, bD] 166, ow [bC] am.over, ow [bD] am.in_, ow [bE] cZ] a w) (fun bu => ?_) ?_))
   ·
    refine tMo ?_ ?_
    ·
     refine tf rfl rfl (fun a hf => e_call hf rfl call104 rfl (impl_domsOf_ok _ _ hm.lez c_ v1 h1  _ ak)) ?_
     rintro dw w bU
     rcases bU with ⟨bV, -, -⟩ | ⟨dx, bV, bU⟩
     ·
      cases bV.symm.trans aW
     obtain rfl := Option.some.inj (aW.symm.trans bV)
     obtain ⟨ac, ae, af, ag, ah, rfl, aE, ai, hB⟩ := bU
     replace hm := Mem.giveA hm aE hB; clear hB
     refine tAk (hm.thaw aE) [3] rfl fun hS => tMo ?_ ?_
     ·
      refine tf rfl rfl (fun a hf => e_call hf rfl call55 rfl (impl_placesOf_ok _ c_ v1 (hm.now (GT.mono aE h1)) _ aV)) ?_
      rintro bv w ⟨_, rfl, hB⟩
      replace hm := hm.give hB; clear hB
      refine tAn rfl (tMo ?_ ?_)
      ·
       refine tf rfl rfl (fun a hf => e_alloc hm zeroValue129 rfl rfl) ?_
       rintro _ w ⟨c7, rfl, hm⟩
       refine tAk (hm.thaw aE) [5] rfl fun hS => tO (tf rfl rfl (fun a hf => e_alloc hm zeroValue73 rfl rfl) ?_)
       rintro _ w ⟨c8, rfl, hm⟩
       exact tAk (hm.thaw aE) [6] rfl fun hS => tE (gZ fun a hf => ⟨ah, c7, c8, ac, ae, af, ag, bv, aE, ai, hf.sb rfl, hm.pk [6, 1, 0, 3, 4, 5, 2] rfl rfl⟩)
      refine tO (tf rfl rfl (fun a hf => e_alloc hm zeroValue73 rfl rfl) ?_)
      rintro _ w ⟨c9, rfl, hm⟩
      refine tAk (hm.thaw aE) [5] rfl fun hS => tO (tf rfl rfl (fun a hf => e_alloc hm zeroValue129 rfl rfl) ?_)
      rintro _ w ⟨ca, rfl, hm⟩
      exact tAk (hm.thaw aE) [6] rfl fun hS => tE (gZ fun a hf => ⟨ah, ca, c9, ac, ae, af, ag, bv, aE, ai, hf.sb rfl, hm.pk [6, 0, 1, 3, 4, 5, 2] rfl rfl⟩)
     refine tMo ?_ ?_
     ·
      refine tf rfl rfl (fun a hf => e_alloc hm zeroValue129 rfl rfl) ?_
      rintro _ w ⟨bw, rfl, hm⟩
      refine tAk (hm.thaw aE) [4] rfl fun hS => tMo ?_ ?_
      ·
       refine tf rfl rfl (fun a hf => e_call hf rfl call55 rfl (impl_placesOf_ok _ c_ v1 (hm.now (GT.mono aE h1)) _ aV)) ?_
       rintro cb w ⟨_, rfl, hB⟩
       replace hm := hm.give hB; clear hB
       refine tAn rfl (tO (tf rfl rfl (fun a hf => e_alloc hm zeroValue73 rfl rfl) ?_))
       rintro _ w ⟨cc, rfl, hm⟩
       exact tAk (hm.thaw aE) [6] rfl fun hS => tE (gZ fun a hf => ⟨ah, bw, cc, ac, ae, af, ag, cb, aE, ai, hf.sb rfl, hm.pk [6, 2, 0, 3, 4, 5, 1] rfl rfl⟩)
      refine tO (tf rfl rfl (fun a hf => e_alloc hm zeroValue73 rfl rfl) ?_)
      rintro _ w ⟨cd, rfl, hm⟩
      refine tAk (hm.thaw aE) [5] rfl fun hS => tO (tf rfl rfl (fun a hf => e_call hf rfl call55 rfl (impl_placesOf_ok _ c_ v1 (hm.now (GT.mono aE h1)) _ aV)) ?_)
      rintro ce w ⟨_, rfl, hB⟩
      replace hm := hm.give hB; clear hB
      exact tAn rfl (tE (gZ fun a hf => ⟨ah, bw, cd, ac, ae, af, ag, ce, aE, ai, hf.sb rfl, hm.pk [6, 2, 1, 3, 4, 5, 0] rfl rfl⟩))
     refine tO (tf rfl rfl (fun a hf => e_alloc hm zeroValue73 rfl rfl) ?_)
     rintro _ w ⟨bx, rfl, hm⟩
     refine tAk (hm.thaw aE) [4] rfl fun hS => tMo ?_ ?_
     ·
      refine tf rfl rfl (fun a hf => e_call hf rfl call55 rfl (impl_placesOf_ok _ c_ v1 (hm.now (GT.mono aE h1)) _ aV)) ?_
      rintro cf w ⟨_, rfl, hB⟩
      replace hm := hm.give hB; clear hB
      refine tAn rfl (tO (tf rfl rfl (fun a hf => e_alloc hm zeroValue129 rfl rfl) ?_))
      rintro _ w ⟨cg, rfl, hm⟩
      exact tAk (hm.thaw aE) [6] rfl fun hS => tE (gZ fun a hf => ⟨ah, cg, bx, ac, ae, af, ag, cf, aE, ai, hf.sb rfl, hm.pk [6, 0, 2, 3, 4, 5, 1] rfl rfl⟩)
     refine tO (tf rfl rfl (fun a hf => e_alloc hm zeroValue129 rfl rfl) ?_)
     rintro _ w ⟨ci, rfl, hm⟩
     refine tAk (hm.thaw aE) [5] rfl fun hS => tO (tf rfl rfl (fun a hf => e_call hf rfl call55 rfl (impl_placesOf_ok _ c_ v1 (hm.now (GT.mono aE h1)) _ aV)) ?_)
     rintro cj w ⟨_, rfl, hB⟩
     replace hm := hm.give hB; clear hB
     exact tAn rfl (tE (gZ fun a hf => ⟨ah, ci, bx, ac, ae, af, ag, cj, aE, ai, hf.sb rfl, hm.pk [6, 1, 2, 3, 4, 5, 0] rfl rfl⟩))
    refine tMo ?_ ?_
    ·
     refine tf rfl rfl (fun a hf => e_alloc hm zeroValue129 rfl rfl) ?_
     rintro _ w ⟨bW, rfl, hm⟩
     refine tAk hm [1] rfl fun hS => tMo ?_ ?_
     ·
      refine tf rfl rfl (fun a hf => e_call hf rfl call104 rfl (impl_domsOf_ok _ _ hm.lez c_ v1 h1  _ ak)) ?_
      rintro dy w bX
      rcases bX with ⟨bY, -, -⟩ | ⟨dz, bY, bX⟩
      ·
       cases bY.symm.trans aW
      obtain rfl := Option.some.inj (aW.symm.trans bY)
      obtain ⟨bz, cA, cB, cC, cD, rfl, aY, cE, hB⟩ := bX
      replace hm := Mem.giveA hm aY hB; clear hB
      refine tAk (hm.thaw aY) [4] rfl fun hS => tMo ?_ ?_
      ·
       refine tf rfl rfl (fun a hf => e_call hf rfl call55 rfl (impl_placesOf_ok _ c_ v1 (hm.now (GT.mono aY h1)) _ aV)) ?_
       rintro ck w ⟨_, rfl, hB⟩
       replace hm := hm.give hB; clear hB
       refine tAn rfl (tO (tf rfl rfl (fun a hf => e_alloc hm zeroValue73 rfl rfl) ?_))
       rintro _ w ⟨cl, rfl, hm⟩
       exact tAk (hm.thaw aY) [6] rfl fun hS => tE (gZ fun a hf => ⟨cD, bW, cl, bz, cA, cB, cC, ck, aY, cE, hf.sb rfl, hm.pk [6, 5, 0, 2, 3, 4, 1] rfl rfl⟩)
      refine tO (tf rfl rfl (fun a hf => e_alloc hm zeroValue73 rfl rfl) ?_)
      rintro _ w ⟨cm, rfl, hm⟩
      refine tAk (hm.thaw aY) [5] rfl fun hS => tO (tf rfl rfl (fun a hf => e_call hf rfl call55 rfl (impl_placesOf_ok _ c_ v1 (hm.now (GT.mono aY h1)) _ aV)) ?_)
      rintro cn w ⟨_, rfl, hB⟩
      replace hm := hm.give hB; clear hB
      exact tAn rfl (tE (gZ fun a hf => ⟨cD, bW, cm, bz, cA, cB, cC, cn, aY, cE, hf.sb rfl, hm.pk [6, 5, 1, 2, 3, 4, 0] rfl rfl⟩))
     refine tO (tf rfl rfl (fun a hf => e_alloc hm zeroValue73 rfl rfl) ?_)
     rintro _ w ⟨co, rfl, hm⟩
     refine tAk hm [2] rfl fun hS => tO (tf rfl rfl (fun a hf => e_call hf rfl call104 rfl (impl_domsOf_ok _ _ hm.lez c_ v1 h1  _ ak)) ?_)
     rintro eA w bZ
     rcases bZ with ⟨b7, -, -⟩ | ⟨eB, b7, bZ⟩
     ·
      cases b7.symm.trans aW
     obtain rfl := Option.some.inj (aW.symm.trans b7)
     obtain ⟨cq, cr, ct, cu, cv, rfl, bF, cw, hB⟩ := bZ
     replace hm := Mem.giveA hm bF hB; clear hB
     refine tAk (hm.thaw bF) [5] rfl fun hS => tO (tf rfl rfl (fun a hf => e_call hf rfl call55 rfl (impl_placesOf_ok _ c_ v1 (hm.now (GT.mono bF h1)) _ aV)) ?_)
     rintro cx w ⟨_, rfl, hB⟩
     replace hm := hm.give hB; clear hB
     exact tAn rfl (tE (gZ fun a hf => ⟨cv, bW, co, cq, cr, ct, cu, cx, bF, cw, hf.sb rfl, hm.pk [6, 5, 4, 1, 2, 3, 0] rfl rfl⟩))
    refine tO (tf rfl rfl (fun a hf => e_alloc hm zeroValue73 rfl rfl) ?_)
    rintro _ w ⟨b8, rfl, hm⟩
    refine tAk hm [1] rfl fun hS => tMo ?_ ?_
    ·
     refine tf rfl rfl (fun a hf => e_call hf rfl call104 rfl (impl_domsOf_ok _ _ hm.lez c_ v1 h1  _ ak)) ?_
     rintro eC w b9
     rcases b9 with ⟨ba, -, -⟩ | ⟨eD, ba, b9⟩
     ·
      cases ba.symm.trans aW
     obtain rfl := Option.some.inj (aW.symm.trans ba)
     obtain ⟨cF, cG, cH, cI, cJ, rfl, aZ, cK, hB⟩ := b9
     replace hm := Mem.giveA hm aZ hB; clear hB
     refine tAk (hm.thaw aZ) [4] rfl fun hS => tMo ?_ ?_
     ·
      refine tf rfl rfl (fun a hf => e_call hf rfl call55 rfl (impl_placesOf_ok _ c_ v1 (hm.now (GT.mono aZ h1)) _ aV)) ?_
      rintro cy w ⟨_, rfl, hB⟩
      replace hm := hm.give hB; clear hB
      refine tAn rfl (tO (tf rfl rfl (fun a hf => e_alloc hm zeroValue129 rfl rfl) ?_))
      rintro _ w ⟨cz, rfl, hm⟩
      exact tAk (hm.thaw aZ) [6] rfl fun hS => tE (gZ fun a hf => ⟨cJ, cz, b8, cF, cG, cH, cI, cy, aZ, cK, hf.sb rfl, hm.pk [6, 0, 5, 2, 3, 4, 1] rfl rfl⟩)
     refine tO (tf rfl rfl (fun a hf => e_alloc hm zeroValue129 rfl rfl) ?_)
     rintro _ w ⟨dA, rfl, hm⟩
     refine tAk (hm.thaw aZ) [5] rfl fun hS => tO (tf rfl rfl (fun a hf => e_call hf rfl call55 rfl (impl_placesOf_ok _ c_ v1 (hm.now (GT.mono aZ h1)) _ aV)) ?_)
     rintro dB w ⟨_, rfl, hB⟩
     replace hm := hm.give hB; clear hB
     exact tAn rfl (tE (gZ fun a hf => ⟨cJ, dA, b8, cF, cG, cH, cI, dB, aZ, cK, hf.sb rfl, hm.pk [6, 1, 5, 2, 3, 4, 0] rfl rfl⟩))
    refine tO (tf rfl rfl (fun a hf => e_alloc hm zeroValue129 rfl rfl) ?_)
    rintro _ w ⟨dC, rfl, hm⟩
    refine tAk hm [2] rfl fun hS => tO (tf rfl rfl (fun a hf => e_call hf rfl call104 rfl (impl_domsOf_ok _ _ hm.lez c_ v1 h1  _ ak)) ?_)
    rintro eE w bb
    rcases bb with ⟨bc, -, -⟩ | ⟨eF, bc, bb⟩
    ·
     cases bc.symm.trans aW
    obtain rfl := Option.some.inj (aW.symm.trans bc)
    obtain ⟨dD, dE, dF, dG, dH, rfl, bG, dI, hB⟩ := bb
    replace hm := Mem.giveA hm bG hB; clear hB
    refine tAk (hm.thaw bG) [5] rfl fun hS => tO (tf rfl rfl (fun a hf => e_call hf rfl call55 rfl (impl_placesOf_ok _ c_ v1 (hm.now (GT.mono bG h1)) _ aV)) ?_)
    rintro dJ w ⟨_, rfl, hB⟩
    replace hm := hm.give hB; clear hB
    exact tAn rfl (tE (gZ fun a hf => ⟨dH, dC, b8, dD, dE, dF, dG, dJ, bG, dI, hf.sb rfl, hm.pk [6, 4, 5, 1, 2, 3, 0] rfl rfl⟩))
   repeat clear hm
   rintro bu a w ⟨an, ay, az, bA, bB, bC, bD, bE, dK, dL, hf, hm⟩
   refine gv hf (tO (tf0 rfl rfl (fun a hf => e_store1 1 hf hm rfl sizeOf129 rfl rfl rfl rfl rfl) ?_))
   rintro _ w hm
   refine tAn rfl (tO (tf0 rfl rfl (fun a hf => e_store1 2 hf hm rfl sizeOf73 rfl rfl rfl (rep_one (hm.ow_rep 6 rfl)) rfl) ?_))
   rintro _ w hm
   exact tAn rfl (tE (gZ fun a hf => ⟨an, ay, bA, bB, bC, bD, az, bE, dK, dL, hf.sb rfl, hm.pk [0, 1, 3, 4, 5, 2, 6] rfl rfl⟩))
  repeat clear hm
  rintro aA a w ⟨aw, aC, aF, aQ, bS, ax, aD, bT, aN, bd, hf, hm⟩
  refine gv hf (gS (gS (gR (gL hm 1 isAgg129 rfl (gY (yG rfl (y_nilptr rfl rfl)) (gF fo_166_2 rfl (gL hm 2 isAgg98 rfl (gC hm rfl call155 (slices_Contains_S_bool_bool_ok _ aA.2.2.2.2.1 ax (hm.ow_rep 4 rfl) false) fun eG eH w hm => gE (gs 25 rfl (fun dM => ?_) fun dM => ?_)))))))))
  ·
   refine gct rfl (gS (gR (gA rfl (gE (gRt ?_)))))
   replace hm := hm.thaw aN
   exact gr1 results103 rfl ⟨rfl, hm.below⟩
  refine gcf rfl (gSk (gS (gS (gR (gL hm 5 isAgg73 rfl ?_)))))
  obtain ⟨aM, aH, rfl, eI⟩ := ro_slice (hm.ow_rep 6 rfl)
  refine gY (yV st_73 rfl) (gM rfl (gE ?_))
  obtain ⟨aI, aJ, rfl, eJ⟩ := ro_slice (hm.ow_rep 3 rfl)
  obtain ⟨aK, aL, rfl, eK⟩ := ro_slice (hm.ow_rep 4 rfl)
  refine gBk (gNf hm (fun ao cL => [(1, (pV aB)), (3, (pV aC)), (4, (pV aD)), (26, (.slice aM aA.2.2.2.2.2.length aH)), (27, (nV ((aA.2.2.2.2.2.length : Int)))), (28, (nV ao))]) (fun ao cL => [blk aB [(nV c_.params), (nV c_.regs), v1] 44, blk aC [(pV aF)] 129, blk aF [(nV aA.1), (nV aA.2.1), aQ, (.slice aI aA.2.2.2.1.length aJ), (.slice aK aA.2.2.2.2.1.length aL)] 166, ow [(.slice aI aA.2.2.2.1.length aJ)] aA.2.2.2.1, ow [(.slice aK aA.2.2.2.2.1.length aL)] aA.2.2.2.2.1, blk aD [(.slice aM aA.2.2.2.2.2.length aH)] 73, ow [(.slice aM aA.2.2.2.2.2.length aH)] aA.2.2.2.2.2]) [0, 1, 2, 3, 4, 5, 6] rfl ?_ ?_)
  ·
   repeat clear hm
   intro eL dN ao cL w hm eM eN eO dO
   refine gS (gR (gB rfl (gE (gS (go _ 29 rfl (decide_eq_true (by omega)) (gct rfl (gSk (gS (gBk (gS (gR (gM rfl (gg fun dP dQ be => ?_)))))))))))))
   obtain ⟨bH, bJ, eP, he⟩ := idx_form' (hm.ow_rep 6 rfl) be
   obtain ⟨rfl, _, rfl⟩ := sl3 he
   obtain ⟨_, _, bf, dR⟩ := ro_get' (hm.ow_rep 6 rfl) be
   have bK := dR
   obtain ⟨cM, rfl, -⟩ := id bK
   replace bK : GT.rep (hp _) [cM] dP := bK
   replace bf : CellsAt (hp _) bH (bJ + (ao).toNat * 1) [cM] := bf
   refine gI st_73 dQ (idx_lt be) rfl (gY (yl isAgg75 (bf.cell (j := 0) rfl) rfl) (gA rfl (gA rfl (gE (gS (gJ hm (fun bL => [(1, (pV aB)), (3, (pV aC)), (4, (pV aD)), (26, (sV bH bJ aA.2.2.2.2.2.length aH)), (27, (nV ((aA.2.2.2.2.2.length : Int)))), (28, (nV ao)), (46, (.bool (bL)))]) (fun bL => [blk aB [(nV c_.params), (nV c_.regs), v1] 44, blk aC [(pV aF)] 129, blk aF [(nV aA.1), (nV aA.2.1), aQ, (.slice aI aA.2.2.2.1.length aJ), (.slice aK aA.2.2.2.2.1.length aL)] 166, ow [(.slice aI aA.2.2.2.1.length aJ)] aA.2.2.2.1, ow [(.slice aK aA.2.2.2.2.1.length aL)] aA.2.2.2.2.1, blk aD [(sV bH bJ aA.2.2.2.2.2.length aH)] 73, ow [(sV bH bJ aA.2.2.2.2.2.length aH)] aA.2.2.2.2.2]) (fun bL => ?_) ?_))))))
   ·
    refine gR (gM rfl ?_)
    obtain ⟨eQ, eR, rfl, eS⟩ := ro_slice bK
    refine gY (yV st_75 rfl) (gB rfl (gM rfl (gsd 36 rfl (fun dS => ?_) fun dS => ?_)))
    ·
     exact gO rfl (gO rfl (gO rfl (gO rfl (gO rfl (gO rfl (gO rfl (gO rfl (gO rfl (gKt rfl (gE (gz hm [0, 1, 2, 3, 4, 5, 6] rfl)))))))))))
    refine gM rfl (gF fo_44_0 rfl (gL hm 0 isAgg3 rfl (gB rfl (gM rfl (gsd 41 rfl (fun dT => ?_) fun dT => ?_)))))
    ·
     exact gM rfl (gY (yV st_75 rfl) (gB rfl (gKt rfl (gKf rfl (gE (gz hm [0, 1, 2, 3, 4, 5, 6] rfl))))))
    exact gO rfl (gO rfl (gO rfl (gKf rfl (gKf rfl (gE (gz hm [0, 1, 2, 3, 4, 5, 6] rfl))))))
   repeat clear hm
   intro bL w hm
   refine gs 46 rfl (fun dU => ?_) fun dU => ?_
   ·
    refine gct rfl (gS (gR (gA rfl (gE (gRt (gLr dO dN ?_))))))
    replace hm := hm.thaw aN
    exact gr1 results103 rfl ⟨rfl, hm.below⟩
   exact gcf rfl (gSk (gR (gP (by omega) (by omega) rfl (gM rfl (gE (gze hm [0, 1, 2, 3, 4, 5, 6] rfl))))))
  repeat clear hm
  intro eT eU w hm eV eW
  refine gS (gR (gB rfl (gE (gS (go _ 29 rfl (decide_eq_false (by omega)) (gcf rfl (gXt (gHh (gS (gR (gY (yU rfl) (gAl hm zeroValue54 rfl fun aR w hm => gS1 hm 0 sizeOf54 rfl rfl fun w hm => gE (gS (gS (gR (gF fo_44_2 rfl (gL hm 1 isAgg42 rfl ?_)))))))))))))))))
  obtain ⟨cN, aO, rfl, eX⟩ := ro_slice h1
  refine gY (yV st_42 rfl) (gM rfl (gE (gBk (gNf hm (fun aP cO => [(1, (pV aB)), (7, (pV aR)), (50, (.slice cN c_.blocks.length aO)), (51, (nV ((c_.blocks.length : Int)))), (52, (nV aP))]) (fun aP cO => [blk aB [(nV c_.params), (nV c_.regs), (.slice cN c_.blocks.length aO)] 44, blk aR [(.func (.func 156) #[] #[(pV aB), (pV aD), (pV aC)])] 54, blk aD [(.slice aM aA.2.2.2.2.2.length aH)] 73, ow [(.slice aM aA.2.2.2.2.2.length aH)] aA.2.2.2.2.2, blk aC [(pV aF)] 129, blk aF [(nV aA.1), (nV aA.2.1), aQ, (.slice aI aA.2.2.2.1.length aJ), (.slice aK aA.2.2.2.2.1.length aL)] 166, ow [(.slice aI aA.2.2.2.1.length aJ)] aA.2.2.2.1, ow [(.slice aK aA.2.2.2.2.1.length aL)] aA.2.2.2.2.1]) [1, 0, 6, 7, 2, 3, 4, 5] rfl ?_ ?_))))
  ·
   repeat clear hm
   intro eY bg aP cO w hm eZ ea eb bh
   refine gS (gR (gB rfl (gE (gS (go _ 53 rfl (decide_eq_true (by omega)) (gct rfl (gSk (gS (gBk (gS (gR (gM rfl (gg fun aG dV bi => ?_)))))))))))))
   obtain ⟨aS, aT, ec, he⟩ := idx_form' h1 bi
   obtain ⟨rfl, _, rfl⟩ := sl3 he
   obtain ⟨ed, bj, bM, dW, bN, bO, dX⟩ := rk_Block_ h1 bi
   refine gI st_42 dV (idx_lt bi) rfl (gY (yn (dW.mono (Heap.le_trans aN hm.lez)) isAgg59 sizeOf59 rfl) (gAl hm zeroValue3 rfl fun aX w hm => gAl hm zeroValue59 rfl fun ab w hm => gS1 hm 1 sizeOf3 rfl rfl fun w hm => gSN hm 0 sizeOf59 (one_cons (rep_one bN) (one_cons (rep_one bO) (one_cons rfl (one_cons rfl (one_cons (rep_one dX) one_nil))))) rfl fun w hm => gE (gS (gR (gY (yn (hm.blk_at 2 rfl) isAgg44 sizeOf44 rfl) (gL hm 1 isAgg3 rfl (gCg rfl call78 (impl_PredsOf_ok _ c_ (sV aS aT c_.blocks.length aO) (hm.now (GT.mono aN h1)) aP) ?_)))))))
   rintro aa ee ef w ⟨_, rfl, hB⟩
   replace hm := hm.give hB; clear hB
   refine gA rfl (gE (gS (gS (gR (gF fo_59_0 rfl (gL hm 1 isAgg55 rfl ?_))))))
   obtain ⟨bk, aj, rfl, eg⟩ := ro_slice bN
   refine gY (yV st_55 rfl) (gM rfl (gE ?_))
   obtain ⟨ap, aq, rfl, eh⟩ := ro_slice (hm.ow_rep 0 rfl)
   refine gBk (gNf hm (fun bP cP => [(1, (pV aB)), (7, (pV aR)), (8, (pV aX)), (9, (pV ab)), (10, (.slice ap aa.length aq)), (50, (sV aS aT c_.blocks.length aO)), (51, (nV ((c_.blocks.length : Int)))), (52, (nV aP)), (61, (.slice bk aG.phis.length aj)), (62, (nV ((aG.phis.length : Int)))), (63, (nV bP))]) (fun bP cP => [blk aB [(nV c_.params), (nV c_.regs), (sV aS aT c_.blocks.length aO)] 44, blk aR [(.func (.func 156) #[] #[(pV aB), (pV aD), (pV aC)])] 54, blk aD [(.slice aM aA.2.2.2.2.2.length aH)] 73, ow [(.slice aM aA.2.2.2.2.2.length aH)] aA.2.2.2.2.2, blk aC [(pV aF)] 129, blk aF [(nV aA.1), (nV aA.2.1), aQ, (.slice aI aA.2.2.2.1.length aJ), (.slice aK aA.2.2.2.2.1.length aL)] 166, ow [(.slice aI aA.2.2.2.1.length aJ)] aA.2.2.2.1, ow [(.slice aK aA.2.2.2.2.1.length aL)] aA.2.2.2.2.1, blk aX [(nV aP)] 3, blk ab [(.slice bk aG.phis.length aj), bj, (nV aG.jump), (nV aG.on), bM] 59, ow [(.slice ap aa.length aq)] aa]) [3, 4, 5, 6, 7, 8, 9, 10, 2, 1, 0] rfl ?_ ?_)
   ·
    repeat clear hm
    intro ei dY bP cP w hm el em en dZ
    refine gS (gR (gB rfl (gE (gS (go _ 64 rfl (decide_eq_true (by omega)) (gct rfl (gSk (gS (gBk (gS (gR (gg fun cQ d4 bl => ?_))))))))))))
    obtain ⟨bm, bo, eo, he⟩ := idx_form' bN bl
    obtain ⟨rfl, _, rfl⟩ := sl3 he
    obtain ⟨ep, d5, bQ⟩ := rk_Phi_ bN bl
    refine gI st_55 d4 (idx_lt bl) rfl (gY (yn (d5.mono (Heap.le_trans aN hm.lez)) isAgg87 sizeOf87 rfl) (gAl hm zeroValue87 rfl fun et w hm => gSN hm 0 sizeOf87 (one_cons rfl (one_cons (rep_one bQ) one_nil)) rfl fun w hm => gE (gS (gR (gF fo_87_1 rfl (gL hm 0 isAgg57 rfl ?_))))))
    obtain ⟨d6, d7, rfl, eu⟩ := ro_slice bQ
    refine gY (yV st_57 rfl) (gM rfl (gE (gBk (gNf hm (fun bp cR => [(1, (pV aB)), (7, (pV aR)), (8, (pV aX)), (9, (pV ab)), (10, (.slice ap aa.length aq)), (50, (sV aS aT c_.blocks.length aO)), (51, (nV ((c_.blocks.length : Int)))), (52, (nV aP)), (61, (sV bm bo aG.phis.length aj)), (62, (nV ((aG.phis.length : Int)))), (63, (nV bP)), (68, (.slice d6 cQ.args.length d7)), (69, (nV ((cQ.args.length : Int)))), (70, (nV bp))]) (fun bp cR => [blk aB [(nV c_.params), (nV c_.regs), (sV aS aT c_.blocks.length aO)] 44, blk aR [(.func (.func 156) #[] #[(pV aB), (pV aD), (pV aC)])] 54, blk aD [(.slice aM aA.2.2.2.2.2.length aH)] 73, ow [(.slice aM aA.2.2.2.2.2.length aH)] aA.2.2.2.2.2, blk aC [(pV aF)] 129, blk aF [(nV aA.1), (nV aA.2.1), aQ, (.slice aI aA.2.2.2.1.length aJ), (.slice aK aA.2.2.2.2.1.length aL)] 166, ow [(.slice aI aA.2.2.2.1.length aJ)] aA.2.2.2.1, ow [(.slice aK aA.2.2.2.2.1.length aL)] aA.2.2.2.2.1, blk aX [(nV aP)] 3, blk ab [(sV bm bo aG.phis.length aj), bj, (nV aG.jump), (nV aG.on), bM] 59, ow [(.slice ap aa.length aq)] aa]) [1, 2, 3, 4, 5, 6, 7, 8, 9, 10, 11] rfl ?_ ?_))))
    ·
     repeat clear hm
     intro ew d8 bp cR w hm ey ez fA d9
     refine gS (gR (gB rfl (gE (gS (go _ 71 rfl (decide_eq_true (by omega)) (gct rfl (gSk (gS (gBk (gS (gR (gM rfl (gg fun cS da bq => ?_)))))))))))))
     obtain ⟨fB, fC, fD, he⟩ := idx_form bQ bq
     obtain ⟨rfl, _, rfl⟩ := sl3 he
     refine gI st_57 da (idx_lt bq) rfl (gY (yl isAgg3 ((flat_cells (cs := [(nV cS)]) (hm.now (GT.mono aN bQ)) bq rfl).cell (j := 0) rfl) rfl) (gA rfl (gA rfl (gE (gS (gW (.p 1 (.p 2 (.p 3 (.p 4 (.p 6 (.p 8 (.p 9 (.p 10 (.q 0 (.q 5 (.q 7 (.e 11 (.p 12 (.p 13 (.e 14 (.p 15 (.e 16 (.p 17 .fin) .nil)) .nil))) .nil)))))))))))) [0, 5, 7, 11, 14] [1, 2, 3, 4, 6, 8, 9, 10, 12, 13, 15, 17] hm [0, 1, 2, 3, 4, 5, 6, 7, 8, 9, 10] [blk aB [(nV c_.params), (nV c_.regs), (sV aS aT c_.blocks.length aO)] 44, blk aR [(.func (.func 156) #[] #[(pV aB), (pV aD), (pV aC)])] 54, blk aD [(.slice aM aA.2.2.2.2.2.length aH)] 73, ow [(.slice aM aA.2.2.2.2.2.length aH)] aA.2.2.2.2.2, blk aC [(pV aF)] 129, blk aF [(nV aA.1), (nV aA.2.1), aQ, (.slice aI aA.2.2.2.1.length aJ), (.slice aK aA.2.2.2.2.1.length aL)] 166, ow [(.slice aI aA.2.2.2.1.length aJ)] aA.2.2.2.1, ow [(.slice aK aA.2.2.2.2.1.length aL)] aA.2.2.2.2.1, blk aX [(nV aP)] 3, blk ab [(sV bm bo aG.phis.length aj), bj, (nV aG.jump), (nV aG.on), bM] 59, ow [(.slice ap aa.length aq)] aa] rfl mxo (by kernel_rfl) (fun _ _ _ h => h.2) fun w hm hS => tP rfl (fun w => yM rfl) (tP rfl (fun w => yM rfl) (tP rfl (fun w => yM rfl) (gg fun br cT ar => ?_)))))))))
     obtain ⟨fE, fF, fG, he⟩ := idx_form (hm.ow_rep 10 rfl) ar
     obtain ⟨rfl, _, rfl⟩ := sl3 he
     refine tP rfl (fun w => yI st_57 cT (idx_lt ar) rfl) (tP rfl (fun w => yF fo_44_2 rfl) (tP rfl (fun w => yM rfl) (tP rfl (fun w => yM rfl) (tP rfl (fun w => yI st_57 cT (idx_lt ar) rfl) (tQ rfl hS (fun w hm => yL hm 1 isAgg54 rfl) (tQ rfl hS (fun w hm => yl isAgg3 ((flat_cells (cs := [(nV br)]) (hm.ow_rep 10 rfl) ar rfl).cell (j := 0) rfl) rfl) (tQ rfl hS (fun w hm => yL hm 0 isAgg42 rfl) (tO (tY rfl (yl isAgg3 ((flat_cells (cs := [(nV br)]) (hm.ow_rep 10 rfl) ar rfl).cell (j := 0) rfl) rfl) (tAs hS (gg fun db dc cU => ?_)))))))))))
     obtain ⟨fH, fI, fJ, dd, fK, de, fL⟩ := rk_Block_ h1 cU
     refine tP rfl (fun w => yI st_42 dc (idx_lt cU) rfl) (tP rfl (fun w => yF fo_59_1 rfl) (tO (tY rfl (yl isAgg56 ((dd.mono (Heap.le_trans aN hm.lez)).cell (j := 1) rfl) rfl) (tAs hS ?_))))
     obtain ⟨fM, fN, rfl, fO⟩ := ro_slice de
     refine tP rfl (fun w => yV st_56 rfl) (tO (gb fun fP df => tf rfl rfl (fun a hf => e_callv hf rfl rfl rfl ⟨156, [(pV aB), (pV aD), (pV aC)], rfl, call156, impl_singleCode_1_ok _ cS br (db.ins.length : Int) c_ aB (sV aS aT c_.blocks.length aO) (rep_later (hm.now (GT.mono aN h1)) (Below.refl _ _)) (hm.blk_later 0 rfl (Below.refl _ _)) aA.2.2.2.2.2 aD (.slice aM aA.2.2.2.2.2.length aH) (rep_later (hm.ow_rep 3 rfl) (Below.refl _ _)) (hm.blk_later 2 rfl (Below.refl _ _)) (⟨(⟨aA.1, aA.2.1, aA.2.2.1⟩ : Code_), aA.2.2.2.1, aA.2.2.2.2.1⟩ : doms) aC aF aQ (rep_later (hm.now bd) (Below.refl _ _)) (.slice aI aA.2.2.2.1.length aJ) (rep_later (hm.ow_rep 6 rfl) (Below.refl _ _)) (.slice aK aA.2.2.2.2.1.length aL) (rep_later (hm.ow_rep 7 rfl) (Below.refl _ _)) (hm.blk_later 5 rfl (Below.refl _ _)) (hm.blk_later 4 rfl (Below.refl _ _)) _ df⟩) ?_))
     rintro fQ w ⟨rfl, hB⟩
     replace hm := hm.below' hB; clear hB
     refine tAn rfl (tP rfl (fun w => yN rfl) (tE (gsn 92 rfl (fun dg => ?_) fun dg => ?_)))
     ·
      refine gct rfl (gS (gR (gA rfl (gE (gRt (gLr d9 d8 (gLr dZ dY (gLr bh bg ?_))))))))
      replace hm := hm.thaw aN
      exact gr1 results103 rfl ⟨rfl, hm.below⟩
     exact gcf rfl (gSk (gR (gP (by omega) (by omega) rfl (gM rfl (gE (gze hm [0, 1, 2, 3, 4, 5, 6, 7, 8, 9, 10] rfl))))))
    repeat clear hm
    intro fR fS w hm fT fU
    exact gS (gR (gB rfl (gE (gS (go _ 71 rfl (decide_eq_false (by omega)) (gcf rfl (gXt (gHh (gR (gP (by omega) (by omega) rfl (gM rfl (gE (gze hm [0, 1, 2, 3, 4, 5, 6, 7, 8, 9, 10] rfl)))))))))))))
   repeat clear hm
   intro fV fW w hm fX fY
   refine gS (gR (gB rfl (gE (gS (go _ 64 rfl (decide_eq_false (by omega)) (gcf rfl (gXt (gHh (gS (gS (gR (gF fo_59_1 rfl (gL hm 9 isAgg56 rfl ?_)))))))))))))
   obtain ⟨cV, cW, rfl, fZ⟩ := ro_slice bO
   refine gY (yV st_56 rfl) (gM rfl (gE (gBk (gNf hm (fun au cX => [(1, (pV aB)), (7, (pV aR)), (8, (pV aX)), (9, (pV ab)), (50, (sV aS aT c_.blocks.length aO)), (51, (nV ((c_.blocks.length : Int)))), (52, (nV aP)), (96, (.slice cV aG.ins.length cW)), (97, (nV ((aG.ins.length : Int)))), (98, (nV au))]) (fun au cX => [blk aB [(nV c_.params), (nV c_.regs), (sV aS aT c_.blocks.length aO)] 44, blk aR [(.func (.func 156) #[] #[(pV aB), (pV aD), (pV aC)])] 54, blk aD [(.slice aM aA.2.2.2.2.2.length aH)] 73, ow [(.slice aM aA.2.2.2.2.2.length aH)] aA.2.2.2.2.2, blk aC [(pV aF)] 129, blk aF [(nV aA.1), (nV aA.2.1), aQ, (.slice aI aA.2.2.2.1.length aJ), (.slice aK aA.2.2.2.2.1.length aL)] 166, ow [(.slice aI aA.2.2.2.1.length aJ)] aA.2.2.2.1, ow [(.slice aK aA.2.2.2.2.1.length aL)] aA.2.2.2.2.1, blk aX [(nV aP)] 3, blk ab [(.slice bk aG.phis.length aj), (.slice cV aG.ins.length cW), (nV aG.jump), (nV aG.on), bM] 59]) [0, 1, 2, 3, 4, 5, 6, 7, 8, 9] rfl ?_ ?_))))
   ·
    repeat clear hm
    intro f7 dh au cX w hm f8 f9 fa di
    refine gS (gR (gB rfl (gE (gS (go _ 99 rfl (decide_eq_true (by omega)) (gct rfl (gSk (gS (gBk (gS (gR (gM rfl (gg fun dk dl bs => ?_)))))))))))))
    obtain ⟨fb, fc, fd, he⟩ := idx_form' bO bs
    obtain ⟨rfl, _, rfl⟩ := sl3 he
    obtain ⟨dm, dp, cY⟩ := rk_Ins_ bO bs
    refine gI st_56 dl (idx_lt bs) rfl (gY (yn (dp.mono (Heap.le_trans aN hm.lez)) isAgg61 sizeOf61 rfl) (gAl hm zeroValue3 rfl fun bt w hm => gAl hm zeroValue61 rfl fun fe w hm => gS1 hm 1 sizeOf3 rfl rfl fun w hm => gSN hm 0 sizeOf61 (one_cons rfl (one_cons rfl (one_cons (rep_one cY) (one_cons rfl one_nil)))) rfl fun w hm => gE (gS (gR (gF fo_61_2 rfl (gL hm 0 isAgg57 rfl (gY (yU rfl) (gC hm rfl call147 (slices_ContainsFunc_S_int_int_ok _ dk.args dm (hm.now (GT.mono aN cY)) (fun y0 => impl_singleCode_2 y0 c_ aA.2.2.2.2.2 (⟨(⟨aA.1, aA.2.1, aA.2.2.1⟩ : Code_), aA.2.2.2.1, aA.2.2.2.2.1⟩ : doms) aP au) (.func (.func 158) #[] #[(pV aR), (pV aX), (pV bt)]) (fun w y0 r hB hq => ⟨158, [(pV aR), (pV aX), (pV bt)], rfl, call158, impl_singleCode_2_ok w y0 c_ aB (sV aS aT c_.blocks.length aO) (rep_later (hm.now (GT.mono aN h1)) hB) (hm.blk_later 2 rfl hB) aA.2.2.2.2.2 aD (.slice aM aA.2.2.2.2.2.length aH) (rep_later (hm.ow_rep 5 rfl) hB) (hm.blk_later 4 rfl hB) (⟨(⟨aA.1, aA.2.1, aA.2.2.1⟩ : Code_), aA.2.2.2.1, aA.2.2.2.2.1⟩ : doms) aC aF aQ (rep_later (hm.now bd) hB) (.slice aI aA.2.2.2.1.length aJ) (rep_later (hm.ow_rep 8 rfl) hB) (.slice aK aA.2.2.2.2.1.length aL) (rep_later (hm.ow_rep 9 rfl) hB) (hm.blk_later 7 rfl hB) (hm.blk_later 6 rfl hB) aR (hm.blk_later 3 rfl hB) aP aX (hm.blk_later 10 rfl hB) au bt (hm.blk_later 1 rfl hB) r hq⟩)) fun ff fg w hm => gE (gs 106 rfl (fun dq => ?_) fun dq => ?_)))))))))
    ·
     refine gct rfl (gS (gR (gA rfl (gE (gRt (gLr di dh (gLr bh bg ?_)))))))
     replace hm := hm.thaw aN
     exact gr1 results103 rfl ⟨rfl, hm.below⟩
    exact gcf rfl (gSk (gR (gP (by omega) (by omega) rfl (gM rfl (gE (gze hm [2, 3, 4, 5, 6, 7, 8, 9, 10, 11] rfl))))))
   repeat clear hm
   intro fh fi w hm fj fk
   refine gS (gR (gB rfl (gE (gS (go _ 99 rfl (decide_eq_false (by omega)) (gcf rfl (gXt (gHh (gS (gJ hm (fun bR => [(1, (pV aB)), (7, (pV aR)), (50, (sV aS aT c_.blocks.length aO)), (51, (nV ((c_.blocks.length : Int)))), (52, (nV aP)), (121, (.bool (bR)))]) (fun bR => [blk aB [(nV c_.params), (nV c_.regs), (sV aS aT c_.blocks.length aO)] 44, blk aR [(.func (.func 156) #[] #[(pV aB), (pV aD), (pV aC)])] 54, blk aD [(.slice aM aA.2.2.2.2.2.length aH)] 73, ow [(.slice aM aA.2.2.2.2.2.length aH)] aA.2.2.2.2.2, blk aC [(pV aF)] 129, blk aF [(nV aA.1), (nV aA.2.1), aQ, (.slice aI aA.2.2.2.1.length aJ), (.slice aK aA.2.2.2.2.1.length aL)] 166, ow [(.slice aI aA.2.2.2.1.length aJ)] aA.2.2.2.1, ow [(.slice aK aA.2.2.2.2.1.length aL)] aA.2.2.2.2.1]) (fun bR => ?_) ?_))))))))))
   ·
    refine gR (gF fo_59_2 rfl (gL hm 9 isAgg3 rfl (gC hm rfl call142 (impl_usesOn_ok _ aG.jump) fun fm fo w hm => gM rfl (gs 111 rfl (fun dr => ?_) fun dr => ?_))))
    ·
     refine gL hm 1 isAgg54 rfl (gF fo_59_3 rfl (gL hm 9 isAgg3 rfl (gL hm 8 isAgg3 rfl (gF fo_59_1 rfl (gL hm 9 isAgg56 rfl (gY (yV st_56 rfl) (gb fun fp dt => gf rfl (fun a hf => e_callv hf rfl rfl rfl ⟨156, [(pV aB), (pV aD), (pV aC)], rfl, call156, impl_singleCode_1_ok _ aG.on aP (aG.ins.length : Int) c_ aB (sV aS aT c_.blocks.length aO) (rep_later (hm.now (GT.mono aN h1)) (Below.refl _ _)) (hm.blk_later 0 rfl (Below.refl _ _)) aA.2.2.2.2.2 aD (.slice aM aA.2.2.2.2.2.length aH) (rep_later (hm.ow_rep 3 rfl) (Below.refl _ _)) (hm.blk_later 2 rfl (Below.refl _ _)) (⟨(⟨aA.1, aA.2.1, aA.2.2.1⟩ : Code_), aA.2.2.2.1, aA.2.2.2.2.1⟩ : doms) aC aF aQ (rep_later (hm.now bd) (Below.refl _ _)) (.slice aI aA.2.2.2.1.length aJ) (rep_later (hm.ow_rep 6 rfl) (Below.refl _ _)) (.slice aK aA.2.2.2.2.1.length aL) (rep_later (hm.ow_rep 7 rfl) (Below.refl _ _)) (hm.blk_later 5 rfl (Below.refl _ _)) (hm.blk_later 4 rfl (Below.refl _ _)) _ dt⟩) ?_)))))))
     rintro fq w ⟨rfl, hB⟩
     replace hm := hm.below' hB; clear hB
     exact gN rfl (gKt rfl (gE (gz hm [0, 1, 2, 3, 4, 5, 6, 7] rfl)))
    exact gO rfl (gO rfl (gO rfl (gO rfl (gO rfl (gO rfl (gO rfl (gO rfl (gO rfl (gKf rfl (gE (gz hm [0, 1, 2, 3, 4, 5, 6, 7] rfl)))))))))))
   repeat clear hm
   intro bR w hm
   refine gs 121 rfl (fun du => ?_) fun du => ?_
   ·
    refine gct rfl (gS (gR (gA rfl (gE (gRt (gLr bh bg ?_))))))
    replace hm := hm.thaw aN
    exact gr1 results103 rfl ⟨rfl, hm.below⟩
   exact gcf rfl (gSk (gR (gP (by omega) (by omega) rfl (gM rfl (gE (gze hm [0, 1, 2, 3, 4, 5, 6, 7] rfl))))))
  repeat clear hm
  intro fr ft w hm fu fw
  refine gS (gR (gB rfl (gE (gS (go _ 53 rfl (decide_eq_false (by omega)) (gcf rfl (gXt (gHh (gS (gR (gA rfl (gE (gRt ?_)))))))))))))
  replace hm := hm.thaw aN
  exact gr1 results103 rfl ⟨rfl, hm.below⟩
theorem impl_IsSingle_1_ok (w0 : World) (c_ : Code_) (v1 : Value) (h1 : GT.rep (hp w0) [v1] c_.blocks) :
    ConM Tryz.prog 102 [(.agg #[(nV c_.params), (nV c_.regs), v1])] w0 (impl_IsSingle_1 c_) fun r v w' => v = (.bool (r)) ∧ Below w0.heap.size w0 w' := by
  unfold impl_IsSingle_1
  refine gcon func102 rfl fun r => ?_
  have hm := Mem.start w0
  exact gS (gR (gBx hm rfl fun aA w hm => gA rfl (gE (gS (gR (gY (yn (hm.blk_at 0 rfl) isAgg44 sizeOf44 rfl) (gC hm rfl call103 (impl_singleCode_ok _ c_ v1 (hm.now h1)) fun aB aC w hm => gN rfl (gA rfl (gE (gRt (gr1 results102 rfl ⟨rfl, hm.below⟩)))))))))))
theorem impl_IsSingle_ok (w0 : World) (u : Unit_) (v1 : Value) (h1 : GT.rep (hp w0) [v1] u.codes) :
    ConM Tryz.prog 57 [(.agg #[v1])] w0 (impl_IsSingle u) fun r v w' => v = (.bool (r)) ∧ Below w0.heap.size w0 w' := by
  unfold impl_IsSingle
  refine gcon func57 rfl fun r => ?_
  have hm := Mem.start w0
  refine gS (gR (gBx hm rfl fun aE w hm => gA rfl (gE (gS (gJ hm (fun aA => [(2, (.bool (aA)))]) (fun aA => []) (fun aA => ?_) ?_)))))
  ·
   refine gR (gY (yn (hm.blk_at 0 rfl) isAgg28 sizeOf28 rfl) (gC hm rfl call48 (impl_UnitValid_ok _ u v1 (hm.now h1)) fun aF aG w hm => gM rfl (gs 5 rfl (fun aB => ?_) fun aB => ?_)))
   ·
    exact gF fo_28_0 rfl (gL hm 0 isAgg26 rfl (gC hm rfl call101 (slices_ContainsFunc_S_impl_Code_impl_Code_ok _ u.codes v1 (hm.now h1) (fun y0 => impl_IsSingle_1 y0) (.func (.func 102) #[] #[]) (fun w y0 aC aD r hB hq => ⟨102, [], rfl, call102, impl_IsSingle_1_ok w y0 aC aD  r hq⟩)) fun aH aI w hm => gN rfl (gKt rfl (gA rfl (gE (gz hm [] rfl))))))
   exact gO rfl (gO rfl (gO rfl (gO rfl (gKf rfl (gA rfl (gE (gz hm [] rfl)))))))
  repeat clear hm
  intro aA w hm
  exact gRt (gr1 results57 rfl ⟨rfl, hm.below⟩)
theorem impl_mapped_impl_Code_impl_Code_ok (w0 : World) (list : List Code_) (v1 : Value) (h1 : GT.rep (hp w0) [v1] list) (f : Code_ → Option Code_) (fv1 : Value) (hfn1 : ∀ (w : World) (y0 : Code_) (z1 : Value) (_ : GT.rep (hp w) [z1] y0.blocks) (r : Code_), Below w0.heap.size w0 w → f y0 = some r → FnOk Tryz.prog fv1 [(.agg #[(nV y0.params), (nV y0.regs), z1])] w (fun v w' => ∃ (x1 : Value), v = (.agg #[(nV r.params), (nV r.regs), x1]) ∧ Mem w (hp w) w' [ow [x1] r.blocks])) :
    ConM Tryz.prog 31 [v1, fv1] w0 (impl_mapped_impl_Code_impl_Code list f) fun r v w' => ∃ (x1 : Value), v = x1 ∧ Mem w0 (hp w0) w' [ow [x1] r] := by
  unfold impl_mapped_impl_Code_impl_Code
  refine gcon func31 rfl fun r => ?_
  have hm := Mem.start w0
  refine gS (gR (gA rfl (gE (gS (gR (gA rfl (gE (gS (gS (gR (gM rfl ?_)))))))))))
  obtain ⟨aL, aM, rfl, aW⟩ := ro_slice h1
  refine gY (yV st_26 rfl) (gM rfl (gE (gBk ?_)))
  replace hm := hm.nilow (α := Code_)
  refine gNg (fun aJ aC a w => ∃ (aD : Value), St 22 [(1, fv1), (5, aD), (8, (.slice aL list.length aM)), (9, (nV ((list.length : Int)))), (10, (nV aJ))] w0 (hp w0) [ow [aD] aC] a w) (fun a hf => ⟨(.slice none 0 0), hf.sb rfl, hm.pk [0] rfl rfl⟩) ?_ ?_
  ·
   repeat clear hm
   rintro _ _ aJ aC a w ⟨aD, hf, hm⟩ aX aY aZ _
   refine gv hf (gS (gR (gB rfl (gE (gS (go _ 11 rfl (decide_eq_true (by omega)) (gct rfl (gSk (gS (gBk (gS (gR (gg fun aB aN aI => ?_)))))))))))))
   obtain ⟨aa, ab, ac, he⟩ := idx_form' h1 aI
   obtain ⟨rfl, _, rfl⟩ := sl3 he
   obtain ⟨aF, aO, aK⟩ := rk_Code_ h1 aI
   refine gI st_26 aN (idx_lt aI) rfl (gY (yn (aO.mono hm.lez) isAgg44 sizeOf44 rfl) (gAl hm zeroValue44 rfl fun aG w hm => gSN hm 0 sizeOf44 (one_cons rfl (one_cons rfl (one_cons (rep_one aK) one_nil))) rfl fun w hm => gE (gR (gM rfl (gM rfl (gY (yn (hm.blk_at 0 rfl) isAgg44 sizeOf44 rfl) (gb fun aA aP => gf rfl (fun a hf => e_callv hf rfl rfl rfl (hfn1 _ aB aF (hm.now aK) _ hm.below aP)) ?_)))))))
   rintro ae w ⟨aE, rfl, hB⟩
   replace hm := hm.give hB; clear hB
   refine gf rfl (fun a hf => e_build (vs := #[(0, (.agg #[(nV aA.params), (nV aA.regs), aE]))]) (cs := [(nV aA.params), (nV aA.regs), aE]) et_26 hf hm rfl rfl (by kernel_rfl) rfl rfl) ?_
   rintro _ w ⟨aH, rfl, hm⟩
   replace hm := hm.els_nil (α := Code_)
   replace hm : Mem w0 (hp w0) _ [els [] ([] : List Code_), blk aH [(nV aA.params), (nV aA.regs), aE] 44, ow [(nV aA.params), (nV aA.regs), aE] (aA : Code_), blk aG [(nV aB.params), (nV aB.regs), aF] 44, ow [aD] aC] := mk_Code_ aA.params aA.regs hm 2 rfl
   replace hm := (hm.els_cons 0 2 (by decide) rfl rfl).pk (L' := [els [(nV aA.params), (nV aA.regs), aE] ([aA] : List Code_), blk aH [(nV aA.params), (nV aA.regs), aE] 44, blk aG [(nV aB.params), (nV aB.regs), aF] 44, ow [aD] aC]) [0, 1, 3, 4] rfl rfl
   replace hm := (hm.lit_els 1 0 (by decide) rfl rfl rfl rfl).pk (L' := [ow [(sV aH 0 1 1)] ([aA] : List Code_), blk aG [(nV aB.params), (nV aB.regs), aF] 44, ow [aD] aC]) [1, 2, 3] rfl rfl
   refine gb fun af aQ => ?_
   obtain ⟨aR, aS⟩ := appM_some.1 aQ
   replace hm := (hm.both 2 0 (by decide) rfl rfl).pk (L' := [blk aG [(nV aB.params), (nV aB.regs), aF] 44, both (ow [aD] aC) (ow [(sV aH 0 1 1)] ([aA] : List Code_))]) [1, 2] rfl rfl
   refine gf rfl (fun a hf => e_appendD (xs := aC) (ys := ([aA] : List Code_)) 1 et_26 hf hm rfl rfl rfl rfl aR) ?_
   rintro aT w hm
   rw [aS] at hm
   exact gA rfl (gE (gR (gP (by omega) (by omega) rfl (gM rfl (gE (gZe fun a hf => ⟨aT, hf.sb rfl, hm.pk [1] rfl rfl⟩))))))
  repeat clear hm
  rintro ag ah a w ⟨aV, hf, hm⟩ ai aj
  exact gv hf (gS (gR (gB rfl (gE (gS (go _ 11 rfl (decide_eq_false (by omega)) (gcf rfl (gXt (gHh (gS (gR (gM rfl (gA rfl (gE (gRt (gr1 results31 rfl ⟨aV, rfl, hm.pk [0] rfl rfl⟩))))))))))))))))
theorem impl_mapped_impl_Block_impl_Block_ok (w0 : World) (list : List Block_) (v1 : Value) (h1 : GT.rep (hp w0) [v1] list) (f : Block_ → Option Block_) (fv1 : Value) (hfn1 : ∀ (w : World) (y0 : Block_) (z1 : Value) (_ : GT.rep (hp w) [z1] y0.phis) (z2 : Value) (_ : GT.rep (hp w) [z2] y0.ins) (z3 : Value) (_ : GT.rep (hp w) [z3] y0.next_) (r : Block_), Below w0.heap.size w0 w → f y0 = some r → FnOk Tryz.prog fv1 [(.agg #[z1, z2, (nV y0.jump), (nV y0.on), z3])] w (fun v w' => ∃ (x1 : Value) (x2 : Value) (x3 : Value), v = (.agg #[x1, x2, (nV r.jump), (nV r.on), x3]) ∧ Mem w (hp w) w' [ow [x1] r.phis, ow [x2] r.ins, ow [x3] r.next_])) :
    ConM Tryz.prog 123 [v1, fv1] w0 (impl_mapped_impl_Block_impl_Block list f) fun r v w' => ∃ (x1 : Value), v = x1 ∧ Mem w0 (hp w0) w' [ow [x1] r] := by
  unfold impl_mapped_impl_Block_impl_Block
  refine gcon func123 rfl fun r => ?_
  have hm := Mem.start w0
  refine gS (gR (gA rfl (gE (gS (gR (gA rfl (gE (gS (gS (gR (gM rfl ?_)))))))))))
  obtain ⟨aR, aS, rfl, ac⟩ := ro_slice h1
  refine gY (yV st_42 rfl) (gM rfl (gE (gBk ?_)))
  replace hm := hm.nilow (α := Block_)
  refine gNg (fun aN aC a w => ∃ (aD : Value), St 22 [(1, fv1), (5, aD), (8, (.slice aR list.length aS)), (9, (nV ((list.length : Int)))), (10, (nV aN))] w0 (hp w0) [ow [aD] aC] a w) (fun a hf => ⟨(.slice none 0 0), hf.sb rfl, hm.pk [0] rfl rfl⟩) ?_ ?_
  ·
   repeat clear hm
   rintro _ _ aN aC a w ⟨aD, hf, hm⟩ ae af ag _
   refine gv hf (gS (gR (gB rfl (gE (gS (go _ 11 rfl (decide_eq_true (by omega)) (gct rfl (gSk (gS (gBk (gS (gR (gg fun aB aT aM => ?_)))))))))))))
   obtain ⟨ah, ai, aj, he⟩ := idx_form' h1 aM
   obtain ⟨rfl, _, rfl⟩ := sl3 he
   obtain ⟨aH, aI, aJ, aV, aO, aP, aQ⟩ := rk_Block_ h1 aM
   refine gI st_42 aT (idx_lt aM) rfl (gY (yn (aV.mono hm.lez) isAgg59 sizeOf59 rfl) (gAl hm zeroValue59 rfl fun aK w hm => gSN hm 0 sizeOf59 (one_cons (rep_one aO) (one_cons (rep_one aP) (one_cons rfl (one_cons rfl (one_cons (rep_one aQ) one_nil))))) rfl fun w hm => gE (gR (gM rfl (gM rfl (gY (yn (hm.blk_at 0 rfl) isAgg59 sizeOf59 rfl) (gb fun aA aW => gf rfl (fun a hf => e_callv hf rfl rfl rfl (hfn1 _ aB aH (hm.now aO) aI (hm.now aP) aJ (hm.now aQ) _ hm.below aW)) ?_)))))))
   rintro ak w ⟨aE, aF, aG, rfl, hB⟩
   replace hm := hm.give hB; clear hB
   refine gf rfl (fun a hf => e_build (vs := #[(0, (.agg #[aE, aF, (nV aA.jump), (nV aA.on), aG]))]) (cs := [aE, aF, (nV aA.jump), (nV aA.on), aG]) et_42 hf hm rfl rfl (by kernel_rfl) rfl rfl) ?_
   rintro _ w ⟨aL, rfl, hm⟩
   replace hm := hm.els_nil (α := Block_)
   replace hm := (mk_Block_ aA.jump aA.on hm 2 3 4 rfl).pk (L' := [els [] ([] : List Block_), blk aL [aE, aF, (nV aA.jump), (nV aA.on), aG] 59, ow [aE, aF, (nV aA.jump), (nV aA.on), aG] (aA : Block_), blk aK [aH, aI, (nV aB.jump), (nV aB.on), aJ] 59, ow [aD] aC]) [0, 1, 2, 5, 6] rfl rfl
   replace hm := (hm.els_cons 0 2 (by decide) rfl rfl).pk (L' := [els [aE, aF, (nV aA.jump), (nV aA.on), aG] ([aA] : List Block_), blk aL [aE, aF, (nV aA.jump), (nV aA.on), aG] 59, blk aK [aH, aI, (nV aB.jump), (nV aB.on), aJ] 59, ow [aD] aC]) [0, 1, 3, 4] rfl rfl
   replace hm := (hm.lit_els 1 0 (by decide) rfl rfl rfl rfl).pk (L' := [ow [(sV aL 0 1 1)] ([aA] : List Block_), blk aK [aH, aI, (nV aB.jump), (nV aB.on), aJ] 59, ow [aD] aC]) [1, 2, 3] rfl rfl
   refine gb fun am aX => ?_
   obtain ⟨aY, aZ⟩ := appM_some.1 aX
   replace hm := (hm.both 2 0 (by decide) rfl rfl).pk (L' := [blk aK [aH, aI, (nV aB.jump), (nV aB.on), aJ] 59, both (ow [aD] aC) (ow [(sV aL 0 1 1)] ([aA] : List Block_))]) [1, 2] rfl rfl
   refine gf rfl (fun a hf => e_appendD (xs := aC) (ys := ([aA] : List Block_)) 1 et_42 hf hm rfl rfl rfl rfl aY) ?_
   rintro aa w hm
   rw [aZ] at hm
   exact gA rfl (gE (gR (gP (by omega) (by omega) rfl (gM rfl (gE (gZe fun a hf => ⟨aa, hf.sb rfl, hm.pk [1] rfl rfl⟩))))))
  repeat clear hm
  rintro an ao a w ⟨ab, hf, hm⟩ ap aq
  exact gv hf (gS (gR (gB rfl (gE (gS (go _ 11 rfl (decide_eq_false (by omega)) (gcf rfl (gXt (gHh (gS (gR (gM rfl (gA rfl (gE (gRt (gr1 results123 rfl ⟨ab, rfl, hm.pk [0] rfl rfl⟩))))))))))))))))
theorem impl_mapped_impl_Phi_impl_Phi_ok (w0 : World) (list : List Phi_) (v1 : Value) (h1 : GT.rep (hp w0) [v1] list) (f : Phi_ → Option Phi_) (fv1 : Value) (hfn1 : ∀ (w : World) (y0 : Phi_) (z1 : Value) (_ : GT.rep (hp w) [z1] y0.args) (r : Phi_), Below w0.heap.size w0 w → f y0 = some r → FnOk Tryz.prog fv1 [(.agg #[(nV y0.to), z1])] w (fun v w' => ∃ (x1 : Value), v = (.agg #[(nV r.to), x1]) ∧ Mem w (hp w) w' [ow [x1] r.args])) :
    ConM Tryz.prog 189 [v1, fv1] w0 (impl_mapped_impl_Phi_impl_Phi list f) fun r v w' => ∃ (x1 : Value), v = x1 ∧ Mem w0 (hp w0) w' [ow [x1] r] := by
  unfold impl_mapped_impl_Phi_impl_Phi
  refine gcon func189 rfl fun r => ?_
  have hm := Mem.start w0
  refine gS (gR (gA rfl (gE (gS (gR (gA rfl (gE (gS (gS (gR (gM rfl ?_)))))))))))
  obtain ⟨aL, aM, rfl, aW⟩ := ro_slice h1
  refine gY (yV st_55 rfl) (gM rfl (gE (gBk ?_)))
  replace hm := hm.nilow (α := Phi_)
  refine gNg (fun aJ aB a w => ∃ (aC : Value), St 22 [(1, fv1), (5, aC), (8, (.slice aL list.length aM)), (9, (nV ((list.length : Int)))), (10, (nV aJ))] w0 (hp w0) [ow [aC] aB] a w) (fun a hf => ⟨(.slice none 0 0), hf.sb rfl, hm.pk [0] rfl rfl⟩) ?_ ?_
  ·
   repeat clear hm
   rintro _ _ aJ aB a w ⟨aC, hf, hm⟩ aX aY aZ _
   refine gv hf (gS (gR (gB rfl (gE (gS (go _ 11 rfl (decide_eq_true (by omega)) (gct rfl (gSk (gS (gBk (gS (gR (gg fun aE aN aI => ?_)))))))))))))
   obtain ⟨aa, ab, ac, he⟩ := idx_form' h1 aI
   obtain ⟨rfl, _, rfl⟩ := sl3 he
   obtain ⟨aF, aO, aK⟩ := rk_Phi_ h1 aI
   refine gI st_55 aN (idx_lt aI) rfl (gY (yn (aO.mono hm.lez) isAgg87 sizeOf87 rfl) (gAl hm zeroValue87 rfl fun aG w hm => gSN hm 0 sizeOf87 (one_cons rfl (one_cons (rep_one aK) one_nil)) rfl fun w hm => gE (gR (gM rfl (gM rfl (gY (yn (hm.blk_at 0 rfl) isAgg87 sizeOf87 rfl) (gb fun aA aP => gf rfl (fun a hf => e_callv hf rfl rfl rfl (hfn1 _ aE aF (hm.now aK) _ hm.below aP)) ?_)))))))
   rintro ae w ⟨aD, rfl, hB⟩
   replace hm := hm.give hB; clear hB
   refine gf rfl (fun a hf => e_build (vs := #[(0, (.agg #[(nV aA.to), aD]))]) (cs := [(nV aA.to), aD]) et_55 hf hm rfl rfl (by kernel_rfl) rfl rfl) ?_
   rintro _ w ⟨aH, rfl, hm⟩
   replace hm := hm.els_nil (α := Phi_)
   replace hm : Mem w0 (hp w0) _ [els [] ([] : List Phi_), blk aH [(nV aA.to), aD] 87, ow [(nV aA.to), aD] (aA : Phi_), blk aG [(nV aE.to), aF] 87, ow [aC] aB] := mk_Phi_ aA.to hm 2 rfl
   replace hm := (hm.els_cons 0 2 (by decide) rfl rfl).pk (L' := [els [(nV aA.to), aD] ([aA] : List Phi_), blk aH [(nV aA.to), aD] 87, blk aG [(nV aE.to), aF] 87, ow [aC] aB]) [0, 1, 3, 4] rfl rfl
   replace hm := (hm.lit_els 1 0 (by decide) rfl rfl rfl rfl).pk (L' := [ow [(sV aH 0 1 1)] ([aA] : List Phi_), blk aG [(nV aE.to), aF] 87, ow [aC] aB]) [1, 2, 3] rfl rfl
   refine gb fun af aQ => ?_
   obtain ⟨aR, aS⟩ := appM_some.1 aQ
   replace hm := (hm.both 2 0 (by decide) rfl rfl).pk (L' := [blk aG [(nV aE.to), aF] 87, both (ow [aC] aB) (ow [(sV aH 0 1 1)] ([aA] : List Phi_))]) [1, 2] rfl rfl
   refine gf rfl (fun a hf => e_appendD (xs := aB) (ys := ([aA] : List Phi_)) 1 et_55 hf hm rfl rfl rfl rfl aR) ?_
   rintro aT w hm
   rw [aS] at hm
   exact gA rfl (gE (gR (gP (by omega) (by omega) rfl (gM rfl (gE (gZe fun a hf => ⟨aT, hf.sb rfl, hm.pk [1] rfl rfl⟩))))))
  repeat clear hm
  rintro ag ah a w ⟨aV, hf, hm⟩ ai aj
  exact gv hf (gS (gR (gB rfl (gE (gS (go _ 11 rfl (decide_eq_false (by omega)) (gcf rfl (gXt (gHh (gS (gR (gM rfl (gA rfl (gE (gRt (gr1 results189 rfl ⟨aV, rfl, hm.pk [0] rfl rfl⟩))))))))))))))))
theorem slices_Clone_S_int_int_ok (w0 : World) (s_ : List Int) (v1 : Value) (h1 : GT.rep (hp w0) [v1] s_) :
    ConM Tryz.prog 143 [v1] w0 (slices_Clone_S_int_int s_) fun r v w' => ∃ (x1 : Value), v = x1 ∧ Mem w0 (hp w0) w' [ow [x1] r] := by
  unfold slices_Clone_S_int_int
  refine gcon func143 rfl fun r => ?_
  have hm := Mem.start w0
  refine gS (gR (gA rfl (gE (gS (gS (gR (gM rfl ?_)))))))
  rcases nil_or h1 with ⟨he, aA⟩ | ⟨aF, aG, he⟩
  ·
   subst he; subst aA
   refine gcg (m' := some ([] : List Int)) (by simp [appM]) (gY (yG rfl (y_eqnil_t st_57.und rfl rfl rfl)) (gE (gct rfl (gS (gR (gA rfl (gE (gRt ?_))))))))
   replace hm := hm.nilow (α := Int)
   exact gr1 results143 rfl ⟨(.slice none 0 0), rfl, hm.pk [0] rfl rfl⟩
  subst he
  refine gY (yG rfl (y_eqnil_f st_57.und rfl rfl rfl)) (gE (gcf rfl (gSk (gS (gR (gf rfl (fun a hf => e_build0 (α := Int) et_57 hm rfl) ?_))))))
  rintro aH w hm
  refine gM rfl (gb fun aI aB => ?_)
  obtain ⟨aC, aD⟩ := appM_some.1 aB
  refine gf rfl (fun a hf => e_append 0 et_57 hf hm rfl (hm.now h1) rfl rfl rfl aC) ?_
  rintro aE w hm
  rw [aD] at hm
  exact gA rfl (gE (gRt (gr1 results143 rfl ⟨aE, rfl, hm.pk [0] rfl rfl⟩)))
theorem impl_clonePhi_ok (w0 : World) (f : Phi_) (v1 : Value) (h1 : GT.rep (hp w0) [v1] f.args) :
    ConM Tryz.prog 190 [(.agg #[(nV f.to), v1])] w0 (impl_clonePhi f) fun r v w' => ∃ (x1 : Value), v = (.agg #[(nV r.to), x1]) ∧ Mem w0 (hp w0) w' [ow [x1] r.args] := by
  unfold impl_clonePhi
  refine gcon func190 rfl fun r => ?_
  have hm := Mem.start w0
  refine gS (gR (gBx hm rfl fun aD w hm => gAl hm zeroValue87 rfl fun aE w hm => gE (gS (gW (.p 0 (.p 2 (.q 1 (.e 3 (.e 4 (.p 5 (.e 6 .fin .nil)) .nil) .nil)))) [3, 4] [0, 2, 5] hm [0, 1] [blk aE [(nV 0), (.slice none 0 0)] 87, blk aD [(nV f.to), v1] 87] rfl mxo (by kernel_rfl) (fun _ _ _ h => h.2) fun w hm hS => tP rfl (fun w => yF fo_87_0 rfl) (tP rfl (fun w => yF fo_87_1 rfl) (tQ rfl hS (fun w hm => yL hm 1 isAgg3 rfl) (tO (tY rfl (yL hm 1 isAgg57 rfl) (tAs hS (tO (gb fun aA aF => tf rfl rfl (fun a hf => e_call hf rfl call143 rfl (slices_Clone_S_int_int_ok _ f.args v1 (hm.now h1) _ aF)) ?_)))))))))))
  rintro aG w ⟨_, rfl, hB⟩
  replace hm := hm.give hB; clear hB
  refine tAk hm [1, 2] rfl fun hS => ?_
  obtain ⟨aB, aC, rfl, aH⟩ := ro_slice (hm.ow_rep 0 rfl)
  refine tP rfl (fun w => yG rfl (y_build (vs := [(0, (nV f.to)), (1, (.slice aB aA.length aC))]) (cs := #[(nV f.to), (.slice aB aA.length aC)]) rfl rfl (by kernel_rfl))) (tO (tf0 rfl rfl (fun a hf => e_storeN 1 hf hm rfl sizeOf87 rfl rfl rfl (one_cons rfl (one_cons rfl one_nil)) rfl rfl) ?_))
  rintro _ w hm
  exact tAn rfl (tE (gRt (grc 1 results190 hm rfl isAgg87 sizeOf87 ⟨(.slice aB aA.length aC), rfl, hm.pk [0] rfl rfl⟩)))
theorem impl_mapped_impl_Ins_impl_Ins_ok (w0 : World) (list : List Ins_) (v1 : Value) (h1 : GT.rep (hp w0) [v1] list) (f : Ins_ → Option Ins_) (fv1 : Value) (hfn1 : ∀ (w : World) (y0 : Ins_) (z1 : Value) (_ : GT.rep (hp w) [z1] y0.args) (r : Ins_), Below w0.heap.size w0 w → f y0 = some r → FnOk Tryz.prog fv1 [(.agg #[(nV y0.op), (nV y0.to), z1, (nV y0.n_)])] w (fun v w' => ∃ (x1 : Value), v = (.agg #[(nV r.op), (nV r.to), x1, (nV r.n_)]) ∧ Mem w (hp w) w' [ow [x1] r.args])) :
    ConM Tryz.prog 191 [v1, fv1] w0 (impl_mapped_impl_Ins_impl_Ins list f) fun r v w' => ∃ (x1 : Value), v = x1 ∧ Mem w0 (hp w0) w' [ow [x1] r] := by
  unfold impl_mapped_impl_Ins_impl_Ins
  refine gcon func191 rfl fun r => ?_
  have hm := Mem.start w0
  refine gS (gR (gA rfl (gE (gS (gR (gA rfl (gE (gS (gS (gR (gM rfl ?_)))))))))))
  obtain ⟨aL, aM, rfl, aW⟩ := ro_slice h1
  refine gY (yV st_56 rfl) (gM rfl (gE (gBk ?_)))
  replace hm := hm.nilow (α := Ins_)
  refine gNg (fun aJ aC a w => ∃ (aD : Value), St 22 [(1, fv1), (5, aD), (8, (.slice aL list.length aM)), (9, (nV ((list.length : Int)))), (10, (nV aJ))] w0 (hp w0) [ow [aD] aC] a w) (fun a hf => ⟨(.slice none 0 0), hf.sb rfl, hm.pk [0] rfl rfl⟩) ?_ ?_
  ·
   repeat clear hm
   rintro _ _ aJ aC a w ⟨aD, hf, hm⟩ aX aY aZ _
   refine gv hf (gS (gR (gB rfl (gE (gS (go _ 11 rfl (decide_eq_true (by omega)) (gct rfl (gSk (gS (gBk (gS (gR (gg fun aB aN aI => ?_)))))))))))))
   obtain ⟨aa, ab, ac, he⟩ := idx_form' h1 aI
   obtain ⟨rfl, _, rfl⟩ := sl3 he
   obtain ⟨aF, aO, aK⟩ := rk_Ins_ h1 aI
   refine gI st_56 aN (idx_lt aI) rfl (gY (yn (aO.mono hm.lez) isAgg61 sizeOf61 rfl) (gAl hm zeroValue61 rfl fun aG w hm => gSN hm 0 sizeOf61 (one_cons rfl (one_cons rfl (one_cons (rep_one aK) (one_cons rfl one_nil)))) rfl fun w hm => gE (gR (gM rfl (gM rfl (gY (yn (hm.blk_at 0 rfl) isAgg61 sizeOf61 rfl) (gb fun aA aP => gf rfl (fun a hf => e_callv hf rfl rfl rfl (hfn1 _ aB aF (hm.now aK) _ hm.below aP)) ?_)))))))
   rintro ae w ⟨aE, rfl, hB⟩
   replace hm := hm.give hB; clear hB
   refine gf rfl (fun a hf => e_build (vs := #[(0, (.agg #[(nV aA.op), (nV aA.to), aE, (nV aA.n_)]))]) (cs := [(nV aA.op), (nV aA.to), aE, (nV aA.n_)]) et_56 hf hm rfl rfl (by kernel_rfl) rfl rfl) ?_
   rintro _ w ⟨aH, rfl, hm⟩
   replace hm := hm.els_nil (α := Ins_)
   replace hm : Mem w0 (hp w0) _ [els [] ([] : List Ins_), blk aH [(nV aA.op), (nV aA.to), aE, (nV aA.n_)] 61, ow [(nV aA.op), (nV aA.to), aE, (nV aA.n_)] (aA : Ins_), blk aG [(nV aB.op), (nV aB.to), aF, (nV aB.n_)] 61, ow [aD] aC] := mk_Ins_ aA.op aA.to aA.n_ hm 2 rfl
   replace hm := (hm.els_cons 0 2 (by decide) rfl rfl).pk (L' := [els [(nV aA.op), (nV aA.to), aE, (nV aA.n_)] ([aA] : List Ins_), blk aH [(nV aA.op), (nV aA.to), aE, (nV aA.n_)] 61, blk aG [(nV aB.op), (nV aB.to), aF, (nV aB.n_)] 61, ow [aD] aC]) [0, 1, 3, 4] rfl rfl
   replace hm := (hm.lit_els 1 0 (by decide) rfl rfl rfl rfl).pk (L' := [ow [(sV aH 0 1 1)] ([aA] : List Ins_), blk aG [(nV aB.op), (nV aB.to), aF, (nV aB.n_)] 61, ow [aD] aC]) [1, 2, 3] rfl rfl
   refine gb fun af aQ => ?_
   obtain ⟨aR, aS⟩ := appM_some.1 aQ
   replace hm := (hm.both 2 0 (by decide) rfl rfl).pk (L' := [blk aG [(nV aB.op), (nV aB.to), aF, (nV aB.n_)] 61, both (ow [aD] aC) (ow [(sV aH 0 1 1)] ([aA] : List Ins_))]) [1, 2] rfl rfl
   refine gf rfl (fun a hf => e_appendD (xs := aC) (ys := ([aA] : List Ins_)) 1 et_56 hf hm rfl rfl rfl rfl aR) ?_
   rintro aT w hm
   rw [aS] at hm
   exact gA rfl (gE (gR (gP (by omega) (by omega) rfl (gM rfl (gE (gZe fun a hf => ⟨aT, hf.sb rfl, hm.pk [1] rfl rfl⟩))))))
  repeat clear hm
  rintro ag ah a w ⟨aV, hf, hm⟩ ai aj
  exact gv hf (gS (gR (gB rfl (gE (gS (go _ 11 rfl (decide_eq_false (by omega)) (gcf rfl (gXt (gHh (gS (gR (gM rfl (gA rfl (gE (gRt (gr1 results191 rfl ⟨aV, rfl, hm.pk [0] rfl rfl⟩))))))))))))))))
theorem impl_cloneIns_ok (w0 : World) (x_ : Ins_) (v1 : Value) (h1 : GT.rep (hp w0) [v1] x_.args) :
    ConM Tryz.prog 192 [(.agg #[(nV x_.op), (nV x_.to), v1, (nV x_.n_)])] w0 (impl_cloneIns x_) fun r v w' => ∃ (x1 : Value), v = (.agg #[(nV r.op), (nV r.to), x1, (nV r.n_)]) ∧ Mem w0 (hp w0) w' [ow [x1] r.args] := by
  unfold impl_cloneIns
  refine gcon func192 rfl fun r => ?_
  have hm := Mem.start w0
  refine gS (gR (gBx hm rfl fun aB w hm => gAl hm zeroValue61 rfl fun aC w hm => gE (gS (gR (gF fo_61_2 rfl (gL hm 1 isAgg57 rfl (gCg rfl call143 (slices_Clone_S_int_int_ok _ x_.args v1 (hm.now h1)) ?_)))))))
  rintro aD aE aA w ⟨_, rfl, hB⟩
  replace hm := hm.give hB; clear hB
  exact gF fo_61_2 rfl (gS1 hm 2 sizeOf57 (rep_one (hm.ow_rep 0 rfl)) rfl fun w hm => gE (gS (gR (gY (yn (hm.blk_at 2 rfl) isAgg61 sizeOf61 rfl) (gSN hm 1 sizeOf61 (one_cons rfl (one_cons rfl (one_cons (rep_one (hm.ow_rep 0 rfl)) (one_cons rfl one_nil)))) rfl fun w hm => gE (gRt (grc 1 results192 hm rfl isAgg61 sizeOf61 ⟨aA, rfl, hm.pk [0] rfl rfl⟩)))))))
theorem impl_cloneBlock_ok (w0 : World) (b_ : Block_) (v1 : Value) (h1 : GT.rep (hp w0) [v1] b_.phis) (v2 : Value) (h2 : GT.rep (hp w0) [v2] b_.ins) (v3 : Value) (h3 : GT.rep (hp w0) [v3] b_.next_) :
    ConM Tryz.prog 124 [(.agg #[v1, v2, (nV b_.jump), (nV b_.on), v3])] w0 (impl_cloneBlock b_) fun r v w' => ∃ (x1 : Value) (x2 : Value) (x3 : Value), v = (.agg #[x1, x2, (nV r.jump), (nV r.on), x3]) ∧ Mem w0 (hp w0) w' [ow [x1] r.phis, ow [x2] r.ins, ow [x3] r.next_] := by
  unfold impl_cloneBlock
  refine gcon func124 rfl fun r => ?_
  have hm := Mem.start w0
  refine gS (gR (gBx hm rfl fun aF w hm => gAl hm zeroValue59 rfl fun aG w hm => gE (gS (gR (gF fo_59_0 rfl (gL hm 1 isAgg55 rfl (gCg rfl call189 (impl_mapped_impl_Phi_impl_Phi_ok _ b_.phis v1 (hm.now h1) (fun y0 => impl_clonePhi y0) (.func (.func 190) #[] #[]) (fun w y0 aA aB r hB hq => ⟨190, [], rfl, call190, impl_clonePhi_ok w y0 aA aB  r hq⟩)) ?_)))))))
  rintro aH aI aC w ⟨_, rfl, hB⟩
  replace hm := hm.give hB; clear hB
  refine gF fo_59_0 rfl (gS1 hm 2 sizeOf55 (rep_one (hm.ow_rep 0 rfl)) rfl fun w hm => gE (gS (gR (gF fo_59_1 rfl (gL hm 2 isAgg56 rfl (gCg rfl call191 (impl_mapped_impl_Ins_impl_Ins_ok _ b_.ins v2 (hm.now h2) (fun y0 => impl_cloneIns y0) (.func (.func 192) #[] #[]) (fun w y0 aA aB r hB hq => ⟨192, [], rfl, call192, impl_cloneIns_ok w y0 aA aB  r hq⟩)) ?_))))))
  rintro aJ aK aD w ⟨_, rfl, hB⟩
  replace hm := hm.give hB; clear hB
  refine gF fo_59_1 rfl (gS1 hm 3 sizeOf56 (rep_one (hm.ow_rep 0 rfl)) rfl fun w hm => gE (gS (gR (gF fo_59_4 rfl (gL hm 3 isAgg57 rfl (gCg rfl call143 (slices_Clone_S_int_int_ok _ b_.next_ v3 (hm.now h3)) ?_))))))
  rintro aL aM aE w ⟨_, rfl, hB⟩
  replace hm := hm.give hB; clear hB
  exact gF fo_59_4 rfl (gS1 hm 4 sizeOf57 (rep_one (hm.ow_rep 0 rfl)) rfl fun w hm => gE (gS (gR (gY (yn (hm.blk_at 4 rfl) isAgg59 sizeOf59 rfl) (gSN hm 3 sizeOf59 (one_cons (rep_one (hm.ow_rep 2 rfl)) (one_cons (rep_one (hm.ow_rep 1 rfl)) (one_cons rfl (one_cons rfl (one_cons (rep_one (hm.ow_rep 0 rfl)) one_nil))))) rfl fun w hm => gE (gRt (grc 3 results124 hm rfl isAgg59 sizeOf59 ⟨aC, aD, aE, rfl, hm.pk [2, 1, 0] rfl rfl⟩)))))))
theorem impl_cloneCode_ok (w0 : World) (c_ : Code_) (v1 : Value) (h1 : GT.rep (hp w0) [v1] c_.blocks) :
    ConM Tryz.prog 73 [(.agg #[(nV c_.params), (nV c_.regs), v1])] w0 (impl_cloneCode c_) fun r v w' => ∃ (x1 : Value), v = (.agg #[(nV r.params), (nV r.regs), x1]) ∧ Mem w0 (hp w0) w' [ow [x1] r.blocks] := by
  unfold impl_cloneCode
  refine gcon func73 rfl fun r => ?_
  have hm := Mem.start w0
  refine gS (gR (gBx hm rfl fun aH w hm => gAl hm zeroValue44 rfl fun aI w hm => gE (gS (gR (gF fo_44_2 rfl (gL hm 1 isAgg42 rfl (gCg rfl call123 (impl_mapped_impl_Block_impl_Block_ok _ c_.blocks v1 (hm.now h1) (fun y0 => impl_cloneBlock y0) (.func (.func 124) #[] #[]) (fun w y0 aA aB aC aD aE aF r hB hq => ⟨124, [], rfl, call124, impl_cloneBlock_ok w y0 aA aB aC aD aE aF  r hq⟩)) ?_)))))))
  rintro aJ aK aG w ⟨_, rfl, hB⟩
  replace hm := hm.give hB; clear hB
  exact gF fo_44_2 rfl (gS1 hm 2 sizeOf42 (rep_one (hm.ow_rep 0 rfl)) rfl fun w hm => gE (gS (gR (gY (yn (hm.blk_at 2 rfl) isAgg44 sizeOf44 rfl) (gSN hm 1 sizeOf44 (one_cons rfl (one_cons rfl (one_cons (rep_one (hm.ow_rep 0 rfl)) one_nil))) rfl fun w hm => gE (gRt (grc 1 results73 hm rfl isAgg44 sizeOf44 ⟨aG, rfl, hm.pk [0] rfl rfl⟩)))))))
theorem pimpl_doms__heads_1_ok (w0 : World) (b_ : Int) (c0_ : doms) (bpc0 : Nat) (bpd0 : Nat) (v1p : Value) (h1p : GT.rep (hp w0) [v1p] c0_.c.blocks) (v2p : Value) (h2p : GT.rep (hp w0) [v2p] c0_.over) (v3p : Value) (h3p : GT.rep (hp w0) [v3p] c0_.in_) (hbbpd0 : (hp w0) bpd0 = some (.cells ([(nV c0_.c.params), (nV c0_.c.regs), v1p, v2p, v3p] : List Value).toArray 166 (0, 0))) (hbbpc0 : (hp w0) bpc0 = some (.cells ([(pV bpd0)] : List Value).toArray 129 (0, 0))) (c1_ : Int) (bpc1 : Nat) (hbbpc1 : (hp w0) bpc1 = some (.cells ([(nV c1_)] : List Value).toArray 3 (0, 0))) :
    ConM Tryz.prog 161 [(nV b_), (pV bpc0), (pV bpc1)] w0 (pimpl_doms__heads_1 b_ c0_ c1_) fun r v w' => v = (.bool (r)) ∧ Below w0.heap.size w0 w' := by
  unfold pimpl_doms__heads_1
  refine gcon func161 rfl fun r => ?_
  have hm := Mem.start w0
  exact gS (gR (gA rfl (gE (gS (gR (gY (yl isAgg129 (hm.hz_cell hbbpc0 rfl) rfl) (gY (yl isAgg3 (hm.hz_cell hbbpc1 rfl) rfl) (gM rfl (gC hm rfl call157 (pimpl_doms__dominates_ok _ c0_ bpd0 v1p (hm.now h1p) v2p (hm.now h2p) v3p (hm.now h3p) (hm.lez _ _ ((Heap.le_refl _) _ _ hbbpd0)) c1_ b_) fun aA aB w hm => gA rfl (gE (gRt (gr1 results161 rfl ⟨rfl, hm.below⟩))))))))))))
theorem pimpl_doms__heads_ok (w0 : World) (d : doms) (bp0 : Nat) (v1p : Value) (h1p : GT.rep (hp w0) [v1p] d.c.blocks) (v2p : Value) (h2p : GT.rep (hp w0) [v2p] d.over) (v3p : Value) (h3p : GT.rep (hp w0) [v3p] d.in_) (hbbp0 : (hp w0) bp0 = some (.cells ([(nV d.c.params), (nV d.c.regs), v1p, v2p, v3p] : List Value).toArray 166 (0, 0))) :
    ConM Tryz.prog 105 [(pV bp0)] w0 (pimpl_doms__heads d) fun r v w' => ∃ (x1 : Value), v = x1 ∧ Mem w0 (hp w0) w' [ow [x1] r] := by
  unfold pimpl_doms__heads
  refine gcon func105 rfl fun r => ?_
  have hm := Mem.start w0
  refine gS (gR (gBx hm rfl fun aB w hm => gA rfl (gE (gS (gR (gA rfl (gE (gS (gS (gR (gL hm 0 isAgg129 rfl (gY (yG rfl (y_nilptr rfl rfl)) (gF fo_166_2 rfl (gY (yl isAgg98 (hm.hz_cell hbbp0 rfl) rfl) ?_))))))))))))))
  obtain ⟨aJ, aK, rfl, aW⟩ := ro_slice h3p
  refine gY (yV st_98 rfl) (gM rfl (gE (gBk ?_)))
  replace hm := hm.nilow (α := Int)
  refine gNg (fun aA aG a w => ∃ (aC : Value), St 27 [(1, (pV aB)), (3, aC), (9, (nV ((d.in_.length : Int)))), (10, (nV aA))] w0 (hp w0) [blk aB [(pV bp0)] 129, ow [aC] aG] a w) (fun a hf => ⟨(.slice none 0 0), hf.sb rfl, hm.pk [1, 0] rfl rfl⟩) ?_ ?_
  ·
   repeat clear hm
   rintro _ _ aA aG a w ⟨aC, hf, hm⟩ aX aY aZ _
   refine gv hf (gS (gR (gB rfl (gE (gS (go _ 11 rfl (decide_eq_true (by omega)) (gct rfl (gSk (gS (gJg (fun aH a w => ∃ (aD : Value), St 27 [(1, (pV aB)), (3, aD), (9, (nV ((d.in_.length : Int)))), (10, (nV aA))] w0 (hp w0) [blk aB [(pV bp0)] 129, ow [aD] aH] a w) (fun aH => ?_) ?_))))))))))
   ·
    refine gBk (gS (gR (gM rfl (gAl hm zeroValue3 rfl fun aE w hm => gS1 hm 0 sizeOf3 rfl rfl fun w hm => gE (gS (gW (.p 6 (.q 0 (.p 1 (.p 2 (.q 3 (.e 4 (.e 5 (.e 7 .fin .nil) .nil) .nil)))))) [4] [1, 2, 6] hm [0, 1, 2] [blk aE [(nV aA)] 3, blk aB [(pV bp0)] 129, ow [aC] aG] rfl mxo (by kernel_rfl) (fun _ _ _ h => h.2) fun w hm hS => tP rfl (fun w => yU rfl) (tQ rfl hS (fun w hm => yL hm 1 isAgg129 rfl) (tP rfl (fun w => yG rfl (y_nilptr rfl rfl)) (tP rfl (fun w => yF fo_166_0 rfl) (tQ rfl hS (fun w hm => yn (cs := [(nV d.c.params), (nV d.c.regs), v1p]) (CellsAt.part (i := 0) (hm.hz_at hbbp0) rfl) isAgg44 sizeOf44 rfl) (tO (tY rfl (yL hm 0 isAgg3 rfl) (tAs hS (tO (gb fun aL aM => tf rfl rfl (fun a hf => e_call hf rfl call78 rfl (impl_PredsOf_ok _ d.c v1p (hm.now h1p) aA _ aM)) ?_)))))))))))))))
    rintro aN w ⟨_, rfl, hB⟩
    replace hm := hm.give hB; clear hB
    refine tAn rfl (tO (gb fun aa aO => tf rfl rfl (fun a hf => e_call hf rfl call147 rfl (slices_ContainsFunc_S_int_int_ok _ aL aN (hm.ow_rep 0 rfl) (fun y0 => pimpl_doms__heads_1 y0 d aA) (.func (.func 161) #[] #[(pV aB), (pV aE)]) (fun w y0 r hB hq => ⟨161, [(pV aB), (pV aE)], rfl, call161, pimpl_doms__heads_1_ok w y0 d aB bp0 v1p (rep_later (hm.now h1p) hB) v2p (rep_later (hm.now h2p) hB) (.slice aJ d.in_.length aK) (rep_later (hm.now h3p) hB) (hm.old_later hbbp0 hB) (hm.blk_later 2 rfl hB) aA aE (hm.blk_later 1 rfl hB) r hq⟩) _ aO)) ?_))
    rintro ab w ⟨rfl, hB⟩
    replace hm := hm.below' hB; clear hB
    refine tAn rfl (tE (gJg (fun aI a w => ∃ (aF : Value), St 27 [(1, (pV aB)), (3, aF), (9, (nV ((d.in_.length : Int)))), (10, (nV aA))] w0 (hp w0) [blk aB [(pV bp0)] 129, ow [aF] aI] a w) (fun aI => ?_) ?_))
    ·
     refine gs 20 rfl (fun aP => ?_) fun aP => ?_
     ·
      refine gct rfl (gR (gM rfl (gL hm 1 isAgg3 rfl (gf rfl (fun a hf => e_build (vs := #[(0, (nV aA))]) (cs := [(nV aA)]) et_57 hf hm rfl rfl (by kernel_rfl) rfl rfl) ?_))))
      rintro _ w ⟨ac, rfl, hm⟩
      replace hm := hm.lit (xs := ([aA] : List Int)) 0 rfl rfl rfl rfl
      refine gb fun ae aQ => ?_
      obtain ⟨aR, aS⟩ := appM_some.1 aQ
      refine gf rfl (fun a hf => e_append 4 et_57 hf hm rfl (hm.ow_rep 0 rfl) rfl rfl rfl aR) ?_
      rintro aT w hm
      rw [aS] at hm
      exact gA rfl (gE (gZ fun a hf => ⟨aT, hf.sb rfl, hm.pk [3, 4] rfl rfl⟩))
     exact gcf rfl (gSk (gZ fun a hf => ⟨aC, hf.sb rfl, hm.pk [2, 3] rfl rfl⟩))
    repeat clear hm
    rintro aI a w ⟨aF, hf, hm⟩
    exact gv hf (gZ fun a hf => ⟨aF, hf.sb rfl, hm.pk [0, 1] rfl rfl⟩)
   repeat clear hm
   rintro aH a w ⟨aD, hf, hm⟩
   exact gv hf (gR (gP (by omega) (by omega) rfl (gM rfl (gE (gZe fun a hf => ⟨aD, hf.sb rfl, hm.pk [0, 1] rfl rfl⟩)))))
  repeat clear hm
  rintro af ag a w ⟨aV, hf, hm⟩ ah ai
  exact gv hf (gS (gR (gB rfl (gE (gS (go _ 11 rfl (decide_eq_false (by omega)) (gcf rfl (gXt (gHh (gS (gR (gM rfl (gA rfl (gE (gRt (gr1 results105 rfl ⟨aV, rfl, hm.pk [1] rfl rfl⟩))))))))))))))))
theorem pimpl_doms__body_1_all (c1_ : doms) : ∀ (b_ : Int) (c0_ : MapS Bool) (r : (MapS Bool)), pimpl_doms__body_1 b_ c0_ c1_ = some r → ∀ (w0 : World) (hz : Heap) (bpc0 : Nat) (v1p : Value) (bpc1 : Nat) (bpd1 : Nat) (v2p : Value) (h2p : GT.rep hz [v2p] c1_.c.blocks) (v3p : Value) (h3p : GT.rep hz [v3p] c1_.over) (v4p : Value) (h4p : GT.rep hz [v4p] c1_.in_) (hbbpd1 : hz bpd1 = some (.cells ([(nV c1_.c.params), (nV c1_.c.regs), v2p, v3p, v4p] : List Value).toArray 166 (0, 0))) (hbbpc1 : hz bpc1 = some (.cells ([(pV bpd1)] : List Value).toArray 129 (0, 0))) (bpc2 : Nat) (hbbpc2 : hz bpc2 = some (.cells ([(.func (.func 218) #[] #[(pV bpc0), (pV bpc1), (pV bpc2)])] : List Value).toArray 199 (0, 0))) (hm0 : Mem w0 hz w0 [blk bpc0 [v1p] 110, owm v1p c0_]), Con Tryz.prog 218 [(nV b_), (pV bpc0), (pV bpc1), (pV bpc2)] w0 (fun v w' => ∃ (x1 : Value), v = (.tuple #[]) ∧ Mem w0 hz w' [blk bpc0 [x1] 110, owm x1 r]) := by
  refine pimpl_doms__body_1.partial_correctness c1_ (motive := fun b_ c0_ r => ∀ (w0 : World) (hz : Heap) (bpc0 : Nat) (v1p : Value) (bpc1 : Nat) (bpd1 : Nat) (v2p : Value) (h2p : GT.rep hz [v2p] c1_.c.blocks) (v3p : Value) (h3p : GT.rep hz [v3p] c1_.over) (v4p : Value) (h4p : GT.rep hz [v4p] c1_.in_) (hbbpd1 : hz bpd1 = some (.cells ([(nV c1_.c.params), (nV c1_.c.regs), v2p, v3p, v4p] : List Value).toArray 166 (0, 0))) (hbbpc1 : hz bpc1 = some (.cells ([(pV bpd1)] : List Value).toArray 129 (0, 0))) (bpc2 : Nat) (hbbpc2 : hz bpc2 = some (.cells ([(.func (.func 218) #[] #[(pV bpc0), (pV bpc1), (pV bpc2)])] : List Value).toArray 199 (0, 0))) (hm0 : Mem w0 hz w0 [blk bpc0 [v1p] 110, owm v1p c0_]), Con Tryz.prog 218 [(nV b_), (pV bpc0), (pV bpc1), (pV bpc2)] w0 (fun v w' => ∃ (x1 : Value), v = (.tuple #[]) ∧ Mem w0 hz w' [blk bpc0 [x1] 110, owm x1 r])) ?_
  intro rec_ ih_ b_ c0_ r hq w0 hz bpc0 v1p bpc1 bpd1 v2p h2p v3p h3p v4p h4p hbbpd1 hbbpc1 bpc2 hbbpc2 hm0
  have pimpl_doms__body_1_rec : ∀ (w0 : World) (hz : Heap) (b_ : Int) (c0_ : MapS Bool) (bpc0 : Nat) (v1p : Value) (_ : doms) (bpc1 : Nat) (bpd1 : Nat) (v2p : Value) (h2p : GT.rep hz [v2p] c1_.c.blocks) (v3p : Value) (h3p : GT.rep hz [v3p] c1_.over) (v4p : Value) (h4p : GT.rep hz [v4p] c1_.in_) (hbbpd1 : hz bpd1 = some (.cells ([(nV c1_.c.params), (nV c1_.c.regs), v2p, v3p, v4p] : List Value).toArray 166 (0, 0))) (hbbpc1 : hz bpc1 = some (.cells ([(pV bpd1)] : List Value).toArray 129 (0, 0))) (bpc2 : Nat) (hbbpc2 : hz bpc2 = some (.cells ([(.func (.func 218) #[] #[(pV bpc0), (pV bpc1), (pV bpc2)])] : List Value).toArray 199 (0, 0))) (hm0 : Mem w0 hz w0 [blk bpc0 [v1p] 110, owm v1p c0_]) (r : (MapS Bool)) (hq : rec_ b_ c0_ = some r), Con Tryz.prog 218 [(nV b_), (pV bpc0), (pV bpc1), (pV bpc2)] w0 (fun v w' => ∃ (x1 : Value), v = (.tuple #[]) ∧ Mem w0 hz w' [blk bpc0 [x1] 110, owm x1 r]) := fun w0 hz b_ c0_ bpc0 v1p _ bpc1 bpd1 v2p h2p v3p h3p v4p h4p hbbpd1 hbbpc1 bpc2 hbbpc2 hm0 r hq => ih_ b_ c0_ r hq w0 hz bpc0 v1p bpc1 bpd1 v2p h2p v3p h3p v4p h4p hbbpd1 hbbpc1 bpc2 hbbpc2 hm0
  refine gconr (ρ := (MapS Bool)) (R := fun r v w' => ∃ (x1 : Value), v = (.tuple #[]) ∧ Mem w0 hz w' [blk bpc0 [x1] 110, owm x1 r]) func218 rfl hq ?_
  have hm := hm0
  refine gS (gS (gJ hm (fun aC => [(0, (nV b_)), (1, (pV bpc0)), (2, (pV bpc1)), (3, (pV bpc2)), (19, (.bool (aC)))]) (fun aC => [blk bpc0 [v1p] 110, owm v1p c0_]) (fun aC => ?_) ?_))
  ·
   refine gR (gL hm 0 isAgg110 rfl (gM rfl (gY (yG rfl (y_lookB (key := b_) (m := (c0_ : MapS Bool)) underlying3 underlying110 zeroValue4 (hm.owm_rep 1 rfl) rfl rfl rfl)) (gM rfl (gs 10 rfl (fun aK => ?_) fun aK => ?_)))))
   ·
    exact gO rfl (gO rfl (gO rfl (gO rfl (gO rfl (gO rfl (gO rfl (gO rfl (gKt rfl (gE (gz hm [0, 1] rfl))))))))))
   refine gY (yl isAgg129 (hm.hz_cell hbbpc1 rfl) rfl) (gY (yG rfl (y_nilptr rfl rfl)) (gF fo_166_2 rfl (gY (yl isAgg98 (hm.hz_cell hbbpd1 rfl) rfl) (gM rfl (gg fun aL aM aE => ?_)))))
   obtain ⟨aX, aY, aZ, he⟩ := idx_form h4p aE
   subst he
   exact gI st_98 aM (idx_lt aE) rfl (gY (yl isAgg4 ((flat_cells (cs := [(.bool (aL))]) (hm.now h4p) aE rfl).cell (j := 0) rfl) rfl) (gN rfl (gKf rfl (gE (gz hm [0, 1] rfl)))))
  repeat clear hm
  intro aC w hm
  refine gs 19 rfl (fun aN => ?_) fun aN => ?_
  ·
   exact gct rfl (gRt (gr0 results218 ⟨v1p, rfl, hm.pk [0, 1] rfl rfl⟩))
  refine gcf rfl (gSk (gS (gR (gL hm 0 isAgg110 rfl (gM rfl (gf0 rfl (fun a hf => e_insM (β := Bool) (key := b_) (u := true) (b := false) 1 underlying3 underlying110 hf hm rfl rfl rfl rfl rfl) ?_))))))
  rintro _ w hm
  refine gE (gS (gR (gY (yl isAgg129 (hm.hz_cell hbbpc1 rfl) rfl) (gY (yG rfl (y_nilptr rfl rfl)) (gF fo_166_0 rfl (gY (yn (cs := [(nV c1_.c.params), (nV c1_.c.regs), v2p]) (CellsAt.part (i := 0) (hm.hz_at hbbpd1) rfl) isAgg44 sizeOf44 rfl) (gM rfl (gCg rfl call78 (impl_PredsOf_ok _ c1_.c v2p (hm.now h2p) b_) ?_))))))))
  rintro aA aa ab w ⟨_, rfl, hB⟩
  replace hm := hm.give hB; clear hB
  obtain ⟨aH, aF, rfl, ac⟩ := ro_slice (hm.ow_rep 0 rfl)
  refine gY (yV st_57 rfl) (gM rfl (gE (gBk (gNg (fun aI aD a w => ∃ (aB : Value), St 37 [(3, (pV bpc2)), (27, (.slice aH aA.length aF)), (28, (nV ((aA.length : Int)))), (29, (nV aI))] w0 hz [ow [(.slice aH aA.length aF)] aA, blk bpc0 [aB] 110, owm aB aD] a w) (fun a hf => ⟨v1p, hf.sb rfl, hm.pk [0, 1, 2] rfl rfl⟩) ?_ ?_))))
  ·
   repeat clear hm
   rintro _ _ aI aD a w ⟨aB, hf, hm⟩ ae af ag _
   refine gv hf (gS (gR (gB rfl (gE (gS (go _ 30 rfl (decide_eq_true (by omega)) (gct rfl (gSk (gS (gBk (gS (gR (gg fun aJ aO aG => ?_)))))))))))))
   obtain ⟨aP, aQ, ah, he⟩ := idx_form (hm.ow_rep 0 rfl) aG
   obtain ⟨rfl, _, rfl⟩ := sl3 he
   refine gI st_57 aO (idx_lt aG) rfl (gY (yl isAgg3 ((flat_cells (cs := [(nV aJ)]) (hm.ow_rep 0 rfl) aG rfl).cell (j := 0) rfl) rfl) (gA rfl (gE (gR (gY (yl isAgg199 (hm.hz_cell hbbpc2 rfl) rfl) (gM rfl ?_))))))
   obtain ⟨aR, hle, hm1, hsub, aS⟩ := hm.take2 (L1 := [blk bpc0 [aB] 110, owm aB aD]) (L2 := [ow [(sV aP aQ aA.length aF)] aA]) [1, 2] [0] (by decide) rfl rfl
   refine gb fun ai aT => gf rfl (fun a hf => e_callv hf rfl rfl rfl ⟨218, [(pV bpc0), (pV bpc1), (pV bpc2)], rfl, call218, pimpl_doms__body_1_rec _ aR aJ aD bpc0 aB c1_ bpc1 bpd1 v2p (GT.mono hle h2p) v3p (GT.mono hle h3p) v4p (GT.mono hle h4p) (hle _ _ ((Heap.le_refl _) _ _ hbbpd1)) (hle _ _ ((Heap.le_refl _) _ _ hbbpc1)) bpc2 (hle _ _ ((Heap.le_refl _) _ _ hbbpc2)) hm1  _ aT⟩) ?_
   rintro aj w ⟨aV, rfl, hB⟩
   replace hm := aS _ _ hB; clear hB
   exact gE (gR (gP (by omega) (by omega) rfl (gM rfl (gE (gZe fun a hf => ⟨aV, hf.sb rfl, hm.pk [2, 0, 1] rfl rfl⟩)))))
  repeat clear hm
  rintro ak am a w ⟨aW, hf, hm⟩ an ao
  exact gv hf (gS (gR (gB rfl (gE (gS (go _ 30 rfl (decide_eq_false (by omega)) (gcf rfl (gXt (gHh (gre results218 ⟨aW, rfl, hm.pk [1, 2] rfl rfl⟩))))))))))
theorem pimpl_doms__body_1_ok (w0 : World) (hz : Heap) (b_ : Int) (c0_ : MapS Bool) (bpc0 : Nat) (v1p : Value) (c1_ : doms) (bpc1 : Nat) (bpd1 : Nat) (v2p : Value) (h2p : GT.rep hz [v2p] c1_.c.blocks) (v3p : Value) (h3p : GT.rep hz [v3p] c1_.over) (v4p : Value) (h4p : GT.rep hz [v4p] c1_.in_) (hbbpd1 : hz bpd1 = some (.cells ([(nV c1_.c.params), (nV c1_.c.regs), v2p, v3p, v4p] : List Value).toArray 166 (0, 0))) (hbbpc1 : hz bpc1 = some (.cells ([(pV bpd1)] : List Value).toArray 129 (0, 0))) (bpc2 : Nat) (hbbpc2 : hz bpc2 = some (.cells ([(.func (.func 218) #[] #[(pV bpc0), (pV bpc1), (pV bpc2)])] : List Value).toArray 199 (0, 0))) (hm0 : Mem w0 hz w0 [blk bpc0 [v1p] 110, owm v1p c0_]) (r : (MapS Bool)) (hq : pimpl_doms__body_1 b_ c0_ c1_ = some r) : Con Tryz.prog 218 [(nV b_), (pV bpc0), (pV bpc1), (pV bpc2)] w0 (fun v w' => ∃ (x1 : Value), v = (.tuple #[]) ∧ Mem w0 hz w' [blk bpc0 [x1] 110, owm x1 r]) := pimpl_doms__body_1_all c1_ b_ c0_ r hq w0 hz bpc0 v1p bpc1 bpd1 v2p h2p v3p h3p v4p h4p hbbpd1 hbbpc1 bpc2 hbbpc2 hm0
theorem impl_sortedKeys_bool_ok (w0 : World) (m : MapS Bool) (v1 : Value) (h1 : GT.rep (hp w0) [v1] m) :
    ConM Tryz.prog 90 [v1] w0 (impl_sortedKeys_bool m) fun r v w' => ∃ (x1 : Value), v = x1 ∧ Mem w0 (hp w0) w' [ow [x1] r] := by
  unfold impl_sortedKeys_bool
  rw [← keys_model]
  refine gcon func90 rfl fun r => ?_
  have hm := Mem.start w0
  refine gS (gR (gA rfl (gE (gS (gR (gA rfl (gE (gS (gS (gR (gM rfl (gf rfl (fun a hf => e_rangeS (m := (m : MapS Bool)) hf hm underlying110 h1 rfl rfl) ?_))))))))))))
  rintro _ w ⟨aC, rfl, hm⟩
  refine gE (gBk ?_)
  replace hm := hm.nilow (α := Int)
  refine gRngK (m := (m : MapS Bool)) (fun xs ys h => by simp only [sortI_perm h]) h1 (fun aD aE a w => ∃ (aA : Value), St 18 [(3, aA), (6, (pV aC))] w0 (hp w0) [ow [aA] aE, itc (hp w0) v1 aC aD] a w) (fun a hf => ⟨(.slice none 0 0), hf.sb rfl, hm.pk [0, 1] rfl rfl⟩) ?_ ?_
  ·
   repeat clear hm
   rintro aD aE a w ⟨aA, hf, hm⟩ hmo
   refine gv (m := some ()) (r := ()) hf ?_ rfl
   refine gS (gR (gf rfl (fun a hf => e_nextS 1 hf hm rfl hmo rfl rfl) ?_))
   rintro _ w ⟨aM, aB, aN, rfl, aF, aG, hm⟩
   refine gSw aF (gX rfl (gE (gS (gct rfl (gSk (gBk (gS (gR (gY (yG rfl (y_entryS 1 hm rfl aG rfl rfl)) (gX rfl (gA rfl (gE (gR (gM rfl (gM rfl (gf rfl (fun a hf => e_build (vs := #[(0, (nV aB.1))]) (cs := [(nV aB.1)]) et_57 hf hm rfl rfl (by kernel_rfl) rfl rfl) ?_))))))))))))))))
   rintro _ w ⟨aO, rfl, hm⟩
   replace hm := hm.lit (xs := ([aB.1] : List Int)) 0 rfl rfl rfl rfl
   refine gb fun aP aH => ?_
   obtain ⟨aI, aJ⟩ := appM_some.1 aH
   refine gf rfl (fun a hf => e_append 1 et_57 hf hm rfl (hm.ow_rep 0 rfl) rfl rfl rfl aI) ?_
   rintro aK w hm
   rw [aJ] at hm
   exact gA rfl (gE (gZr aG aF fun a hf => ⟨aK, hf.sb rfl, hm.pk [1, 2] rfl rfl⟩))
  repeat clear hm
  rintro aQ aR a w ⟨aL, hf, hm⟩ hno hk
  refine gv hf ?_ hk
  refine gS (gR (gY (yG rfl (y_nextE 1 hm rfl hno rfl rfl)) (gX rfl (gE (gS (gcf rfl (gXt (gHh (gS (gR (gM rfl (gf rfl (fun a hf => e_call hf rfl call139 rfl (sort_con lays189 hm 0 rfl)) ?_))))))))))))
  rintro _ w ⟨rfl, hm⟩
  exact gE (gS (gR (gM rfl (gA rfl (gE (gRt (gr1 results90 rfl ⟨aL, rfl, hm.pk [0] rfl rfl⟩)))))))
theorem pimpl_doms__body_ok (w0 : World) (d : doms) (bp0 : Nat) (v1p : Value) (h1p : GT.rep (hp w0) [v1p] d.c.blocks) (v2p : Value) (h2p : GT.rep (hp w0) [v2p] d.over) (v3p : Value) (h3p : GT.rep (hp w0) [v3p] d.in_) (hbbp0 : (hp w0) bp0 = some (.cells ([(nV d.c.params), (nV d.c.regs), v1p, v2p, v3p] : List Value).toArray 166 (0, 0))) (h_ : Int) :
    ConM Tryz.prog 162 [(pV bp0), (nV h_)] w0 (pimpl_doms__body d h_) fun r v w' => ∃ (x1 : Value), v = x1 ∧ Mem w0 (hp w0) w' [ow [x1] r] := by
  unfold pimpl_doms__body
  refine gcon func162 rfl fun r => ?_
  have hm := Mem.start w0
  refine gS (gR (gBx hm rfl fun aB w hm => gA rfl (gE (gS (gR (gf rfl (fun a hf => e_mkM (β := Bool) hm rfl) ?_))))))
  rintro aR w hm
  refine gM rfl (gf0 rfl (fun a hf => e_insM (β := Bool) (key := h_) (u := true) (b := true) 0 underlying3 underlying110 hf hm rfl rfl rfl rfl rfl) ?_)
  rintro _ w hm
  refine gM rfl (gAl hm zeroValue110 rfl fun aC w hm => gS1 hm 0 sizeOf110 (owm_one hm 1 rfl) rfl fun w hm => gE (gS (gR (gAl hm zeroValue199 rfl fun aD w hm => gE (gS (gR (gY (yU rfl) (gS1 hm 0 sizeOf199 rfl rfl fun w hm => gE (gS (gS (gR (gL hm 3 isAgg129 rfl (gY (yG rfl (y_nilptr rfl rfl)) (gF fo_166_0 rfl (gY (yn (cs := [(nV d.c.params), (nV d.c.regs), v1p]) (CellsAt.part (i := 0) (hm.hz_at hbbp0) rfl) isAgg44 sizeOf44 rfl) (gM rfl (gCg rfl call78 (impl_PredsOf_ok _ d.c v1p (hm.now h1p) h_) ?_)))))))))))))))))
  rintro aA ac ae w ⟨_, rfl, hB⟩
  replace hm := hm.give hB; clear hB
  obtain ⟨aG, aE, rfl, af⟩ := ro_slice (hm.ow_rep 0 rfl)
  refine gY (yV st_57 rfl) (gM rfl (gE (gBk (gNg (fun aH aI a w => ∃ (aF : Value), St 34 [(1, (nV h_)), (2, (pV aB)), (5, (pV aC)), (6, (pV aD)), (18, (.slice aG aA.length aE)), (19, (nV ((aA.length : Int)))), (20, (nV aH))] w0 (hp w0) [blk aB [(pV bp0)] 129, blk aC [aF] 110, owm aF aI, blk aD [(.func (.func 218) #[] #[(pV aC), (pV aB), (pV aD)])] 199, ow [(.slice aG aA.length aE)] aA] a w) (fun a hf => ⟨aR, hf.sb rfl, hm.pk [4, 2, 3, 1, 0] rfl rfl⟩) ?_ ?_))))
  ·
   repeat clear hm
   rintro _ _ aH aI a w ⟨aF, hf, hm⟩ ag ah ai _
   refine gv hf (gS (gR (gB rfl (gE (gS (go _ 21 rfl (decide_eq_true (by omega)) (gct rfl (gSk (gS (gJg (fun aL a w => ∃ (aJ : Value), St 34 [(1, (nV h_)), (2, (pV aB)), (5, (pV aC)), (6, (pV aD)), (18, (.slice aG aA.length aE)), (19, (nV ((aA.length : Int)))), (20, (nV aH))] w0 (hp w0) [blk aB [(pV bp0)] 129, blk aC [aJ] 110, owm aJ aL, blk aD [(.func (.func 218) #[] #[(pV aC), (pV aB), (pV aD)])] 199, ow [(.slice aG aA.length aE)] aA] a w) (fun aL => ?_) ?_))))))))))
   ·
    refine gBk (gS (gR (gg fun aM aS aN => ?_)))
    obtain ⟨aO, aP, aj, he⟩ := idx_form (hm.ow_rep 4 rfl) aN
    obtain ⟨rfl, _, rfl⟩ := sl3 he
    refine gI st_57 aS (idx_lt aN) rfl (gY (yl isAgg3 ((flat_cells (cs := [(nV aM)]) (hm.ow_rep 4 rfl) aN rfl).cell (j := 0) rfl) rfl) (gA rfl (gE (gS (gR (gL hm 0 isAgg129 rfl (gM rfl (gM rfl (gC hm rfl call157 (pimpl_doms__dominates_ok _ d bp0 v1p (hm.now h1p) v2p (hm.now h2p) v3p (hm.now h3p) (hm.lez _ _ ((Heap.le_refl _) _ _ hbbp0)) h_ aM) fun ak am w hm => gE (gJg (fun aQ a w => ∃ (aK : Value), St 34 [(1, (nV h_)), (2, (pV aB)), (5, (pV aC)), (6, (pV aD)), (18, (sV aO aP aA.length aE)), (19, (nV ((aA.length : Int)))), (20, (nV aH))] w0 (hp w0) [blk aB [(pV bp0)] 129, blk aC [aK] 110, owm aK aQ, blk aD [(.func (.func 218) #[] #[(pV aC), (pV aB), (pV aD)])] 199, ow [(sV aO aP aA.length aE)] aA] a w) (fun aQ => ?_) ?_))))))))))
    ·
     refine gs 27 rfl (fun aT => ?_) fun aT => ?_
     ·
      refine gct rfl (gR (gL hm 3 isAgg199 rfl (gM rfl ?_)))
      obtain ⟨aV, hle, hm1, hsub, aW⟩ := hm.take2 (L1 := [blk aC [aF] 110, owm aF aI]) (L2 := [blk aB [(pV bp0)] 129, blk aD [(.func (.func 218) #[] #[(pV aC), (pV aB), (pV aD)])] 199, ow [(sV aO aP aA.length aE)] aA]) [1, 2] [0, 3, 4] (by decide) rfl rfl
      refine gb fun an aX => gf rfl (fun a hf => e_callv hf rfl rfl rfl ⟨218, [(pV aC), (pV aB), (pV aD)], rfl, call218, pimpl_doms__body_1_ok _ aV aM aI aC aF d aB bp0 v1p (GT.mono hle h1p) v2p (GT.mono hle h2p) v3p (GT.mono hle h3p) (hle _ _ ((Heap.le_refl _) _ _ hbbp0)) (fz_blk (hsub 0 _ rfl)) aD (fz_blk (hsub 1 _ rfl)) hm1  _ aX⟩) ?_
      rintro ao w ⟨aY, rfl, hB⟩
      replace hm := aW _ _ hB; clear hB
      exact gE (gZ fun a hf => ⟨aY, hf.sb rfl, hm.pk [2, 0, 1, 3, 4] rfl rfl⟩)
     exact gcf rfl (gSk (gZ fun a hf => ⟨aF, hf.sb rfl, hm.pk [0, 1, 2, 3, 4] rfl rfl⟩))
    repeat clear hm
    rintro aQ a w ⟨aK, hf, hm⟩
    exact gv hf (gZ fun a hf => ⟨aK, hf.sb rfl, hm.pk [0, 1, 2, 3, 4] rfl rfl⟩)
   repeat clear hm
   rintro aL a w ⟨aJ, hf, hm⟩
   exact gv hf (gR (gP (by omega) (by omega) rfl (gM rfl (gE (gZe fun a hf => ⟨aJ, hf.sb rfl, hm.pk [0, 1, 2, 3, 4] rfl rfl⟩)))))
  repeat clear hm
  rintro ap aZ a w ⟨aa, hf, hm⟩ aq ar
  refine gv hf (gS (gR (gB rfl (gE (gS (go _ 21 rfl (decide_eq_false (by omega)) (gcf rfl (gXt (gHh (gS (gR (gL hm 1 isAgg110 rfl (gCg rfl call90 (impl_sortedKeys_bool_ok _ aZ aa (hm.owm_rep 2 rfl)) ?_)))))))))))))
  rintro au aw ab w ⟨_, rfl, hB⟩
  replace hm := hm.give hB; clear hB
  exact gA rfl (gE (gRt (gr1 results162 rfl ⟨ab, rfl, hm.pk [0] rfl rfl⟩)))
theorem pimpl_doms__idom_1_ok (w0 : World) (a_ : Int) (c0_ : Int) (bpc0 : Nat) (hbbpc0 : (hp w0) bpc0 = some (.cells ([(nV c0_)] : List Value).toArray 3 (0, 0))) (c1_ : doms) (bpc1 : Nat) (bpd1 : Nat) (v1p : Value) (h1p : GT.rep (hp w0) [v1p] c1_.c.blocks) (v2p : Value) (h2p : GT.rep (hp w0) [v2p] c1_.over) (v3p : Value) (h3p : GT.rep (hp w0) [v3p] c1_.in_) (hbbpd1 : (hp w0) bpd1 = some (.cells ([(nV c1_.c.params), (nV c1_.c.regs), v1p, v2p, v3p] : List Value).toArray 166 (0, 0))) (hbbpc1 : (hp w0) bpc1 = some (.cells ([(pV bpd1)] : List Value).toArray 129 (0, 0))) :
    ConM Tryz.prog 244 [(nV a_), (pV bpc0), (pV bpc1)] w0 (pimpl_doms__idom_1 a_ c0_ c1_) fun r v w' => v = (.bool (r)) ∧ Below w0.heap.size w0 w' := by
  unfold pimpl_doms__idom_1
  refine gcon func244 rfl fun r => ?_
  have hm := Mem.start w0
  refine gS (gR (gA rfl (gE (gS (gJ hm (fun aB => [(4, (.bool (aB)))]) (fun aB => []) (fun aB => ?_) ?_)))))
  ·
   refine gW (.p 0 (.e 1 (.p 2 (.p 3 (.p 8 (.q 4 (.p 5 (.p 6 (.q 7 (.p 9 (.q 10 (.e 11 (.p 12 (.e 13 (.p 14 (.p 15 .fin)) .nil)) .nil)))))))))) .nil)) [11] [0, 2, 3, 5, 6, 8, 9, 12, 14, 15] hm [] [] rfl mxo (by kernel_rfl) (fun _ _ _ h => h.2) fun w hm hS => tP rfl (fun w => yM rfl) (tO (tY rfl (yl isAgg3 (hm.hz_cell hbbpc0 rfl) rfl) (tAn rfl (tP rfl (fun w => yB rfl) (tP rfl (fun w => yM rfl) (gsd 8 rfl (fun aG => ?_) fun aG => ?_))))))
   ·
    refine tP rfl (fun w => yM rfl) (tQ rfl hS (fun w hm => yl isAgg129 (hm.hz_cell hbbpc1 rfl) rfl) (tP rfl (fun w => yG rfl (y_nilptr rfl rfl)) (tP rfl (fun w => yF fo_166_1 rfl) (tQ rfl hS (fun w hm => yl isAgg99 (hm.hz_cell hbbpd1 rfl) rfl) (gg fun aH aI aC => ?_)))))
    obtain ⟨aJ, aK, aO, he⟩ := idx_form' h2p aC
    subst he
    obtain ⟨_, _, aD, aL⟩ := ro_get' h2p aC
    have aA := aL
    obtain ⟨aF, rfl, -⟩ := id aA
    replace aA : GT.rep (hp w0) [aF] aH := aA
    replace aD : CellsAt (hp w0) aJ (aK + (a_).toNat * 1) [aF] := aD
    refine tP rfl (fun w => yI st_99 aI (idx_lt aC) rfl) (tQ rfl hS (fun w hm => yl isAgg98 ((aD.mono hm.lez).cell (j := 0) rfl) rfl) (tO (tY rfl (yl isAgg3 (hm.hz_cell hbbpc0 rfl) rfl) (tAs hS (gg fun aM aN aE => ?_)))))
    obtain ⟨aP, aQ, aR, he⟩ := idx_form aA aE
    subst he
    exact tP rfl (fun w => yI st_98 aN (idx_lt aE) rfl) (tO (tY rfl (yl isAgg4 ((flat_cells (cs := [(.bool (aM))]) (hm.now aA) aE rfl).cell (j := 0) rfl) rfl) (tAn rfl (tP rfl (fun w => yKt rfl) (tP rfl (fun w => yA rfl) (tE (gz hm [] rfl)))))))
   exact tPo rfl rfl (tQo rfl hS rfl (tPo rfl rfl (tPo rfl rfl (tQo rfl hS rfl (tPo rfl rfl (tQo rfl hS rfl (tO (tEo rfl rfl (tAs hS (tPo rfl rfl (tO (tEo rfl rfl (tAn rfl (tP rfl (fun w => yKf rfl) (tP rfl (fun w => yA rfl) (tE (gz hm [] rfl)))))))))))))))))
  repeat clear hm
  intro aB w hm
  exact gRt (gr1 results244 rfl ⟨rfl, hm.below⟩)
theorem pimpl_doms__nearest_ok (w0 : World) (d : doms) (bp0 : Nat) (v1p : Value) (h1p : GT.rep (hp w0) [v1p] d.c.blocks) (v2p : Value) (h2p : GT.rep (hp w0) [v2p] d.over) (v3p : Value) (h3p : GT.rep (hp w0) [v3p] d.in_) (hbbp0 : (hp w0) bp0 = some (.cells ([(nV d.c.params), (nV d.c.regs), v1p, v2p, v3p] : List Value).toArray 166 (0, 0))) (holds : Int → Option Bool) (fv1 : Value) (hfn1 : ∀ (w : World) (y0 : Int) (r : Bool), Below w0.heap.size w0 w → holds y0 = some r → FnOk Tryz.prog fv1 [(nV y0)] w (fun v w' => v = (.bool (r)) ∧ Below w.heap.size w w')) :
    ConM Tryz.prog 243 [(pV bp0), fv1] w0 (pimpl_doms__nearest d holds) fun r v w' => v = (nV r) ∧ Below w0.heap.size w0 w' := by
  unfold pimpl_doms__nearest
  refine gcon func243 rfl fun r => ?_
  have hm := Mem.start w0
  refine gS (gR (gA rfl (gE (gS (gR (gA rfl (gE (gS (gS (gR (gM rfl (gY (yG rfl (y_nilptr rfl rfl)) (gF fo_166_1 rfl (gY (yl isAgg99 (hm.hz_cell hbbp0 rfl) rfl) ?_))))))))))))))
  obtain ⟨aa, ab, rfl, ac⟩ := ro_slice h2p
  refine gY (yV st_99 rfl) (gM rfl (gE (gBk (gNf hm (fun aA aB => [(0, (pV bp0)), (1, fv1), (5, (nV aB)), (11, (nV ((d.over.length : Int)))), (12, (nV aA))]) (fun aA aB => []) [] rfl ?_ ?_))))
  ·
   repeat clear hm
   intro _ _ aA aB w hm ae af ag _
   refine gS (gR (gB rfl (gE (gS (go _ 13 rfl (decide_eq_true (by omega)) (gct rfl (gSk (gS (gJ hm (fun aD => [(0, (pV bp0)), (1, fv1), (5, (nV aD)), (11, (nV ((d.over.length : Int)))), (12, (nV aA))]) (fun aD => []) (fun aD => ?_) ?_)))))))))
   ·
    refine gBk (gS (gR (gM rfl (gA rfl (gE (gS (gJ hm (fun aE => [(0, (pV bp0)), (1, fv1), (5, (nV aB)), (6, (nV aA)), (11, (nV ((d.over.length : Int)))), (12, (nV aA)), (42, (.bool (aE)))]) (fun aE => []) (fun aE => ?_) ?_)))))))
    ·
     refine gR (gM rfl (gY (yG rfl (y_nilptr rfl rfl)) (gF fo_166_2 rfl (gY (yl isAgg98 (hm.hz_cell hbbp0 rfl) rfl) (gM rfl (gg fun aL aM aG => ?_))))))
     obtain ⟨ah, ai, aj, he⟩ := idx_form h3p aG
     subst he
     refine gI st_98 aM (idx_lt aG) rfl (gY (yl isAgg4 ((flat_cells (cs := [(.bool (aL))]) (hm.now h3p) aG rfl).cell (j := 0) rfl) rfl) (gM rfl (gs 22 rfl (fun aN => ?_) fun aN => ?_)))
     ·
      refine gM rfl (gM rfl (gb fun ak aO => gf rfl (fun a hf => e_callv hf rfl rfl rfl (hfn1 _ aA _ hm.below aO)) ?_))
      rintro am w ⟨rfl, hB⟩
      replace hm := hm.below' hB; clear hB
      refine gKt rfl (gM rfl (gs 27 rfl (fun aP => ?_) fun aP => ?_))
      ·
       refine gM rfl (gB rfl (gM rfl (gsd 30 rfl (fun aQ => ?_) fun aQ => ?_)))
       ·
        exact gO rfl (gO rfl (gO rfl (gO rfl (gO rfl (gO rfl (gO rfl (gO rfl (gO rfl (gO rfl (gKt rfl (gKt rfl (gE (gz hm [] rfl)))))))))))))
       refine gM rfl (gY (yG rfl (y_nilptr rfl rfl)) (gF fo_166_1 rfl (gY (yl isAgg99 (hm.hz_cell hbbp0 rfl) rfl) (gM rfl (gg fun aR aS aH => ?_)))))
       obtain ⟨aT, aV, an, he⟩ := idx_form' h2p aH
       obtain ⟨rfl, _, rfl⟩ := sl3 he
       obtain ⟨_, _, aI, aW⟩ := ro_get' h2p aH
       have aC := aW
       obtain ⟨aK, rfl, -⟩ := id aC
       replace aC : GT.rep (hp w0) [aK] aR := aC
       replace aI : CellsAt (hp w0) aT (aV + (aB).toNat * 1) [aK] := aI
       refine gI st_99 aS (idx_lt aH) rfl (gY (yl isAgg98 ((aI.mono hm.lez).cell (j := 0) rfl) rfl) (gM rfl (gg fun aX aY aJ => ?_)))
       obtain ⟨ao, ap, aq, he⟩ := idx_form aC aJ
       subst he
       exact gI st_98 aY (idx_lt aJ) rfl (gY (yl isAgg4 ((flat_cells (cs := [(.bool (aX))]) (hm.now aC) aJ rfl).cell (j := 0) rfl) rfl) (gKf rfl (gKt rfl (gE (gz hm [] rfl)))))
      exact gO rfl (gO rfl (gO rfl (gO rfl (gO rfl (gO rfl (gO rfl (gO rfl (gO rfl (gO rfl (gO rfl (gO rfl (gO rfl (gO rfl (gKf rfl (gE (gz hm [] rfl))))))))))))))))
     exact gO rfl (gO rfl (gO rfl (gKf rfl (gM rfl (gO rfl (gO rfl (gO rfl (gO rfl (gO rfl (gO rfl (gO rfl (gO rfl (gO rfl (gO rfl (gO rfl (gO rfl (gO rfl (gO rfl (gKf rfl (gE (gz hm [] rfl)))))))))))))))))))))
    repeat clear hm
    intro aE w hm
    refine gJ hm (fun aF => [(0, (pV bp0)), (1, fv1), (5, (nV aF)), (11, (nV ((d.over.length : Int)))), (12, (nV aA))]) (fun aF => []) (fun aF => ?_) ?_
    ·
     refine gs 42 rfl (fun aZ => ?_) fun aZ => ?_
     ·
      exact gct rfl (gR (gM rfl (gA rfl (gE (gz hm [] rfl)))))
     exact gcf rfl (gSk (gz hm [] rfl))
    repeat clear hm
    intro aF w hm
    exact gz hm [] rfl
   repeat clear hm
   intro aD w hm
   exact gR (gP (by omega) (by omega) rfl (gM rfl (gE (gze hm [] rfl))))
  repeat clear hm
  intro ar au w hm aw ax
  exact gS (gR (gB rfl (gE (gS (go _ 13 rfl (decide_eq_false (by omega)) (gcf rfl (gXt (gHh (gS (gR (gM rfl (gA rfl (gE (gRt (gr1 results243 rfl ⟨rfl, hm.below⟩)))))))))))))))
end Go.Proofs.YtcfdnpmajkhokaaGreat
