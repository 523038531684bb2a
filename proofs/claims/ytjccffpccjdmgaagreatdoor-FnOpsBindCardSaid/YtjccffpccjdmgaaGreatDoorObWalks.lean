/- A part of the proof of FnOpsBindCardSaid. -/
import Derived.Test.YtjccffpccjdmgaaGreatDoorObWalksA
namespace Go.Proofs.YtjccffpccjdmgaaGreatDoor
open Go Go.Wk Go.RowKit
set_option maxRecDepth 4000
set_option maxHeartbeats 4000000
open Tryz
theorem pimpl_wordReader__expr_all  : (∀ (r_ : wordReader) (level : Int) (r : Expr_ × wordReader), pimpl_wordReader__expr r_ level = some r → ∀ (w0 : World) (hz : Heap) (bp0 : Nat) (v1p : Value) (hm0 : Mem w0 hz w0 [blk bp0 [v1p, (.bool (r_.bad))] 63, ow [v1p] r_.list]) (hG0 : GT.rep hz [.slice (some ⟨0, 0, none⟩) 1 1] [glob_impl_opSign]), Con Tryz.prog 46 [(pV bp0), (nV level)] w0 (fun v w' => ∃ (x1 : Value) (x2 : Value), v = (.agg #[(nV r.1.op), (nV r.1.n_), (.string ⟨(r.1.name).b.toArray⟩), x1]) ∧ Mem w0 hz w' [blk bp0 [x2, (.bool (r.2.bad))] 63, ow [x1] r.1.kids, ow [x2] r.2.list])) ∧
    (∀ (r_ : wordReader) (r : Expr_ × wordReader), pimpl_wordReader__single r_ = some r → ∀ (w0 : World) (hz : Heap) (bp0 : Nat) (v1p : Value) (hm0 : Mem w0 hz w0 [blk bp0 [v1p, (.bool (r_.bad))] 63, ow [v1p] r_.list]) (hG0 : GT.rep hz [.slice (some ⟨0, 0, none⟩) 1 1] [glob_impl_opSign]), Con Tryz.prog 104 [(pV bp0)] w0 (fun v w' => ∃ (x1 : Value) (x2 : Value), v = (.agg #[(nV r.1.op), (nV r.1.n_), (.string ⟨(r.1.name).b.toArray⟩), x1]) ∧ Mem w0 hz w' [blk bp0 [x2, (.bool (r.2.bad))] 63, ow [x1] r.1.kids, ow [x2] r.2.list])) := by
  refine pimpl_wordReader__expr.mutual_partial_correctness  (motive_1 := fun r_ level r => ∀ (w0 : World) (hz : Heap) (bp0 : Nat) (v1p : Value) (hm0 : Mem w0 hz w0 [blk bp0 [v1p, (.bool (r_.bad))] 63, ow [v1p] r_.list]) (hG0 : GT.rep hz [.slice (some ⟨0, 0, none⟩) 1 1] [glob_impl_opSign]), Con Tryz.prog 46 [(pV bp0), (nV level)] w0 (fun v w' => ∃ (x1 : Value) (x2 : Value), v = (.agg #[(nV r.1.op), (nV r.1.n_), (.string ⟨(r.1.name).b.toArray⟩), x1]) ∧ Mem w0 hz w' [blk bp0 [x2, (.bool (r.2.bad))] 63, ow [x1] r.1.kids, ow [x2] r.2.list])) (motive_2 := fun r_ r => ∀ (w0 : World) (hz : Heap) (bp0 : Nat) (v1p : Value) (hm0 : Mem w0 hz w0 [blk bp0 [v1p, (.bool (r_.bad))] 63, ow [v1p] r_.list]) (hG0 : GT.rep hz [.slice (some ⟨0, 0, none⟩) 1 1] [glob_impl_opSign]), Con Tryz.prog 104 [(pV bp0)] w0 (fun v w' => ∃ (x1 : Value) (x2 : Value), v = (.agg #[(nV r.1.op), (nV r.1.n_), (.string ⟨(r.1.name).b.toArray⟩), x1]) ∧ Mem w0 hz w' [blk bp0 [x2, (.bool (r.2.bad))] 63, ow [x1] r.1.kids, ow [x2] r.2.list])) ?_ ?_
  · intro rec_1 rec_2 ih_1 ih_2 r_ level r hq w0 hz bp0 v1p hm0 hG0
    have pimpl_wordReader__expr_rec : ∀ (w0 : World) (hz : Heap) (r_ : wordReader) (bp0 : Nat) (v1p : Value) (level : Int) (hm0 : Mem w0 hz w0 [blk bp0 [v1p, (.bool (r_.bad))] 63, ow [v1p] r_.list]) (hG0 : GT.rep hz [.slice (some ⟨0, 0, none⟩) 1 1] [glob_impl_opSign]) (r : Expr_ × wordReader) (hq : rec_1 r_ level = some r), Con Tryz.prog 46 [(pV bp0), (nV level)] w0 (fun v w' => ∃ (x1 : Value) (x2 : Value), v = (.agg #[(nV r.1.op), (nV r.1.n_), (.string ⟨(r.1.name).b.toArray⟩), x1]) ∧ Mem w0 hz w' [blk bp0 [x2, (.bool (r.2.bad))] 63, ow [x1] r.1.kids, ow [x2] r.2.list]) := fun w0 hz r_ bp0 v1p level hm0 hG0 r hq => ih_1 r_ level r hq w0 hz bp0 v1p hm0 hG0
    have pimpl_wordReader__single_rec : ∀ (w0 : World) (hz : Heap) (r_ : wordReader) (bp0 : Nat) (v1p : Value) (hm0 : Mem w0 hz w0 [blk bp0 [v1p, (.bool (r_.bad))] 63, ow [v1p] r_.list]) (hG0 : GT.rep hz [.slice (some ⟨0, 0, none⟩) 1 1] [glob_impl_opSign]) (r : Expr_ × wordReader) (hq : rec_2 r_ = some r), Con Tryz.prog 104 [(pV bp0)] w0 (fun v w' => ∃ (x1 : Value) (x2 : Value), v = (.agg #[(nV r.1.op), (nV r.1.n_), (.string ⟨(r.1.name).b.toArray⟩), x1]) ∧ Mem w0 hz w' [blk bp0 [x2, (.bool (r.2.bad))] 63, ow [x1] r.1.kids, ow [x2] r.2.list]) := fun w0 hz r_ bp0 v1p hm0 hG0 r hq => ih_2 r_ r hq w0 hz bp0 v1p hm0 hG0
    refine gconr (ρ := Expr_ × wordReader) (R := fun r v w' => ∃ (x1 : Value) (x2 : Value), v = (.agg #[(nV r.1.op), (nV r.1.n_), (.string ⟨(r.1.name).b.toArray⟩), x1]) ∧ Mem w0 hz w' [blk bp0 [x2, (.bool (r.2.bad))] 63, ow [x1] r.1.kids, ow [x2] r.2.list]) func46 rfl hq ?_
    have hm := hm0
    refine gS (gR (gAl hm zeroValue24 rfl fun aC w hm => gE (gS (gS (gR (gM rfl (gB rfl (gE (gsd 10 rfl (fun bC => ?_) fun bC => ?_)))))))))
    ·
     refine gct rfl (gS (gR (gM rfl ?_)))
     obtain ⟨bD, hle, hm1, hsub, bE⟩ := hm.take2 (L1 := [blk bp0 [v1p, (.bool (r_.bad))] 63, ow [v1p] r_.list]) (L2 := [blk aC [(nV 0), (nV 0), (.string ⟨((mkS [])).b.toArray⟩), (.slice none 0 0)] 24]) [1, 2] [0] (by decide) rfl rfl
     refine gCg rfl call104 (pimpl_wordReader__single_rec _ bD r_ bp0 v1p hm1 (GT.mono hle hG0)) ?_
     rintro aD bf bg w ⟨aM, bW, rfl, hB⟩
     replace hm := bE _ _ hB; clear hB
     exact gSN hm 3 sizeOf24 (one_cons rfl (one_cons rfl (one_cons rfl (one_cons (rep_one (hm.ow_rep 1 rfl)) one_nil)))) rfl fun w hm => gE (gRt (grc 3 results46 hm rfl isAgg24 sizeOf24 ⟨aM, bW, rfl, hm.pk [0, 1, 2] rfl rfl⟩))
    refine gcf rfl (gSk (gS (gR (gM rfl (gM rfl (gB rfl ?_))))))
    obtain ⟨bF, hle, hm1, hsub, bG⟩ := hm.take2 (L1 := [blk bp0 [v1p, (.bool (r_.bad))] 63, ow [v1p] r_.list]) (L2 := [blk aC [(nV 0), (nV 0), (.string ⟨((mkS [])).b.toArray⟩), (.slice none 0 0)] 24]) [1, 2] [0] (by decide) rfl rfl
    refine gCg rfl call46 (pimpl_wordReader__expr_rec _ bF r_ bp0 v1p (w64 (level + 1)) hm1 (GT.mono hle hG0)) ?_
    rintro bH bX bh w ⟨ag, ac, rfl, hB⟩
    replace hm := bG _ _ hB; clear hB
    refine gAl hm zeroValue24 rfl fun aG w hm => gSN hm 0 sizeOf24 (one_cons rfl (one_cons rfl (one_cons rfl (one_cons (rep_one (hm.ow_rep 2 rfl)) one_nil)))) rfl fun w hm => gE (gS ?_)
    obtain ⟨bJ, bK, rfl, bi⟩ := ro_slice (hm.ow_rep 3 rfl)
    obtain ⟨bj, bk, rfl, cZ⟩ := ro_slice (hm.ow_rep 2 rfl)
    refine gJge (fun aT a w => ∃ (ao aq : Value), St 56 [(4, (pV aC)), (5, (pV aG))] w0 hz [blk aC [(nV 0), (nV 0), (.string ⟨((mkS [])).b.toArray⟩), (.slice none 0 0)] 24, blk aG [(nV aT.1), (nV aT.2.1), (.string ⟨(aT.2.2.1).b.toArray⟩), ao] 24, ow [ao] aT.2.2.2.1, blk bp0 [aq, (.bool (aT.2.2.2.2.2))] 63, ow [aq] aT.2.2.2.2.1] a w) (fun c8 bl => ?_) ?_
    ·
     refine gBk (gMg (fun aA a w => ∃ (aV aU : Value), St 56 [(0, (pV bp0)), (1, (nV level)), (4, (pV aC)), (5, (pV aG))] w0 hz [blk bp0 [aV, (.bool (aA.2.1))] 63, ow [aV] aA.1, blk aC [(nV 0), (nV 0), (.string ⟨((mkS [])).b.toArray⟩), (.slice none 0 0)] 24, blk aG [(nV aA.2.2.1), (nV aA.2.2.2.1), (.string ⟨(aA.2.2.2.2.1).b.toArray⟩), aU] 24, ow [aU] aA.2.2.2.2.2] a w) (fun a hf => ⟨(.slice bJ bH.2.list.length bK), (.slice bj bH.1.kids.length bk), hf.sb rfl, hm.pk [1, 3, 4, 0, 2] rfl rfl⟩) ?_)
     repeat clear hm
     rintro bm ar aA a w ⟨aV, aU, hf, hm⟩ bo au
     refine gv hf (gS (gS (gR (gM rfl (gY (yG rfl (y_nilptr rfl rfl)) (gF fo_63_1 rfl (gL hm 0 isAgg4 rfl (gN rfl (gE (gsn 21 rfl (fun bL => ?_) fun bL => ?_))))))))))
     ·
      refine gct rfl (gSk (gBk (gS (gR (gA rfl (gE (gS (gS (gR ?_)))))))))
      obtain ⟨aP, bp, bY⟩ := glob_map hG0 rfl
      refine gY (yl isAgg119 ((CellsAt.mono hm.lez (bp)).cell (j := 0) rfl) rfl) (gf rfl (fun a hf => e_rangeS (m := (glob_impl_opSign : MapS St_sign_level)) hf hm underlying119 bY rfl rfl) ?_)
      rintro _ w ⟨aQ, rfl, hm⟩
      refine gE ?_
      obtain ⟨aI, aJ, rfl, bq⟩ := ro_slice (hm.ow_rep 2 rfl)
      obtain ⟨aE, aF, rfl, c9⟩ := ro_slice (hm.ow_rep 5 rfl)
      refine gJ hm (fun aN => [(0, (pV bp0)), (1, (nV level)), (4, (pV aC)), (5, (pV aG)), (6, (nV aN))]) (fun aN => [blk bp0 [(.slice aI aA.1.length aJ), (.bool (aA.2.1))] 63, ow [(.slice aI aA.1.length aJ)] aA.1, blk aC [(nV 0), (nV 0), (.string ⟨((mkS [])).b.toArray⟩), (.slice none 0 0)] 24, blk aG [(nV aA.2.2.1), (nV aA.2.2.2.1), (.string ⟨(aA.2.2.2.2.1).b.toArray⟩), (.slice aE aA.2.2.2.2.2.length aF)] 24, ow [(.slice aE aA.2.2.2.2.2.length aF)] aA.2.2.2.2.2]) (fun aN => ?_) ?_
      ·
       refine gBk (gRngP (m := (glob_impl_opSign : MapS St_sign_level)) bY (fun ak bM a w => St 56 [(0, (pV bp0)), (1, (nV level)), (4, (pV aC)), (5, (pV aG)), (6, (nV bM)), (23, (pV aQ))] w0 hz [blk bp0 [(.slice aI aA.1.length aJ), (.bool (aA.2.1))] 63, ow [(.slice aI aA.1.length aJ)] aA.1, blk aC [(nV 0), (nV 0), (.string ⟨((mkS [])).b.toArray⟩), (.slice none 0 0)] 24, blk aG [(nV aA.2.2.1), (nV aA.2.2.2.1), (.string ⟨(aA.2.2.2.2.1).b.toArray⟩), (.slice aE aA.2.2.2.2.2.length aF)] 24, ow [(.slice aE aA.2.2.2.2.2.length aF)] aA.2.2.2.2.2, itc hz aP aQ ak] a w) (fun a hf => ⟨hf.sb rfl, hm.pk [1, 2, 3, 4, 5, 0] rfl rfl⟩) ?_ ?_)
       ·
        repeat clear hm
        rintro ak bM a w ⟨hf, hm⟩ hmo
        refine gv (m := some ()) (r := ()) hf ?_ rfl
        refine gS (gR (gf rfl (fun a hf => e_nextS 5 hf hm rfl hmo rfl rfl) ?_))
        rintro _ w ⟨av, aw, ca, rfl, bZ, b8, hm⟩
        refine gSw bZ (gX rfl (gE (gS (gct rfl (gSk (gJ hm (fun ax => [(0, (pV bp0)), (1, (nV level)), (4, (pV aC)), (5, (pV aG)), (6, (nV ax)), (23, (pV aQ))]) (fun ax => [blk bp0 [(.slice aI aA.1.length aJ), (.bool (aA.2.1))] 63, ow [(.slice aI aA.1.length aJ)] aA.1, blk aC [(nV 0), (nV 0), (.string ⟨((mkS [])).b.toArray⟩), (.slice none 0 0)] 24, blk aG [(nV aA.2.2.1), (nV aA.2.2.2.1), (.string ⟨(aA.2.2.2.2.1).b.toArray⟩), (.slice aE aA.2.2.2.2.2.length aF)] 24, ow [(.slice aE aA.2.2.2.2.2.length aF)] aA.2.2.2.2.2, itc hz aP aQ (Array.push ak av)]) (fun ax => ?_) ?_))))))
        ·
         refine gBk (gS (gR (gY (yG rfl (y_entryS 5 hm rfl b8 rfl rfl)) (gX rfl (gX rfl (gAl hm zeroValue120 rfl fun br w hm => gA rfl (gSN hm 0 sizeOf120 (one_cons rfl (one_cons rfl one_nil)) rfl fun w hm => gE (gS (gJ hm (fun ay => [(0, (pV bp0)), (1, (nV level)), (4, (pV aC)), (5, (pV aG)), (6, (nV bM)), (7, (nV aw.1)), (23, (pV aQ)), (40, (.bool (ay)))]) (fun ay => [blk bp0 [(.slice aI aA.1.length aJ), (.bool (aA.2.1))] 63, ow [(.slice aI aA.1.length aJ)] aA.1, blk aC [(nV 0), (nV 0), (.string ⟨((mkS [])).b.toArray⟩), (.slice none 0 0)] 24, blk aG [(nV aA.2.2.1), (nV aA.2.2.2.1), (.string ⟨(aA.2.2.2.2.1).b.toArray⟩), (.slice aE aA.2.2.2.2.2.length aF)] 24, ow [(.slice aE aA.2.2.2.2.2.length aF)] aA.2.2.2.2.2, itc hz aP aQ (Array.push ak av)]) (fun ay => ?_) ?_)))))))))
         ·
          refine gW (.p 0 (.p 2 (.e 1 (.p 3 (.p 4 (.p 5 (.p 7 (.q 8 (.e 6 (.e 9 (.p 10 (.p 11 .fin)) .nil) .nil)))))) .nil))) [6] [0, 2, 3, 4, 5, 7, 10, 11] hm [0, 1, 2, 3, 4, 5, 6] [blk br [(.string ⟨(aw.2.sign).b.toArray⟩), (nV aw.2.level)] 120, blk bp0 [(.slice aI aA.1.length aJ), (.bool (aA.2.1))] 63, ow [(.slice aI aA.1.length aJ)] aA.1, blk aC [(nV 0), (nV 0), (.string ⟨((mkS [])).b.toArray⟩), (.slice none 0 0)] 24, blk aG [(nV aA.2.2.1), (nV aA.2.2.2.1), (.string ⟨(aA.2.2.2.2.1).b.toArray⟩), (.slice aE aA.2.2.2.2.2.length aF)] 24, ow [(.slice aE aA.2.2.2.2.2.length aF)] aA.2.2.2.2.2, itc hz aP aQ (Array.push ak av)] rfl mxo (by kernel_rfl) (fun _ _ _ h => h.2) fun w hm hS => tP rfl (fun w => yF fo_120_1 rfl) (tP rfl (fun w => yM rfl) (tO (tY rfl (yL hm 0 isAgg3 rfl) (tAn rfl (tP rfl (fun w => yB rfl) (tP rfl (fun w => yM rfl) (gsd 33 rfl (fun bs => ?_) fun bs => ?_)))))))
          ·
           refine tP rfl (fun w => yM rfl) (tP rfl (fun w => yF fo_120_0 rfl) (tQ rfl hS (fun w hm => yL hm 0 isAgg9 rfl) (tO (gb fun cb bt => tf rfl rfl (fun a hf => e_call hf rfl call105 rfl (pimpl_wordReader__peek_ok _ (⟨aA.1, aA.2.1⟩ : wordReader) bp0 (.slice aI aA.1.length aJ) (hm.ow_rep 2 rfl) (hm.blk_cells 1 rfl).1 _ bt)) ?_))))
           rintro cc w ⟨rfl, hB⟩
           replace hm := hm.below' hB; clear hB
           refine tAk hm [0, 1, 2, 3, 4, 5, 6] rfl fun hS => tO (gb fun cd bu => tf rfl rfl (fun a hf => e_call hf rfl call80 rfl (impl_signWord_ok _ aw.2.sign _ bu)) ?_)
           rintro ce w ⟨rfl, hB⟩
           replace hm := hm.below' hB; clear hB
           exact tAn rfl (tP rfl (fun w => yG rfl (y_eqIS underlying56 (by kernel_rfl) (by kernel_rfl) (by decide) rfl rfl isAgg3 isAgg9 underlying3 underlying9 rfl rfl rfl)) (tP rfl (fun w => yKt rfl) (tE (gz hm [1, 2, 3, 4, 5, 6] rfl))))
          exact tPo rfl rfl (tPo rfl rfl (tQo rfl hS rfl (tO (tEo rfl rfl (tAs hS (tO (tEo rfl rfl (tAn rfl (tPo rfl rfl (tP rfl (fun w => yKf rfl) (tE (gz hm [1, 2, 3, 4, 5, 6] rfl))))))))))))
         repeat clear hm
         intro ay w hm
         refine gJ hm (fun az => [(0, (pV bp0)), (1, (nV level)), (4, (pV aC)), (5, (pV aG)), (6, (nV az)), (23, (pV aQ))]) (fun az => [blk bp0 [(.slice aI aA.1.length aJ), (.bool (aA.2.1))] 63, ow [(.slice aI aA.1.length aJ)] aA.1, blk aC [(nV 0), (nV 0), (.string ⟨((mkS [])).b.toArray⟩), (.slice none 0 0)] 24, blk aG [(nV aA.2.2.1), (nV aA.2.2.2.1), (.string ⟨(aA.2.2.2.2.1).b.toArray⟩), (.slice aE aA.2.2.2.2.2.length aF)] 24, ow [(.slice aE aA.2.2.2.2.2.length aF)] aA.2.2.2.2.2, itc hz aP aQ (Array.push ak av)]) (fun az => ?_) ?_
         ·
          refine gs 40 rfl (fun bv => ?_) fun bv => ?_
          ·
           exact gct rfl (gR (gM rfl (gA rfl (gE (gz hm [0, 1, 2, 3, 4, 5] rfl)))))
          exact gcf rfl (gSk (gz hm [0, 1, 2, 3, 4, 5] rfl))
         repeat clear hm
         intro az w hm
         exact gz hm [0, 1, 2, 3, 4, 5] rfl
        repeat clear hm
        intro ax w hm
        exact gZr b8 bZ fun a hf => ⟨hf.sb rfl, hm.pk [0, 1, 2, 3, 4, 5] rfl rfl⟩
       repeat clear hm
       rintro cf ci a w ⟨hf, hm⟩ hno hk
       refine gv hf ?_ hk
       exact gS (gR (gY (yG rfl (y_nextE 5 hm rfl hno rfl rfl)) (gX rfl (gE (gS (gcf rfl (gXt (gHh (gz hm [0, 1, 2, 3, 4] rfl)))))))))
      repeat clear hm
      intro aN w hm
      refine gS (gS (gR (gM rfl (gB rfl (gE (gsd 43 rfl (fun bN => ?_) fun bN => ?_))))))
      ·
       exact gct rfl (gS (gR (gY (yn (hm.blk_at 3 rfl) isAgg24 sizeOf24 rfl) (gSN hm 2 sizeOf24 (one_cons rfl (one_cons rfl (one_cons rfl (one_cons rfl one_nil)))) rfl fun w hm => gE (gRt (gLp au ar (gl (gEr bl (grc 2 results46 hm rfl isAgg24 sizeOf24 ⟨(.slice aE aA.2.2.2.2.2.length aF), (.slice aI aA.1.length aJ), rfl, hm.pk [0, 4, 1] rfl rfl⟩)))))))))
      refine gcf rfl (gSk (gS (gR (gM rfl ?_))))
      obtain ⟨bO, hle, hm1, hsub, bP⟩ := hm.take2 (L1 := [blk bp0 [(.slice aI aA.1.length aJ), (.bool (aA.2.1))] 63, ow [(.slice aI aA.1.length aJ)] aA.1]) (L2 := [blk aC [(nV 0), (nV 0), (.string ⟨((mkS [])).b.toArray⟩), (.slice none 0 0)] 24, blk aG [(nV aA.2.2.1), (nV aA.2.2.2.1), (.string ⟨(aA.2.2.2.2.1).b.toArray⟩), (.slice aE aA.2.2.2.2.2.length aF)] 24, ow [(.slice aE aA.2.2.2.2.2.length aF)] aA.2.2.2.2.2]) [0, 1] [2, 3, 4] (by decide) rfl rfl
      refine gCg rfl call106 (pimpl_wordReader__next_ok _ bO (⟨aA.1, aA.2.1⟩ : wordReader) bp0 (.slice aI aA.1.length aJ) hm1 ) ?_
      rintro aH b9 ah w ⟨ab, rfl, hB⟩
      replace hm := bP _ _ hB; clear hB
      refine gE (gJg (fun aR a w => ∃ (aZ aS : Value), St 56 [(0, (pV bp0)), (1, (nV level)), (4, (pV aC)), (5, (pV aG))] w0 hz [blk bp0 [aZ, (.bool (aR.2.1))] 63, ow [aZ] aR.1, blk aC [(nV 0), (nV 0), (.string ⟨((mkS [])).b.toArray⟩), (.slice none 0 0)] 24, blk aG [(nV aN), (nV 0), (.string ⟨((mkS [])).b.toArray⟩), aS] 24, ow [aS] aR.2.2] a w) (fun aR => ?_) ?_)
      ·
       refine gW (.p 0 (.p 2 (.p 3 (.p 4 (.e 1 (.e 5 (.e 6 (.p 7 (.e 8 .fin .nil)) .nil) .nil) (.e 5 (.e 1 (.e 6 (.p 7 (.e 8 .fin .nil)) .nil) .nil) .nil)))))) [] [0, 2, 3, 4, 7] hm [0, 1, 2, 3, 4] [blk bp0 [ab, (.bool (aH.2.bad))] 63, ow [ab] aH.2.list, blk aC [(nV 0), (nV 0), (.string ⟨((mkS [])).b.toArray⟩), (.slice none 0 0)] 24, blk aG [(nV aA.2.2.1), (nV aA.2.2.2.1), (.string ⟨(aA.2.2.2.2.1).b.toArray⟩), (.slice aE aA.2.2.2.2.2.length aF)] 24, ow [(.slice aE aA.2.2.2.2.2.length aF)] aA.2.2.2.2.2] rfl mxo (by kernel_rfl) (fun _ _ _ h => h.2) fun w hm hS => tP rfl (fun w => yM rfl) (tP rfl (fun w => yM rfl) (tP rfl (fun w => yM rfl) (tP rfl (fun w => yB rfl) (gb fun aB bc => tMo ?_ ?_))))
       ·
        refine tY rfl (yn (hm.blk_at 3 rfl) isAgg24 sizeOf24 rfl) (tAn rfl (tO ?_))
        obtain ⟨bQ, hle, hm1, hsub, bR⟩ := hm.take2 (L1 := [blk bp0 [ab, (.bool (aH.2.bad))] 63, ow [ab] aH.2.list]) (L2 := [blk aC [(nV 0), (nV 0), (.string ⟨((mkS [])).b.toArray⟩), (.slice none 0 0)] 24, blk aG [(nV aA.2.2.1), (nV aA.2.2.2.1), (.string ⟨(aA.2.2.2.2.1).b.toArray⟩), (.slice aE aA.2.2.2.2.2.length aF)] 24, ow [(.slice aE aA.2.2.2.2.2.length aF)] aA.2.2.2.2.2]) [0, 1] [2, 3, 4] (by decide) rfl rfl
        refine tf rfl rfl (fun a hf => e_call hf rfl call46 rfl (pimpl_wordReader__expr_rec _ bQ aH.2 bp0 ab (w64 (level + 1)) hm1 (GT.mono hle hG0) _ bc)) ?_
        rintro bw w ⟨aX, aY, rfl, hB⟩
        replace hm := bR _ _ hB; clear hB
        refine tAn rfl (tO (tf rfl rfl (fun a hf => e_build (vs := #[(0, (.agg #[(nV aA.2.2.1), (nV aA.2.2.2.1), (.string ⟨(aA.2.2.2.2.1).b.toArray⟩), (.slice aE aA.2.2.2.2.2.length aF)])), (1, (.agg #[(nV aB.1.op), (nV aB.1.n_), (.string ⟨(aB.1.name).b.toArray⟩), aX]))]) (cs := [(nV aA.2.2.1), (nV aA.2.2.2.1), (.string ⟨(aA.2.2.2.2.1).b.toArray⟩), (.slice aE aA.2.2.2.2.2.length aF), (nV aB.1.op), (nV aB.1.n_), (.string ⟨(aB.1.name).b.toArray⟩), aX]) et_22 hf hm rfl rfl (by kernel_rfl) rfl rfl) ?_))
        rintro _ w ⟨ae, rfl, hm⟩
        replace hm := hm.els_nil (α := Expr_)
        replace hm : Mem w0 hz _ [els [] ([] : List Expr_), blk ae [(nV aA.2.2.1), (nV aA.2.2.2.1), (.string ⟨(aA.2.2.2.2.1).b.toArray⟩), (.slice aE aA.2.2.2.2.2.length aF), (nV aB.1.op), (nV aB.1.n_), (.string ⟨(aB.1.name).b.toArray⟩), aX] 24, blk bp0 [aY, (.bool (aB.2.bad))] 63, ow [(nV aB.1.op), (nV aB.1.n_), (.string ⟨(aB.1.name).b.toArray⟩), aX] (aB.1 : Expr_), ow [aY] aB.2.list, blk aC [(nV 0), (nV 0), (.string ⟨((mkS [])).b.toArray⟩), (.slice none 0 0)] 24, blk aG [(nV aA.2.2.1), (nV aA.2.2.2.1), (.string ⟨(aA.2.2.2.2.1).b.toArray⟩), (.slice aE aA.2.2.2.2.2.length aF)] 24, ow [(.slice aE aA.2.2.2.2.2.length aF)] aA.2.2.2.2.2] := mkx_Expr_ aB.1 hm 3 rfl
        replace hm := (hm.els_cons 0 3 (by decide) rfl rfl).pk (L' := [els [(nV aB.1.op), (nV aB.1.n_), (.string ⟨(aB.1.name).b.toArray⟩), aX] ([aB.1] : List Expr_), blk ae [(nV aA.2.2.1), (nV aA.2.2.2.1), (.string ⟨(aA.2.2.2.2.1).b.toArray⟩), (.slice aE aA.2.2.2.2.2.length aF), (nV aB.1.op), (nV aB.1.n_), (.string ⟨(aB.1.name).b.toArray⟩), aX] 24, blk bp0 [aY, (.bool (aB.2.bad))] 63, ow [aY] aB.2.list, blk aC [(nV 0), (nV 0), (.string ⟨((mkS [])).b.toArray⟩), (.slice none 0 0)] 24, blk aG [(nV aA.2.2.1), (nV aA.2.2.2.1), (.string ⟨(aA.2.2.2.2.1).b.toArray⟩), (.slice aE aA.2.2.2.2.2.length aF)] 24, ow [(.slice aE aA.2.2.2.2.2.length aF)] aA.2.2.2.2.2]) [0, 1, 2, 4, 5, 6, 7] rfl rfl
        replace hm : Mem w0 hz _ [els [(nV aB.1.op), (nV aB.1.n_), (.string ⟨(aB.1.name).b.toArray⟩), aX] ([aB.1] : List Expr_), blk ae [(nV aA.2.2.1), (nV aA.2.2.2.1), (.string ⟨(aA.2.2.2.2.1).b.toArray⟩), (.slice aE aA.2.2.2.2.2.length aF), (nV aB.1.op), (nV aB.1.n_), (.string ⟨(aB.1.name).b.toArray⟩), aX] 24, blk bp0 [aY, (.bool (aB.2.bad))] 63, ow [aY] aB.2.list, blk aC [(nV 0), (nV 0), (.string ⟨((mkS [])).b.toArray⟩), (.slice none 0 0)] 24, blk aG [(nV aA.2.2.1), (nV aA.2.2.2.1), (.string ⟨(aA.2.2.2.2.1).b.toArray⟩), (.slice aE aA.2.2.2.2.2.length aF)] 24, ow [(nV aA.2.2.1), (nV aA.2.2.2.1), (.string ⟨(aA.2.2.2.2.1).b.toArray⟩), (.slice aE aA.2.2.2.2.2.length aF)] ((⟨aA.2.2.1, aA.2.2.2.1, aA.2.2.2.2.1, aA.2.2.2.2.2⟩ : Expr_) : Expr_)] := mk_Expr_ aA.2.2.1 aA.2.2.2.1 aA.2.2.2.2.1 hm 6 rfl
        replace hm := (hm.els_cons 0 6 (by decide) rfl rfl).pk (L' := [els [(nV aA.2.2.1), (nV aA.2.2.2.1), (.string ⟨(aA.2.2.2.2.1).b.toArray⟩), (.slice aE aA.2.2.2.2.2.length aF), (nV aB.1.op), (nV aB.1.n_), (.string ⟨(aB.1.name).b.toArray⟩), aX] ([(⟨aA.2.2.1, aA.2.2.2.1, aA.2.2.2.2.1, aA.2.2.2.2.2⟩ : Expr_), aB.1] : List Expr_), blk ae [(nV aA.2.2.1), (nV aA.2.2.2.1), (.string ⟨(aA.2.2.2.2.1).b.toArray⟩), (.slice aE aA.2.2.2.2.2.length aF), (nV aB.1.op), (nV aB.1.n_), (.string ⟨(aB.1.name).b.toArray⟩), aX] 24, blk bp0 [aY, (.bool (aB.2.bad))] 63, ow [aY] aB.2.list, blk aC [(nV 0), (nV 0), (.string ⟨((mkS [])).b.toArray⟩), (.slice none 0 0)] 24, blk aG [(nV aA.2.2.1), (nV aA.2.2.2.1), (.string ⟨(aA.2.2.2.2.1).b.toArray⟩), (.slice aE aA.2.2.2.2.2.length aF)] 24]) [0, 1, 2, 3, 4, 5] rfl rfl
        replace hm := (hm.lit_els 1 0 (by decide) rfl rfl rfl rfl).pk (L' := [ow [(sV ae 0 2 2)] ([(⟨aA.2.2.1, aA.2.2.2.1, aA.2.2.2.2.1, aA.2.2.2.2.2⟩ : Expr_), aB.1] : List Expr_), blk bp0 [aY, (.bool (aB.2.bad))] 63, ow [aY] aB.2.list, blk aC [(nV 0), (nV 0), (.string ⟨((mkS [])).b.toArray⟩), (.slice none 0 0)] 24, blk aG [(nV aA.2.2.1), (nV aA.2.2.2.1), (.string ⟨(aA.2.2.2.2.1).b.toArray⟩), (.slice aE aA.2.2.2.2.2.length aF)] 24]) [1, 2, 3, 4, 5] rfl rfl
        refine tAn rfl (tP rfl (fun w => yG rfl (y_build (vs := [(0, (nV aN)), (3, (sV ae 0 2 2))]) (cs := #[(nV aN), (nV 0), (.string ⟨((mkS [])).b.toArray⟩), (sV ae 0 2 2)]) rfl rfl (by kernel_rfl))) (tO (tf0 rfl rfl (fun a hf => e_storeN 4 hf hm rfl sizeOf24 rfl rfl rfl (one_cons rfl (one_cons rfl (one_cons rfl (one_cons rfl one_nil)))) rfl rfl) ?_)))
        rintro _ w hm
        exact tAn rfl (tE (gZ fun a hf => ⟨aY, (sV ae 0 2 2), hf.sb rfl, hm.pk [1, 2, 3, 4, 0] rfl rfl⟩))
       refine tO ?_
       obtain ⟨bS, hle, hm1, hsub, bT⟩ := hm.take2 (L1 := [blk bp0 [ab, (.bool (aH.2.bad))] 63, ow [ab] aH.2.list]) (L2 := [blk aC [(nV 0), (nV 0), (.string ⟨((mkS [])).b.toArray⟩), (.slice none 0 0)] 24, blk aG [(nV aA.2.2.1), (nV aA.2.2.2.1), (.string ⟨(aA.2.2.2.2.1).b.toArray⟩), (.slice aE aA.2.2.2.2.2.length aF)] 24, ow [(.slice aE aA.2.2.2.2.2.length aF)] aA.2.2.2.2.2]) [0, 1] [2, 3, 4] (by decide) rfl rfl
       refine tf rfl rfl (fun a hf => e_call hf rfl call46 rfl (pimpl_wordReader__expr_rec _ bS aH.2 bp0 ab (w64 (level + 1)) hm1 (GT.mono hle hG0) _ bc)) ?_
       rintro bd w ⟨aa, a8, rfl, hB⟩
       replace hm := bT _ _ hB; clear hB
       refine tAn rfl (tO (tY rfl (yn (hm.blk_at 4 rfl) isAgg24 sizeOf24 rfl) (tAn rfl (tO (tf rfl rfl (fun a hf => e_build (vs := #[(0, (.agg #[(nV aA.2.2.1), (nV aA.2.2.2.1), (.string ⟨(aA.2.2.2.2.1).b.toArray⟩), (.slice aE aA.2.2.2.2.2.length aF)])), (1, (.agg #[(nV aB.1.op), (nV aB.1.n_), (.string ⟨(aB.1.name).b.toArray⟩), aa]))]) (cs := [(nV aA.2.2.1), (nV aA.2.2.2.1), (.string ⟨(aA.2.2.2.2.1).b.toArray⟩), (.slice aE aA.2.2.2.2.2.length aF), (nV aB.1.op), (nV aB.1.n_), (.string ⟨(aB.1.name).b.toArray⟩), aa]) et_22 hf hm rfl rfl (by kernel_rfl) rfl rfl) ?_)))))
       rintro _ w ⟨af, rfl, hm⟩
       replace hm := hm.els_nil (α := Expr_)
       replace hm : Mem w0 hz _ [els [] ([] : List Expr_), blk af [(nV aA.2.2.1), (nV aA.2.2.2.1), (.string ⟨(aA.2.2.2.2.1).b.toArray⟩), (.slice aE aA.2.2.2.2.2.length aF), (nV aB.1.op), (nV aB.1.n_), (.string ⟨(aB.1.name).b.toArray⟩), aa] 24, blk bp0 [a8, (.bool (aB.2.bad))] 63, ow [(nV aB.1.op), (nV aB.1.n_), (.string ⟨(aB.1.name).b.toArray⟩), aa] (aB.1 : Expr_), ow [a8] aB.2.list, blk aC [(nV 0), (nV 0), (.string ⟨((mkS [])).b.toArray⟩), (.slice none 0 0)] 24, blk aG [(nV aA.2.2.1), (nV aA.2.2.2.1), (.string ⟨(aA.2.2.2.2.1).b.toArray⟩), (.slice aE aA.2.2.2.2.2.length aF)] 24, ow [(.slice aE aA.2.2.2.2.2.length aF)] aA.2.2.2.2.2] := mkx_Expr_ aB.1 hm 3 rfl
       replace hm := (hm.els_cons 0 3 (by decide) rfl rfl).pk (L' := [els [(nV aB.1.op), (nV aB.1.n_), (.string ⟨(aB.1.name).b.toArray⟩), aa] ([aB.1] : List Expr_), blk af [(nV aA.2.2.1), (nV aA.2.2.2.1), (.string ⟨(aA.2.2.2.2.1).b.toArray⟩), (.slice aE aA.2.2.2.2.2.length aF), (nV aB.1.op), (nV aB.1.n_), (.string ⟨(aB.1.name).b.toArray⟩), aa] 24, blk bp0 [a8, (.bool (aB.2.bad))] 63, ow [a8] aB.2.list, blk aC [(nV 0), (nV 0), (.string ⟨((mkS [])).b.toArray⟩), (.slice none 0 0)] 24, blk aG [(nV aA.2.2.1), (nV aA.2.2.2.1), (.string ⟨(aA.2.2.2.2.1).b.toArray⟩), (.slice aE aA.2.2.2.2.2.length aF)] 24, ow [(.slice aE aA.2.2.2.2.2.length aF)] aA.2.2.2.2.2]) [0, 1, 2, 4, 5, 6, 7] rfl rfl
       replace hm : Mem w0 hz _ [els [(nV aB.1.op), (nV aB.1.n_), (.string ⟨(aB.1.name).b.toArray⟩), aa] ([aB.1] : List Expr_), blk af [(nV aA.2.2.1), (nV aA.2.2.2.1), (.string ⟨(aA.2.2.2.2.1).b.toArray⟩), (.slice aE aA.2.2.2.2.2.length aF), (nV aB.1.op), (nV aB.1.n_), (.string ⟨(aB.1.name).b.toArray⟩), aa] 24, blk bp0 [a8, (.bool (aB.2.bad))] 63, ow [a8] aB.2.list, blk aC [(nV 0), (nV 0), (.string ⟨((mkS [])).b.toArray⟩), (.slice none 0 0)] 24, blk aG [(nV aA.2.2.1), (nV aA.2.2.2.1), (.string ⟨(aA.2.2.2.2.1).b.toArray⟩), (.slice aE aA.2.2.2.2.2.length aF)] 24, ow [(nV aA.2.2.1), (nV aA.2.2.2.1), (.string ⟨(aA.2.2.2.2.1).b.toArray⟩), (.slice aE aA.2.2.2.2.2.length aF)] ((⟨aA.2.2.1, aA.2.2.2.1, aA.2.2.2.2.1, aA.2.2.2.2.2⟩ : Expr_) : Expr_)] := mk_Expr_ aA.2.2.1 aA.2.2.2.1 aA.2.2.2.2.1 hm 6 rfl
       replace hm := (hm.els_cons 0 6 (by decide) rfl rfl).pk (L' := [els [(nV aA.2.2.1), (nV aA.2.2.2.1), (.string ⟨(aA.2.2.2.2.1).b.toArray⟩), (.slice aE aA.2.2.2.2.2.length aF), (nV aB.1.op), (nV aB.1.n_), (.string ⟨(aB.1.name).b.toArray⟩), aa] ([(⟨aA.2.2.1, aA.2.2.2.1, aA.2.2.2.2.1, aA.2.2.2.2.2⟩ : Expr_), aB.1] : List Expr_), blk af [(nV aA.2.2.1), (nV aA.2.2.2.1), (.string ⟨(aA.2.2.2.2.1).b.toArray⟩), (.slice aE aA.2.2.2.2.2.length aF), (nV aB.1.op), (nV aB.1.n_), (.string ⟨(aB.1.name).b.toArray⟩), aa] 24, blk bp0 [a8, (.bool (aB.2.bad))] 63, ow [a8] aB.2.list, blk aC [(nV 0), (nV 0), (.string ⟨((mkS [])).b.toArray⟩), (.slice none 0 0)] 24, blk aG [(nV aA.2.2.1), (nV aA.2.2.2.1), (.string ⟨(aA.2.2.2.2.1).b.toArray⟩), (.slice aE aA.2.2.2.2.2.length aF)] 24]) [0, 1, 2, 3, 4, 5] rfl rfl
       replace hm := (hm.lit_els 1 0 (by decide) rfl rfl rfl rfl).pk (L' := [ow [(sV af 0 2 2)] ([(⟨aA.2.2.1, aA.2.2.2.1, aA.2.2.2.2.1, aA.2.2.2.2.2⟩ : Expr_), aB.1] : List Expr_), blk bp0 [a8, (.bool (aB.2.bad))] 63, ow [a8] aB.2.list, blk aC [(nV 0), (nV 0), (.string ⟨((mkS [])).b.toArray⟩), (.slice none 0 0)] 24, blk aG [(nV aA.2.2.1), (nV aA.2.2.2.1), (.string ⟨(aA.2.2.2.2.1).b.toArray⟩), (.slice aE aA.2.2.2.2.2.length aF)] 24]) [1, 2, 3, 4, 5] rfl rfl
       refine tAn rfl (tP rfl (fun w => yG rfl (y_build (vs := [(0, (nV aN)), (3, (sV af 0 2 2))]) (cs := #[(nV aN), (nV 0), (.string ⟨((mkS [])).b.toArray⟩), (sV af 0 2 2)]) rfl rfl (by kernel_rfl))) (tO (tf0 rfl rfl (fun a hf => e_storeN 4 hf hm rfl sizeOf24 rfl rfl rfl (one_cons rfl (one_cons rfl (one_cons rfl (one_cons rfl one_nil)))) rfl rfl) ?_)))
       rintro _ w hm
       exact tAn rfl (tE (gZ fun a hf => ⟨a8, (sV af 0 2 2), hf.sb rfl, hm.pk [1, 2, 3, 4, 0] rfl rfl⟩))
      repeat clear hm
      rintro aR a w ⟨aZ, aS, hf, hm⟩
      exact gv hf (gZe fun a hf => ⟨aZ, aS, hf.sb rfl, hm.pk [0, 1, 2, 3, 4] rfl rfl⟩)
     exact gcf rfl (gXt (gHh (gLp au ar (gr (gZe fun a hf => ⟨aU, aV, hf.sb rfl, hm.pk [2, 3, 4, 0, 1] rfl rfl⟩)))))
    repeat clear hm
    rintro aT a w ⟨ao, aq, hf, hm⟩
    exact gv hf (gS (gR (gY (yn (hm.blk_at 1 rfl) isAgg24 sizeOf24 rfl) (gSN hm 0 sizeOf24 (one_cons rfl (one_cons rfl (one_cons rfl (one_cons (rep_one (hm.ow_rep 2 rfl)) one_nil)))) rfl fun w hm => gE (gRt (grc 0 results46 hm rfl isAgg24 sizeOf24 ⟨ao, aq, rfl, hm.pk [3, 2, 4] rfl rfl⟩))))))
  · intro rec_1 rec_2 ih_1 ih_2 r_ r hq w0 hz bp0 v1p hm0 hG0
    have pimpl_wordReader__expr_rec : ∀ (w0 : World) (hz : Heap) (r_ : wordReader) (bp0 : Nat) (v1p : Value) (level : Int) (hm0 : Mem w0 hz w0 [blk bp0 [v1p, (.bool (r_.bad))] 63, ow [v1p] r_.list]) (hG0 : GT.rep hz [.slice (some ⟨0, 0, none⟩) 1 1] [glob_impl_opSign]) (r : Expr_ × wordReader) (hq : rec_1 r_ level = some r), Con Tryz.prog 46 [(pV bp0), (nV level)] w0 (fun v w' => ∃ (x1 : Value) (x2 : Value), v = (.agg #[(nV r.1.op), (nV r.1.n_), (.string ⟨(r.1.name).b.toArray⟩), x1]) ∧ Mem w0 hz w' [blk bp0 [x2, (.bool (r.2.bad))] 63, ow [x1] r.1.kids, ow [x2] r.2.list]) := fun w0 hz r_ bp0 v1p level hm0 hG0 r hq => ih_1 r_ level r hq w0 hz bp0 v1p hm0 hG0
    have pimpl_wordReader__single_rec : ∀ (w0 : World) (hz : Heap) (r_ : wordReader) (bp0 : Nat) (v1p : Value) (hm0 : Mem w0 hz w0 [blk bp0 [v1p, (.bool (r_.bad))] 63, ow [v1p] r_.list]) (hG0 : GT.rep hz [.slice (some ⟨0, 0, none⟩) 1 1] [glob_impl_opSign]) (r : Expr_ × wordReader) (hq : rec_2 r_ = some r), Con Tryz.prog 104 [(pV bp0)] w0 (fun v w' => ∃ (x1 : Value) (x2 : Value), v = (.agg #[(nV r.1.op), (nV r.1.n_), (.string ⟨(r.1.name).b.toArray⟩), x1]) ∧ Mem w0 hz w' [blk bp0 [x2, (.bool (r.2.bad))] 63, ow [x1] r.1.kids, ow [x2] r.2.list]) := fun w0 hz r_ bp0 v1p hm0 hG0 r hq => ih_2 r_ r hq w0 hz bp0 v1p hm0 hG0
    refine gconr (ρ := Expr_ × wordReader) (R := fun r v w' => ∃ (x1 : Value) (x2 : Value), v = (.agg #[(nV r.1.op), (nV r.1.n_), (.string ⟨(r.1.name).b.toArray⟩), x1]) ∧ Mem w0 hz w' [blk bp0 [x2, (.bool (r.2.bad))] 63, ow [x1] r.1.kids, ow [x2] r.2.list]) func104 rfl hq ?_
    have hm := hm0
    refine gS (gR (gAl hm zeroValue24 rfl fun aC w hm => gE (gS (gR (gM rfl ?_)))))
    obtain ⟨bD, hle, hm1, hsub, bE⟩ := hm.take2 (L1 := [blk bp0 [v1p, (.bool (r_.bad))] 63, ow [v1p] r_.list]) (L2 := [blk aC [(nV 0), (nV 0), (.string ⟨((mkS [])).b.toArray⟩), (.slice none 0 0)] 24]) [1, 2] [0] (by decide) rfl rfl
    refine gCg rfl call106 (pimpl_wordReader__next_ok _ bD r_ bp0 v1p hm1 ) ?_
    rintro aD bf bg w ⟨aM, rfl, hB⟩
    replace hm := bE _ _ hB; clear hB
    refine gAl hm zeroValue56 rfl fun aG w hm => gSN hm 0 sizeOf56 (one_cons rfl (one_cons rfl one_nil)) rfl fun w hm => gE (gS (gBk (gS (gR (gM rfl (gY (yG rfl (y_nilptr rfl rfl)) (gF fo_63_1 rfl (gL hm 1 isAgg4 rfl (gA rfl (gE (gs 8 rfl (fun bC => ?_) fun bC => ?_)))))))))))
    ·
     refine gct rfl (gS (gR (gY (yG rfl (y_build (vs := []) (cs := #[(nV 0), (nV 0), (.string ⟨((mkS [])).b.toArray⟩), (.slice none 0 0)]) rfl rfl (by kernel_rfl))) (gSN hm 3 sizeOf24 (one_cons rfl (one_cons rfl (one_cons rfl (one_cons rfl one_nil)))) rfl fun w hm => gE (gRt ?_)))))
     replace hm := hm.nilow (α := Expr_)
     exact grc 4 results104 hm rfl isAgg24 sizeOf24 ⟨(.slice none 0 0), aM, rfl, hm.pk [2, 0, 3] rfl rfl⟩
    refine gcf rfl (gS (gW (.q 0 (.e 1 (.p 2 (.p 3 .fin)) .nil)) [1] [2, 3] hm [0, 1, 2, 3] [blk aG [(nV aD.1.kind), (.string ⟨(aD.1.text).b.toArray⟩)] 56, blk bp0 [aM, (.bool (aD.2.bad))] 63, ow [aM] aD.2.list, blk aC [(nV 0), (nV 0), (.string ⟨((mkS [])).b.toArray⟩), (.slice none 0 0)] 24] rfl mxo (by kernel_rfl) (fun _ _ _ h => h.2) fun w hm hS => tQ rfl hS (fun w hm => yn (hm.blk_at 0 rfl) isAgg56 sizeOf56 rfl) (tO (gb fun bH bX => tf rfl rfl (fun a hf => e_call hf rfl call80 rfl (impl_signWord_ok _ (mkS [33]) _ bX)) ?_))))
    rintro bW w ⟨rfl, hB⟩
    replace hm := hm.below' hB; clear hB
    refine tAk hm [0, 1, 2, 3] rfl fun hS => tP rfl (fun w => yG rfl (y_eqIS underlying56 (by kernel_rfl) (by kernel_rfl) (by decide) rfl rfl isAgg3 isAgg9 underlying3 underlying9 rfl rfl rfl)) (tP rfl (fun w => yA rfl) (tE (gs 14 rfl (fun bz => ?_) fun bz => ?_)))
    ·
     refine gct rfl (gS (gR (gM rfl ?_)))
     obtain ⟨bF, hle, hm1, hsub, bG⟩ := hm.take2 (L1 := [blk bp0 [aM, (.bool (aD.2.bad))] 63, ow [aM] aD.2.list]) (L2 := [blk aG [(nV aD.1.kind), (.string ⟨(aD.1.text).b.toArray⟩)] 56, blk aC [(nV 0), (nV 0), (.string ⟨((mkS [])).b.toArray⟩), (.slice none 0 0)] 24]) [1, 2] [0, 3] (by decide) rfl rfl
     refine gCg rfl call104 (pimpl_wordReader__single_rec _ bF aD.2 bp0 aM hm1 (GT.mono hle hG0)) ?_
     rintro aK cj bh w ⟨ag, ac, rfl, hB⟩
     replace hm := bG _ _ hB; clear hB
     refine gf rfl (fun a hf => e_build (vs := #[(0, (.agg #[(nV aK.1.op), (nV aK.1.n_), (.string ⟨(aK.1.name).b.toArray⟩), ag]))]) (cs := [(nV aK.1.op), (nV aK.1.n_), (.string ⟨(aK.1.name).b.toArray⟩), ag]) et_22 hf hm rfl rfl (by kernel_rfl) rfl rfl) ?_
     rintro _ w ⟨al, rfl, hm⟩
     replace hm := hm.els_nil (α := Expr_)
     replace hm : Mem w0 hz _ [els [] ([] : List Expr_), blk al [(nV aK.1.op), (nV aK.1.n_), (.string ⟨(aK.1.name).b.toArray⟩), ag] 24, blk bp0 [ac, (.bool (aK.2.bad))] 63, ow [(nV aK.1.op), (nV aK.1.n_), (.string ⟨(aK.1.name).b.toArray⟩), ag] (aK.1 : Expr_), ow [ac] aK.2.list, blk aG [(nV aD.1.kind), (.string ⟨(aD.1.text).b.toArray⟩)] 56, blk aC [(nV 0), (nV 0), (.string ⟨((mkS [])).b.toArray⟩), (.slice none 0 0)] 24] := mkx_Expr_ aK.1 hm 3 rfl
     replace hm := (hm.els_cons 0 3 (by decide) rfl rfl).pk (L' := [els [(nV aK.1.op), (nV aK.1.n_), (.string ⟨(aK.1.name).b.toArray⟩), ag] ([aK.1] : List Expr_), blk al [(nV aK.1.op), (nV aK.1.n_), (.string ⟨(aK.1.name).b.toArray⟩), ag] 24, blk bp0 [ac, (.bool (aK.2.bad))] 63, ow [ac] aK.2.list, blk aG [(nV aD.1.kind), (.string ⟨(aD.1.text).b.toArray⟩)] 56, blk aC [(nV 0), (nV 0), (.string ⟨((mkS [])).b.toArray⟩), (.slice none 0 0)] 24]) [0, 1, 2, 4, 5, 6] rfl rfl
     replace hm := (hm.lit_els 1 0 (by decide) rfl rfl rfl rfl).pk (L' := [ow [(sV al 0 1 1)] ([aK.1] : List Expr_), blk bp0 [ac, (.bool (aK.2.bad))] 63, ow [ac] aK.2.list, blk aG [(nV aD.1.kind), (.string ⟨(aD.1.text).b.toArray⟩)] 56, blk aC [(nV 0), (nV 0), (.string ⟨((mkS [])).b.toArray⟩), (.slice none 0 0)] 24]) [1, 2, 3, 4, 5] rfl rfl
     exact gY (yG rfl (y_build (vs := [(0, (nV 11)), (3, (sV al 0 1 1))]) (cs := #[(nV 11), (nV 0), (.string ⟨((mkS [])).b.toArray⟩), (sV al 0 1 1)]) rfl rfl (by kernel_rfl))) (gSN hm 4 sizeOf24 (one_cons rfl (one_cons rfl (one_cons rfl (one_cons rfl one_nil)))) rfl fun w hm => gE (gRt (grc 4 results104 hm rfl isAgg24 sizeOf24 ⟨(sV al 0 1 1), ac, rfl, hm.pk [1, 0, 2] rfl rfl⟩)))
    refine gcf rfl (gS (gW (.q 0 (.e 1 (.p 2 (.p 3 .fin)) .nil)) [1] [2, 3] hm [0, 1, 2, 3] [blk aG [(nV aD.1.kind), (.string ⟨(aD.1.text).b.toArray⟩)] 56, blk bp0 [aM, (.bool (aD.2.bad))] 63, ow [aM] aD.2.list, blk aC [(nV 0), (nV 0), (.string ⟨((mkS [])).b.toArray⟩), (.slice none 0 0)] 24] rfl mxo (by kernel_rfl) (fun _ _ _ h => h.2) fun w hm hS => tQ rfl hS (fun w hm => yn (hm.blk_at 0 rfl) isAgg56 sizeOf56 rfl) (tO (gb fun ck cA => tf rfl rfl (fun a hf => e_call hf rfl call80 rfl (impl_signWord_ok _ (mkS [64]) _ cA)) ?_))))
    rintro ao w ⟨rfl, hB⟩
    replace hm := hm.below' hB; clear hB
    refine tAk hm [0, 1, 2, 3] rfl fun hS => tP rfl (fun w => yG rfl (y_eqIS underlying56 (by kernel_rfl) (by kernel_rfl) (by decide) rfl rfl isAgg3 isAgg9 underlying3 underlying9 rfl rfl rfl)) (tP rfl (fun w => yA rfl) (tE (gs 22 rfl (fun cB => ?_) fun cB => ?_)))
    ·
     refine gct rfl (gS (gR (gM rfl ?_)))
     obtain ⟨cC, hle, hm1, hsub, cD⟩ := hm.take2 (L1 := [blk bp0 [aM, (.bool (aD.2.bad))] 63, ow [aM] aD.2.list]) (L2 := [blk aG [(nV aD.1.kind), (.string ⟨(aD.1.text).b.toArray⟩)] 56, blk aC [(nV 0), (nV 0), (.string ⟨((mkS [])).b.toArray⟩), (.slice none 0 0)] 24]) [1, 2] [0, 3] (by decide) rfl rfl
     refine gCg rfl call104 (pimpl_wordReader__single_rec _ cC aD.2 bp0 aM hm1 (GT.mono hle hG0)) ?_
     rintro aL cl aq w ⟨am, ai, rfl, hB⟩
     replace hm := cD _ _ hB; clear hB
     refine gf rfl (fun a hf => e_build (vs := #[(0, (.agg #[(nV aL.1.op), (nV aL.1.n_), (.string ⟨(aL.1.name).b.toArray⟩), am]))]) (cs := [(nV aL.1.op), (nV aL.1.n_), (.string ⟨(aL.1.name).b.toArray⟩), am]) et_22 hf hm rfl rfl (by kernel_rfl) rfl rfl) ?_
     rintro _ w ⟨an, rfl, hm⟩
     replace hm := hm.els_nil (α := Expr_)
     replace hm : Mem w0 hz _ [els [] ([] : List Expr_), blk an [(nV aL.1.op), (nV aL.1.n_), (.string ⟨(aL.1.name).b.toArray⟩), am] 24, blk bp0 [ai, (.bool (aL.2.bad))] 63, ow [(nV aL.1.op), (nV aL.1.n_), (.string ⟨(aL.1.name).b.toArray⟩), am] (aL.1 : Expr_), ow [ai] aL.2.list, blk aG [(nV aD.1.kind), (.string ⟨(aD.1.text).b.toArray⟩)] 56, blk aC [(nV 0), (nV 0), (.string ⟨((mkS [])).b.toArray⟩), (.slice none 0 0)] 24] := mkx_Expr_ aL.1 hm 3 rfl
     replace hm := (hm.els_cons 0 3 (by decide) rfl rfl).pk (L' := [els [(nV aL.1.op), (nV aL.1.n_), (.string ⟨(aL.1.name).b.toArray⟩), am] ([aL.1] : List Expr_), blk an [(nV aL.1.op), (nV aL.1.n_), (.string ⟨(aL.1.name).b.toArray⟩), am] 24, blk bp0 [ai, (.bool (aL.2.bad))] 63, ow [ai] aL.2.list, blk aG [(nV aD.1.kind), (.string ⟨(aD.1.text).b.toArray⟩)] 56, blk aC [(nV 0), (nV 0), (.string ⟨((mkS [])).b.toArray⟩), (.slice none 0 0)] 24]) [0, 1, 2, 4, 5, 6] rfl rfl
     replace hm := (hm.lit_els 1 0 (by decide) rfl rfl rfl rfl).pk (L' := [ow [(sV an 0 1 1)] ([aL.1] : List Expr_), blk bp0 [ai, (.bool (aL.2.bad))] 63, ow [ai] aL.2.list, blk aG [(nV aD.1.kind), (.string ⟨(aD.1.text).b.toArray⟩)] 56, blk aC [(nV 0), (nV 0), (.string ⟨((mkS [])).b.toArray⟩), (.slice none 0 0)] 24]) [1, 2, 3, 4, 5] rfl rfl
     exact gY (yG rfl (y_build (vs := [(0, (nV 12)), (3, (sV an 0 1 1))]) (cs := #[(nV 12), (nV 0), (.string ⟨((mkS [])).b.toArray⟩), (sV an 0 1 1)]) rfl rfl (by kernel_rfl))) (gSN hm 4 sizeOf24 (one_cons rfl (one_cons rfl (one_cons rfl (one_cons rfl one_nil)))) rfl fun w hm => gE (gRt (grc 4 results104 hm rfl isAgg24 sizeOf24 ⟨(sV an 0 1 1), ai, rfl, hm.pk [1, 0, 2] rfl rfl⟩)))
    refine gcf rfl (gS (gW (.q 0 (.e 1 (.p 2 (.p 3 .fin)) .nil)) [1] [2, 3] hm [0, 1, 2, 3] [blk aG [(nV aD.1.kind), (.string ⟨(aD.1.text).b.toArray⟩)] 56, blk bp0 [aM, (.bool (aD.2.bad))] 63, ow [aM] aD.2.list, blk aC [(nV 0), (nV 0), (.string ⟨((mkS [])).b.toArray⟩), (.slice none 0 0)] 24] rfl mxo (by kernel_rfl) (fun _ _ _ h => h.2) fun w hm hS => tQ rfl hS (fun w hm => yn (hm.blk_at 0 rfl) isAgg56 sizeOf56 rfl) (tO (gb fun cm cE => tf rfl rfl (fun a hf => e_call hf rfl call80 rfl (impl_signWord_ok _ (mkS [40]) _ cE)) ?_))))
    rintro cn w ⟨rfl, hB⟩
    replace hm := hm.below' hB; clear hB
    refine tAk hm [0, 1, 2, 3] rfl fun hS => tP rfl (fun w => yG rfl (y_eqIS underlying56 (by kernel_rfl) (by kernel_rfl) (by decide) rfl rfl isAgg3 isAgg9 underlying3 underlying9 rfl rfl rfl)) (tP rfl (fun w => yA rfl) (tE (gs 30 rfl (fun cF => ?_) fun cF => ?_)))
    ·
     refine gct rfl (gS (gR (gM rfl ?_)))
     obtain ⟨cG, hle, hm1, hsub, cH⟩ := hm.take2 (L1 := [blk bp0 [aM, (.bool (aD.2.bad))] 63, ow [aM] aD.2.list]) (L2 := [blk aG [(nV aD.1.kind), (.string ⟨(aD.1.text).b.toArray⟩)] 56, blk aC [(nV 0), (nV 0), (.string ⟨((mkS [])).b.toArray⟩), (.slice none 0 0)] 24]) [1, 2] [0, 3] (by decide) rfl rfl
     refine gCg rfl call46 (pimpl_wordReader__expr_rec _ cG aD.2 bp0 aM 1 hm1 (GT.mono hle hG0)) ?_
     rintro aj co cq w ⟨bU, bV, rfl, hB⟩
     replace hm := cH _ _ hB; clear hB
     refine gAl hm zeroValue24 rfl fun cI w hm => gSN hm 0 sizeOf24 (one_cons rfl (one_cons rfl (one_cons rfl (one_cons (rep_one (hm.ow_rep 2 rfl)) one_nil)))) rfl fun w hm => gE (gS (gR (gM rfl ?_)))
     obtain ⟨cJ, hle, hm1, hsub, cK⟩ := hm.take2 (L1 := [blk bp0 [bV, (.bool (aj.2.bad))] 63, ow [bV] aj.2.list]) (L2 := [blk cI [(nV aj.1.op), (nV aj.1.n_), (.string ⟨(aj.1.name).b.toArray⟩), bU] 24, ow [bU] aj.1.kids, blk aG [(nV aD.1.kind), (.string ⟨(aD.1.text).b.toArray⟩)] 56, blk aC [(nV 0), (nV 0), (.string ⟨((mkS [])).b.toArray⟩), (.slice none 0 0)] 24]) [1, 3] [0, 2, 4, 5] (by decide) rfl rfl
     refine gCg rfl call129 (pimpl_wordReader__want_ok _ cJ aj.2 bp0 bV 3 (mkS [41]) hm1 ) ?_
     rintro cr ct cu w ⟨cL, rfl, hB⟩
     replace hm := cK _ _ hB; clear hB
     exact gE (gS (gR (gY (yn (hm.blk_at 2 rfl) isAgg24 sizeOf24 rfl) (gSN hm 5 sizeOf24 (one_cons rfl (one_cons rfl (one_cons rfl (one_cons (rep_one (hm.ow_rep 3 rfl)) one_nil)))) rfl fun w hm => gE (gRt (grc 5 results104 hm rfl isAgg24 sizeOf24 ⟨bU, cL, rfl, hm.pk [0, 3, 1] rfl rfl⟩))))))
    refine gcf rfl (gS (gR (gF fo_56_0 rfl (gL hm 0 isAgg3 rfl (gB rfl (gA rfl (gE (gsd 39 rfl (fun cN => ?_) fun cN => ?_))))))))
    ·
     refine gct rfl (gS (gR (gY (yn (hm.blk_at 0 rfl) isAgg56 sizeOf56 rfl) (gC hm rfl call159 (impl_NumberOf_ok _ aD.1) fun be cv w hm => gY (yG rfl (y_build (vs := [(0, (nV 1)), (1, (nV be))]) (cs := #[(nV 1), (nV be), (.string ⟨((mkS [])).b.toArray⟩), (.slice none 0 0)]) rfl rfl (by kernel_rfl))) (gSN hm 3 sizeOf24 (one_cons rfl (one_cons rfl (one_cons rfl (one_cons rfl one_nil)))) rfl fun w hm => gE (gRt ?_))))))
     replace hm := hm.nilow (α := Expr_)
     exact grc 4 results104 hm rfl isAgg24 sizeOf24 ⟨(.slice none 0 0), aM, rfl, hm.pk [2, 0, 3] rfl rfl⟩
    refine gcf rfl (gS (gR (gF fo_56_0 rfl (gL hm 0 isAgg3 rfl (gB rfl (gA rfl (gE (gsd 46 rfl (fun cO => ?_) fun cO => ?_))))))))
    ·
     refine gct rfl (gS (gR (gM rfl (gY (yG rfl (y_nilptr rfl rfl)) (gF fo_63_1 rfl (gS1 hm 1 sizeOf4 rfl rfl fun w hm => gE (gS (gR (gY (yG rfl (y_build (vs := []) (cs := #[(nV 0), (nV 0), (.string ⟨((mkS [])).b.toArray⟩), (.slice none 0 0)]) rfl rfl (by kernel_rfl))) (gSN hm 3 sizeOf24 (one_cons rfl (one_cons rfl (one_cons rfl (one_cons rfl one_nil)))) rfl fun w hm => gE (gRt ?_)))))))))))
     replace hm := hm.nilow (α := Expr_)
     exact grc 4 results104 hm rfl isAgg24 sizeOf24 ⟨(.slice none 0 0), aM, rfl, hm.pk [2, 0, 3] rfl rfl⟩
    refine gcf rfl (gS (gR (gM rfl ?_)))
    obtain ⟨cP, hle, hm1, hsub, cQ⟩ := hm.take2 (L1 := [blk bp0 [aM, (.bool (aD.2.bad))] 63, ow [aM] aD.2.list]) (L2 := [blk aG [(nV aD.1.kind), (.string ⟨(aD.1.text).b.toArray⟩)] 56, blk aC [(nV 0), (nV 0), (.string ⟨((mkS [])).b.toArray⟩), (.slice none 0 0)] 24]) [1, 2] [0, 3] (by decide) rfl rfl
    refine gCg rfl call131 (pimpl_wordReader__take_ok _ cP aD.2 bp0 aM 3 (mkS [40]) hm1 ) ?_
    rintro cR cw cx w ⟨cS, rfl, hB⟩
    replace hm := cQ _ _ hB; clear hB
    refine gN rfl (gA rfl (gE (gsn 54 rfl (fun cT => ?_) fun cT => ?_)))
    ·
     refine gct rfl (gS (gR (gF fo_56_1 rfl (gL hm 2 isAgg9 rfl (gY (yG rfl (y_build (vs := [(0, (nV 2)), (2, (.string ⟨(aD.1.text).b.toArray⟩))]) (cs := #[(nV 2), (nV 0), (.string ⟨(aD.1.text).b.toArray⟩), (.slice none 0 0)]) rfl rfl (by kernel_rfl))) (gSN hm 3 sizeOf24 (one_cons rfl (one_cons rfl (one_cons rfl (one_cons rfl one_nil)))) rfl fun w hm => gE (gRt ?_)))))))
     replace hm := hm.nilow (α := Expr_)
     exact grc 4 results104 hm rfl isAgg24 sizeOf24 ⟨(.slice none 0 0), cS, rfl, hm.pk [1, 0, 2] rfl rfl⟩
    refine gcf rfl (gSk (gS (gR (gF fo_56_1 rfl (gL hm 2 isAgg9 rfl (gY (yG rfl (y_build (vs := [(0, (nV 13)), (2, (.string ⟨(aD.1.text).b.toArray⟩))]) (cs := #[(nV 13), (nV 0), (.string ⟨(aD.1.text).b.toArray⟩), (.slice none 0 0)]) rfl rfl (by kernel_rfl))) (gAl hm zeroValue24 rfl fun aO w hm => gSN hm 0 sizeOf24 (one_cons rfl (one_cons rfl (one_cons rfl (one_cons rfl one_nil)))) rfl fun w hm => gE (gS ?_))))))))
    obtain ⟨bJ, bK, rfl, bi⟩ := ro_slice (hm.ow_rep 2 rfl)
    refine gJg (fun aT a w => ∃ (bA bB : Value), St 88 [(2, (pV aC)), (5, (pV aO))] w0 hz [blk aC [(nV 0), (nV 0), (.string ⟨((mkS [])).b.toArray⟩), (.slice none 0 0)] 24, blk aO [(nV 13), (nV 0), (.string ⟨(aD.1.text).b.toArray⟩), bA] 24, ow [bA] aT.1, blk bp0 [bB, (.bool (aT.2.2))] 63, ow [bB] aT.2.1] a w) (fun aT => ?_) ?_
    ·
     refine gBk ?_
     replace hm := hm.nilow (α := Expr_)
     refine gMg (fun aA a w => ∃ (aV aU : Value), St 88 [(0, (pV bp0)), (2, (pV aC)), (5, (pV aO))] w0 hz [blk bp0 [aV, (.bool (aA.2.1))] 63, ow [aV] aA.1, blk aC [(nV 0), (nV 0), (.string ⟨((mkS [])).b.toArray⟩), (.slice none 0 0)] 24, blk aO [(nV 13), (nV 0), (.string ⟨(aD.1.text).b.toArray⟩), aU] 24, ow [aU] aA.2.2] a w) (fun a hf => ⟨(.slice bJ cR.2.list.length bK), (.slice none 0 0), hf.sb rfl, hm.pk [2, 3, 5, 1, 0] rfl rfl⟩) ?_
     repeat clear hm
     rintro bm ar aA a w ⟨aV, aU, hf, hm⟩ bo au
     refine gv hf (gS (gS (gJg (fun aN a w => ∃ (aP : Value), St 88 [(0, (pV bp0)), (2, (pV aC)), (5, (pV aO)), (73, (.bool (aN.2.2)))] w0 hz [blk bp0 [aP, (.bool (aN.2.1))] 63, ow [aP] aN.1, blk aC [(nV 0), (nV 0), (.string ⟨((mkS [])).b.toArray⟩), (.slice none 0 0)] 24, blk aO [(nV 13), (nV 0), (.string ⟨(aD.1.text).b.toArray⟩), aU] 24, ow [aU] aA.2.2] a w) (fun aN => ?_) ?_)))
     ·
      refine gR (gM rfl (gY (yG rfl (y_nilptr rfl rfl)) (gF fo_63_1 rfl (gL hm 0 isAgg4 rfl (gN rfl (gM rfl (gsn 69 rfl (fun cU => ?_) fun cU => ?_)))))))
      ·
       refine gM rfl ?_
       obtain ⟨bQ, hle, hm1, hsub, bR⟩ := hm.take2 (L1 := [blk bp0 [aV, (.bool (aA.2.1))] 63, ow [aV] aA.1]) (L2 := [blk aC [(nV 0), (nV 0), (.string ⟨((mkS [])).b.toArray⟩), (.slice none 0 0)] 24, blk aO [(nV 13), (nV 0), (.string ⟨(aD.1.text).b.toArray⟩), aU] 24, ow [aU] aA.2.2]) [0, 1] [2, 3, 4] (by decide) rfl rfl
       refine gCg rfl call131 (pimpl_wordReader__take_ok _ bQ (⟨aA.1, aA.2.1⟩ : wordReader) bp0 aV 3 (mkS [41]) hm1 ) ?_
       rintro cy cz bw w ⟨aX, rfl, hB⟩
       replace hm := bR _ _ hB; clear hB
       exact gN rfl (gKt rfl (gE (gZ fun a hf => ⟨aX, hf.sb rfl, hm.pk [0, 1, 2, 3, 4] rfl rfl⟩)))
      exact gO rfl (gO rfl (gO rfl (gKf rfl (gE (gZ fun a hf => ⟨aV, hf.sb rfl, hm.pk [0, 1, 2, 3, 4] rfl rfl⟩)))))
     repeat clear hm
     rintro aN a w ⟨aP, hf, hm⟩
     refine gv hf (gs 73 rfl (fun bL => ?_) fun bL => ?_)
     ·
      refine gct rfl (gSk (gBk (gS (gS (gR (gF fo_24_3 rfl (gL hm 3 isAgg22 rfl ?_)))))))
      obtain ⟨aI, aJ, rfl, bq⟩ := ro_slice (hm.ow_rep 4 rfl)
      refine gY (yV st_22 rfl) (gB rfl (gE (gJg (fun aR a w => ∃ (ah : Value), St 88 [(0, (pV bp0)), (2, (pV aC)), (5, (pV aO))] w0 hz [blk bp0 [ah, (.bool (aR.2))] 63, ow [ah] aR.1, blk aC [(nV 0), (nV 0), (.string ⟨((mkS [])).b.toArray⟩), (.slice none 0 0)] 24, blk aO [(nV 13), (nV 0), (.string ⟨(aD.1.text).b.toArray⟩), (.slice aI aA.2.2.length aJ)] 24, ow [(.slice aI aA.2.2.length aJ)] aA.2.2] a w) (fun aR => ?_) ?_)))
      ·
       refine gsd 77 rfl (fun cV => ?_) fun cV => ?_
       ·
        refine gct rfl (gR (gM rfl ?_))
        obtain ⟨bS, hle, hm1, hsub, bT⟩ := hm.take2 (L1 := [blk bp0 [aP, (.bool (aN.2.1))] 63, ow [aP] aN.1]) (L2 := [blk aC [(nV 0), (nV 0), (.string ⟨((mkS [])).b.toArray⟩), (.slice none 0 0)] 24, blk aO [(nV 13), (nV 0), (.string ⟨(aD.1.text).b.toArray⟩), (.slice aI aA.2.2.length aJ)] 24, ow [(.slice aI aA.2.2.length aJ)] aA.2.2]) [0, 1] [2, 3, 4] (by decide) rfl rfl
        refine gCg rfl call129 (pimpl_wordReader__want_ok _ bS (⟨aN.1, aN.2.1⟩ : wordReader) bp0 aP 3 (mkS [44]) hm1 ) ?_
        rintro dA dB aY w ⟨bd, rfl, hB⟩
        replace hm := bT _ _ hB; clear hB
        exact gE (gZ fun a hf => ⟨bd, hf.sb rfl, hm.pk [0, 1, 2, 3, 4] rfl rfl⟩)
       exact gcf rfl (gSk (gZ fun a hf => ⟨aP, hf.sb rfl, hm.pk [0, 1, 2, 3, 4] rfl rfl⟩))
      repeat clear hm
      rintro aR a w ⟨ah, hf, hm⟩
      refine gv hf (gW (.p 0 (.p 2 (.q 1 (.e 3 (.e 4 (.e 5 (.p 6 (.e 7 .fin .nil)) .nil) .nil) .nil)))) [3, 4] [0, 2, 6] hm [2, 3, 4] [blk aC [(nV 0), (nV 0), (.string ⟨((mkS [])).b.toArray⟩), (.slice none 0 0)] 24, blk aO [(nV 13), (nV 0), (.string ⟨(aD.1.text).b.toArray⟩), (.slice aI aA.2.2.length aJ)] 24, ow [(.slice aI aA.2.2.length aJ)] aA.2.2] rfl mxo (by kernel_rfl) (fun _ _ _ h => h.2) fun w hm hS => tP rfl (fun w => yF fo_24_3 rfl) (tP rfl (fun w => yM rfl) (tQ rfl hS (fun w hm => yL hm 1 isAgg22 rfl) (tO (gb fun aH b9 => ?_)))))
      obtain ⟨bO, hle, hm1, hsub, bP⟩ := hm.take2 (L1 := [blk bp0 [ah, (.bool (aR.2))] 63, ow [ah] aR.1]) (L2 := [blk aC [(nV 0), (nV 0), (.string ⟨((mkS [])).b.toArray⟩), (.slice none 0 0)] 24, blk aO [(nV 13), (nV 0), (.string ⟨(aD.1.text).b.toArray⟩), (.slice aI aA.2.2.length aJ)] 24, ow [(.slice aI aA.2.2.length aJ)] aA.2.2]) [0, 1] [2, 3, 4] (by decide) rfl rfl
      refine tf rfl rfl (fun a hf => e_call hf rfl call46 rfl (pimpl_wordReader__expr_rec _ bO (⟨aR.1, aR.2⟩ : wordReader) bp0 ah 1 hm1 (GT.mono hle hG0) _ b9)) ?_
      rintro ab w ⟨aZ, aS, rfl, hB⟩
      replace hm := bP _ _ hB; clear hB
      refine tAk hm [3, 4, 5] rfl fun hS => tO (tf rfl rfl (fun a hf => e_build (vs := #[(0, (.agg #[(nV aH.1.op), (nV aH.1.n_), (.string ⟨(aH.1.name).b.toArray⟩), aZ]))]) (cs := [(nV aH.1.op), (nV aH.1.n_), (.string ⟨(aH.1.name).b.toArray⟩), aZ]) et_22 hf hm rfl rfl (by kernel_rfl) rfl rfl) ?_)
      rintro _ w ⟨aQ, rfl, hm⟩
      replace hm := hm.els_nil (α := Expr_)
      replace hm : Mem w0 hz _ [els [] ([] : List Expr_), blk aQ [(nV aH.1.op), (nV aH.1.n_), (.string ⟨(aH.1.name).b.toArray⟩), aZ] 24, blk bp0 [aS, (.bool (aH.2.bad))] 63, ow [(nV aH.1.op), (nV aH.1.n_), (.string ⟨(aH.1.name).b.toArray⟩), aZ] (aH.1 : Expr_), ow [aS] aH.2.list, blk aC [(nV 0), (nV 0), (.string ⟨((mkS [])).b.toArray⟩), (.slice none 0 0)] 24, blk aO [(nV 13), (nV 0), (.string ⟨(aD.1.text).b.toArray⟩), (.slice aI aA.2.2.length aJ)] 24, ow [(.slice aI aA.2.2.length aJ)] aA.2.2] := mkx_Expr_ aH.1 hm 3 rfl
      replace hm := (hm.els_cons 0 3 (by decide) rfl rfl).pk (L' := [els [(nV aH.1.op), (nV aH.1.n_), (.string ⟨(aH.1.name).b.toArray⟩), aZ] ([aH.1] : List Expr_), blk aQ [(nV aH.1.op), (nV aH.1.n_), (.string ⟨(aH.1.name).b.toArray⟩), aZ] 24, blk bp0 [aS, (.bool (aH.2.bad))] 63, ow [aS] aH.2.list, blk aC [(nV 0), (nV 0), (.string ⟨((mkS [])).b.toArray⟩), (.slice none 0 0)] 24, blk aO [(nV 13), (nV 0), (.string ⟨(aD.1.text).b.toArray⟩), (.slice aI aA.2.2.length aJ)] 24, ow [(.slice aI aA.2.2.length aJ)] aA.2.2]) [0, 1, 2, 4, 5, 6, 7] rfl rfl
      replace hm := (hm.lit_els 1 0 (by decide) rfl rfl rfl rfl).pk (L' := [ow [(sV aQ 0 1 1)] ([aH.1] : List Expr_), blk bp0 [aS, (.bool (aH.2.bad))] 63, ow [aS] aH.2.list, blk aC [(nV 0), (nV 0), (.string ⟨((mkS [])).b.toArray⟩), (.slice none 0 0)] 24, blk aO [(nV 13), (nV 0), (.string ⟨(aD.1.text).b.toArray⟩), (.slice aI aA.2.2.length aJ)] 24, ow [(.slice aI aA.2.2.length aJ)] aA.2.2]) [1, 2, 3, 4, 5, 6] rfl rfl
      refine tAk hm [3, 4, 5] rfl fun hS => tO (gb fun dC cW => ?_)
      obtain ⟨bN, cX⟩ := appM_some.1 cW
      replace hm := (hm.both 5 0 (by decide) rfl rfl).pk (L' := [blk bp0 [aS, (.bool (aH.2.bad))] 63, ow [aS] aH.2.list, blk aC [(nV 0), (nV 0), (.string ⟨((mkS [])).b.toArray⟩), (.slice none 0 0)] 24, blk aO [(nV 13), (nV 0), (.string ⟨(aD.1.text).b.toArray⟩), (.slice aI aA.2.2.length aJ)] 24, both (ow [(.slice aI aA.2.2.length aJ)] aA.2.2) (ow [(sV aQ 0 1 1)] ([aH.1] : List Expr_))]) [1, 2, 3, 4, 5] rfl rfl
      refine tf rfl rfl (fun a hf => e_appendD (xs := aA.2.2) (ys := ([aH.1] : List Expr_)) 4 et_22 hf hm rfl rfl rfl rfl bN) ?_
      rintro cY w hm
      rw [cX] at hm
      refine tAn rfl (tP rfl (fun w => yF fo_24_3 rfl) (tO (tf0 rfl rfl (fun a hf => e_store1 3 hf hm rfl sizeOf22 rfl rfl rfl (rep_one (hm.ow_rep 4 rfl)) rfl) ?_)))
      rintro _ w hm
      exact tAn rfl (tE (gZe fun a hf => ⟨aS, cY, hf.sb rfl, hm.pk [0, 1, 2, 3, 4] rfl rfl⟩))
     exact gcf rfl (gXt (gHh (gLp au ar (gZ fun a hf => ⟨aU, aP, hf.sb rfl, hm.pk [2, 3, 4, 0, 1] rfl rfl⟩))))
    repeat clear hm
    rintro aT a w ⟨bA, bB, hf, hm⟩
    exact gv hf (gS (gR (gY (yn (hm.blk_at 1 rfl) isAgg24 sizeOf24 rfl) (gSN hm 0 sizeOf24 (one_cons rfl (one_cons rfl (one_cons rfl (one_cons (rep_one (hm.ow_rep 2 rfl)) one_nil)))) rfl fun w hm => gE (gRt (grc 0 results104 hm rfl isAgg24 sizeOf24 ⟨bA, bB, rfl, hm.pk [3, 2, 4] rfl rfl⟩))))))
theorem pimpl_wordReader__expr_ok (w0 : World) (hz : Heap) (r_ : wordReader) (bp0 : Nat) (v1p : Value) (level : Int) (hm0 : Mem w0 hz w0 [blk bp0 [v1p, (.bool (r_.bad))] 63, ow [v1p] r_.list]) (hG0 : GT.rep hz [.slice (some ⟨0, 0, none⟩) 1 1] [glob_impl_opSign]) (r : Expr_ × wordReader) (hq : pimpl_wordReader__expr r_ level = some r) : Con Tryz.prog 46 [(pV bp0), (nV level)] w0 (fun v w' => ∃ (x1 : Value) (x2 : Value), v = (.agg #[(nV r.1.op), (nV r.1.n_), (.string ⟨(r.1.name).b.toArray⟩), x1]) ∧ Mem w0 hz w' [blk bp0 [x2, (.bool (r.2.bad))] 63, ow [x1] r.1.kids, ow [x2] r.2.list]) := (pimpl_wordReader__expr_all ).1 r_ level r hq w0 hz bp0 v1p hm0 hG0
theorem impl_ReadExpr_ok (w0 : World) (s_ : Str) (hG0 : GT.rep (hp w0) [.slice (some ⟨0, 0, none⟩) 1 1] [glob_impl_opSign]) (hG1 : GT.rep (hp w0) [.slice (some ⟨1, 0, none⟩) 9 9] glob_impl_keys) :
    ConM Tryz.prog 14 [(.string ⟨(s_).b.toArray⟩)] w0 (impl_ReadExpr s_) fun r v w' => ∃ (x1 : Value), v = (.tuple #[(.agg #[(nV r.1.op), (nV r.1.n_), (.string ⟨(r.1.name).b.toArray⟩), x1]), (.bool (r.2))]) ∧ Mem w0 (hp w0) w' [ow [x1] r.1.kids] := by
  unfold impl_ReadExpr
  refine gcon func14 rfl fun r => ?_
  have hm := Mem.start w0
  refine gS (gR (gAl hm zeroValue24 rfl fun aG w hm => gA rfl (gE (gS (gR (gM rfl (gCg rfl call29 (impl_CutWords_ok _ s_ (hm.now hG1)) ?_)))))))
  rintro aA aO aP w ⟨aQ, rfl, hB⟩
  replace hm := hm.give hB; clear hB
  refine gM rfl (gX rfl (gX rfl (gA rfl (gA rfl (gE (gS (gR (gM rfl (gM rfl (gN rfl ?_))))))))))
  obtain ⟨aB, aC, rfl, aR⟩ := ro_slice (hm.ow_rep 0 rfl)
  refine gY (yG rfl (y_build (vs := [(0, (.slice aB aA.1.length aC)), (1, (.bool (!(aA.2))))]) (cs := #[(.slice aB aA.1.length aC), (.bool (!(aA.2)))]) rfl rfl (by kernel_rfl))) (gBx hm rfl fun aH w hm => gA rfl (gE (gS (gR (gM rfl ?_)))))
  obtain ⟨aJ, hle, hm1, hsub, aK⟩ := hm.take2 (L1 := [blk aH [(.slice aB aA.1.length aC), (.bool (!(aA.2)))] 63, ow [(.slice aB aA.1.length aC)] aA.1]) (L2 := [blk aG [(nV 0), (nV 0), (.string ⟨((mkS [])).b.toArray⟩), (.slice none 0 0)] 24]) [0, 1] [2] (by decide) rfl rfl
  refine gCg rfl call46 (pimpl_wordReader__expr_ok _ aJ (⟨aA.1, !(aA.2)⟩ : wordReader) aH (.slice aB aA.1.length aC) 1 hm1 (GT.mono hle hG0)) ?_
  rintro aD aS aT w ⟨aE, aU, rfl, hB⟩
  replace hm := aK _ _ hB; clear hB
  refine gAl hm zeroValue24 rfl fun aI w hm => gSN hm 0 sizeOf24 (one_cons rfl (one_cons rfl (one_cons rfl (one_cons (rep_one (hm.ow_rep 2 rfl)) one_nil)))) rfl fun w hm => gE (gS (gS (gJ hm (fun aF => [(2, (pV aG)), (7, (pV aI)), (36, (.bool (aF)))]) (fun aF => [blk aG [(nV 0), (nV 0), (.string ⟨((mkS [])).b.toArray⟩), (.slice none 0 0)] 24, blk aI [(nV aD.1.op), (nV aD.1.n_), (.string ⟨(aD.1.name).b.toArray⟩), aE] 24, ow [aE] aD.1.kids]) (fun aF => ?_) ?_)))
  ·
   refine gR (gM rfl (gY (yG rfl (y_nilptr rfl rfl)) (gF fo_63_1 rfl (gL hm 1 isAgg4 rfl (gM rfl (gs 24 rfl (fun aL => ?_) fun aL => ?_))))))
   ·
    exact gO rfl (gO rfl (gO rfl (gO rfl (gO rfl (gO rfl (gKt rfl (gM rfl (gO rfl (gO rfl (gO rfl (gKt rfl (gE (gz hm [4, 0, 2] rfl)))))))))))))
   refine gM rfl (gY (yG rfl (y_nilptr rfl rfl)) (gF fo_63_0 rfl (gL hm 1 isAgg41 rfl ?_)))
   obtain ⟨aV, aX, rfl, aY⟩ := ro_slice (hm.ow_rep 3 rfl)
   refine gY (yV st_41 rfl) (gB rfl (gKf rfl (gM rfl (gsd 32 rfl (fun aM => ?_) fun aM => ?_))))
   ·
    exact gO rfl (gO rfl (gO rfl (gKt rfl (gE (gz hm [4, 0, 2] rfl)))))
   exact gY (yn (hm.blk_at 0 rfl) isAgg24 sizeOf24 rfl) (gC hm rfl call21 (impl_ExprValid_ok _ aD.1 aE (hm.ow_rep 2 rfl) (hm.now hG0) (hm.now hG1)) fun aZ a8 w hm => gN rfl (gKf rfl (gE (gz hm [4, 0, 2] rfl))))
  repeat clear hm
  intro aF w hm
  refine gs 36 rfl (fun aN => ?_) fun aN => ?_
  ·
   refine gct rfl (gS (gR (gY (yG rfl (y_build (vs := []) (cs := #[(nV 0), (nV 0), (.string ⟨((mkS [])).b.toArray⟩), (.slice none 0 0)]) rfl rfl (by kernel_rfl))) (gSN hm 0 sizeOf24 (one_cons rfl (one_cons rfl (one_cons rfl (one_cons rfl one_nil)))) rfl fun w hm => gA rfl (gE (gRt ?_))))))
   replace hm := hm.nilow (α := Expr_)
   exact grct 1 results14 hm rfl isAgg24 sizeOf24 ⟨(.slice none 0 0), rfl, hm.pk [0] rfl rfl⟩
  exact gcf rfl (gSk (gS (gR (gY (yn (hm.blk_at 1 rfl) isAgg24 sizeOf24 rfl) (gSN hm 0 sizeOf24 (one_cons rfl (one_cons rfl (one_cons rfl (one_cons (rep_one (hm.ow_rep 2 rfl)) one_nil)))) rfl fun w hm => gA rfl (gE (gRt (grct 0 results14 hm rfl isAgg24 sizeOf24 ⟨aE, rfl, hm.pk [2] rfl rfl⟩))))))))
theorem impl_ExprParts_ok (w0 : World) (e : Expr_) (v1 : Value) (h1 : GT.rep (hp w0) [v1] e.kids) (hG0 : GT.rep (hp w0) [.slice (some ⟨0, 0, none⟩) 1 1] [glob_impl_opSign]) (hG1 : GT.rep (hp w0) [.slice (some ⟨1, 0, none⟩) 9 9] glob_impl_keys) :
    ConM Tryz.prog 24 [(.agg #[(nV e.op), (nV e.n_), (.string ⟨(e.name).b.toArray⟩), v1])] w0 (impl_ExprParts e) fun r v w' => v = (nV r) ∧ Below w0.heap.size w0 w' := by
  unfold impl_ExprParts
  refine gcon func24 rfl fun r => ?_
  have hm := Mem.start w0
  refine gS (gR (gBx hm rfl fun aB w hm => gA rfl (gE (gS (gR (gY (yn (hm.blk_at 0 rfl) isAgg24 sizeOf24 rfl) (gC hm rfl call57 (impl_exprSize_ok _ e v1 (hm.now h1) 6 (hm.now hG0) (hm.now hG1)) fun aC aD w hm => gM rfl (gX rfl (gX rfl (gX rfl (gA rfl (gA rfl (gA rfl (gE (gS (gS (gR (gM rfl (gN rfl (gE (gsn 13 rfl (fun aA => ?_) fun aA => ?_)))))))))))))))))))))
  ·
   exact gct rfl (gS (gR (gA rfl (gE (gRt (gr1 results24 rfl ⟨rfl, hm.below⟩))))))
  exact gcf rfl (gSk (gS (gR (gM rfl (gA rfl (gE (gRt (gr1 results24 rfl ⟨rfl, hm.below⟩))))))))
theorem laws_FnOpsBind_ok (w0 : World) (code : List UInt8) (v1 : Value) (h1 : GT.rep (hp w0) [v1] code) (hG0 : GT.rep (hp w0) [.slice (some ⟨0, 0, none⟩) 1 1] [glob_impl_opSign]) (hG1 : GT.rep (hp w0) [.slice (some ⟨1, 0, none⟩) 9 9] glob_impl_keys) (hG4 : GT.rep (hp w0) [.pointer (some ⟨4, 0, none⟩)] glob_strconv_uint64pow10) :
    ConM Tryz.prog 4 [v1] w0 (laws_FnOpsBind code) fun r v w' => v = (.bool (r)) ∧ Below w0.heap.size w0 w' := by
  unfold laws_FnOpsBind
  refine gcon func4 rfl fun r => ?_
  have hm := Mem.start w0
  refine gS (gR (gA rfl (gE (gS (gS (gR (gM rfl ?_)))))))
  obtain ⟨ai, aj, rfl, bl⟩ := ro_slice h1
  refine gY (yV st_30 rfl) (gB rfl (gE (gsd 19 rfl (fun ak => ?_) fun ak => ?_)))
  ·
   exact gct rfl (gS (gR (gA rfl (gE (gRt (gr1 results4 rfl ⟨rfl, hm.below⟩))))))
  refine gcf rfl (gSk (gS (gR (gM rfl (gCg rfl call18 (spec_DrawSameExpr_ok _ code (.slice ai code.length aj) (hm.now h1)) ?_)))))
  rintro aA bm bo w ⟨aF, aG, rfl, hB⟩
  replace hm := hm.give hB; clear hB
  refine gM rfl (gX rfl (gX rfl (gAl hm zeroValue24 rfl fun aH w hm => gAl hm zeroValue24 rfl fun aI w hm => ?_)))
  obtain ⟨al, aE, hz_r0_1, hmf⟩ := hm.freeze 2 rfl
  replace hm := hmf.pk (L' := [blk aI [(nV 0), (nV 0), (.string ⟨((mkS [])).b.toArray⟩), (.slice none 0 0)] 24, blk aH [(nV 0), (nV 0), (.string ⟨((mkS [])).b.toArray⟩), (.slice none 0 0)] 24, ow [aG] aA.2.kids]) [0, 1, 3] rfl rfl
  clear hmf
  replace hz_r0_1 : GT.rep al [aF] aA.1.kids := fz_ow hz_r0_1
  refine gSN hm 1 sizeOf24 (one_cons rfl (one_cons rfl (one_cons rfl (one_cons (rep_one hz_r0_1) one_nil)))) rfl fun w hm => ?_
  obtain ⟨aV, aB, hz_r0_2, hmf⟩ := hm.freeze 2 rfl
  replace hm := hmf.pk (L' := [blk aI [(nV 0), (nV 0), (.string ⟨((mkS [])).b.toArray⟩), (.slice none 0 0)] 24, blk aH [(nV aA.1.op), (nV aA.1.n_), (.string ⟨(aA.1.name).b.toArray⟩), aF] 24]) [0, 1] rfl rfl
  clear hmf
  replace hz_r0_2 : GT.rep aV [aG] aA.2.kids := fz_ow hz_r0_2
  refine gSN hm 0 sizeOf24 (one_cons rfl (one_cons rfl (one_cons rfl (one_cons (rep_one hz_r0_2) one_nil)))) rfl fun w hm => gE (gS (gS (gJ hm (fun aP => [(3, (pV aH)), (4, (pV aI)), (45, (.bool (aP)))]) (fun aP => [blk aH [(nV aA.1.op), (nV aA.1.n_), (.string ⟨(aA.1.name).b.toArray⟩), aF] 24, blk aI [(nV aA.2.op), (nV aA.2.n_), (.string ⟨(aA.2.name).b.toArray⟩), aG] 24]) (fun aP => ?_) ?_)))
  ·
   refine gW (.q 0 (.q 1 (.q 3 (.q 4 (.e 2 (.e 5 (.p 6 (.p 7 (.q 8 (.q 10 (.e 9 (.e 11 (.p 12 (.p 13 (.p 14 (.q 15 (.q 17 (.e 16 (.e 18 (.p 19 (.p 20 .fin)) .nil) .nil)))))) .nil) .nil))))) .nil) .nil))))) [0, 1, 2, 3, 4, 8, 9, 10, 15, 16, 17] [6, 7, 12, 13, 14, 19, 20] hm [0, 1] [blk aI [(nV aA.2.op), (nV aA.2.n_), (.string ⟨(aA.2.name).b.toArray⟩), aG] 24, blk aH [(nV aA.1.op), (nV aA.1.n_), (.string ⟨(aA.1.name).b.toArray⟩), aF] 24] rfl mxo (by kernel_rfl) (fun _ _ _ h => h.2) fun w hm hS => tQ rfl hS (fun w hm => yn (hm.blk_at 1 rfl) isAgg24 sizeOf24 rfl) (tQ rfl hS (fun w hm => yn (hm.blk_at 0 rfl) isAgg24 sizeOf24 rfl) (tQ rfl hS (fun w hm => yn (hm.blk_at 1 rfl) isAgg24 sizeOf24 rfl) (tQ rfl hS (fun w hm => yn (hm.blk_at 0 rfl) isAgg24 sizeOf24 rfl) (tO (gb fun bp am => tf rfl rfl (fun a hf => e_call hf rfl call19 rfl (impl_SameExpr_ok _ aA.1 aF (hm.now (GT.mono aB hz_r0_1)) aA.2 aG (hm.now hz_r0_2) _ am)) ?_)))))
   rintro bq w ⟨rfl, hB⟩
   replace hm := hm.below' hB; clear hB
   refine tAk hm [0, 1] rfl fun hS => tO (gb fun br an => tf rfl rfl (fun a hf => e_call hf rfl call20 rfl (spec_SameExpr_ok _ aA.1 aF (hm.now (GT.mono aB hz_r0_1)) aA.2 aG (hm.now hz_r0_2) _ an)) ?_)
   rintro bs w ⟨rfl, hB⟩
   replace hm := hm.below' hB; clear hB
   refine tAk hm [0, 1] rfl fun hS => tP rfl (fun w => yG rfl (y_neqb underlying4 rfl rfl rfl)) (tP rfl (fun w => yM rfl) (gsd 32 rfl (fun ao => ?_) fun ao => ?_))
   ·
    exact tQo rfl hS rfl (tQo rfl hS rfl (tO (tEo rfl rfl (tAs hS (tO (tEo rfl rfl (tAn rfl (tPo rfl rfl (tP rfl (fun w => yKt rfl) (tP rfl (fun w => yM rfl) (tQo rfl hS rfl (tQo rfl hS rfl (tO (tEo rfl rfl (tAs hS (tO (tEo rfl rfl (tAn rfl (tPo rfl rfl (tP rfl (fun w => yKt rfl) (tE (gz hm [1, 0] rfl))))))))))))))))))))))
   refine tQ rfl hS (fun w hm => yn (hm.blk_at 1 rfl) isAgg24 sizeOf24 rfl) (tQ rfl hS (fun w hm => yn (hm.blk_at 1 rfl) isAgg24 sizeOf24 rfl) (tO (gb fun bt aq => tf rfl rfl (fun a hf => e_call hf rfl call21 rfl (impl_ExprValid_ok _ aA.1 aF (hm.now (GT.mono aB hz_r0_1)) (hm.now (GT.mono (Heap.le_trans aE aB) hG0)) (hm.now (GT.mono (Heap.le_trans aE aB) hG1)) _ aq)) ?_)))
   rintro bu w ⟨rfl, hB⟩
   replace hm := hm.below' hB; clear hB
   refine tAk hm [0, 1] rfl fun hS => tO (gb fun bv ar => tf rfl rfl (fun a hf => e_call hf rfl call22 rfl (spec_ExprValid_ok _ aA.1 aF (hm.now (GT.mono aB hz_r0_1)) _ ar)) ?_)
   rintro bw w ⟨rfl, hB⟩
   replace hm := hm.below' hB; clear hB
   refine tAk hm [0, 1] rfl fun hS => tP rfl (fun w => yG rfl (y_neqb underlying4 rfl rfl rfl)) (tP rfl (fun w => yKf rfl) (tP rfl (fun w => yM rfl) (gsd 39 rfl (fun au => ?_) fun au => ?_)))
   ·
    exact tQo rfl hS rfl (tQo rfl hS rfl (tO (tEo rfl rfl (tAs hS (tO (tEo rfl rfl (tAn rfl (tPo rfl rfl (tP rfl (fun w => yKt rfl) (tE (gz hm [1, 0] rfl)))))))))))
   refine tQ rfl hS (fun w hm => yn (hm.blk_at 0 rfl) isAgg24 sizeOf24 rfl) (tQ rfl hS (fun w hm => yn (hm.blk_at 0 rfl) isAgg24 sizeOf24 rfl) (tO (gb fun bz av => tf rfl rfl (fun a hf => e_call hf rfl call21 rfl (impl_ExprValid_ok _ aA.2 aG (hm.now hz_r0_2) (hm.now (GT.mono (Heap.le_trans aE aB) hG0)) (hm.now (GT.mono (Heap.le_trans aE aB) hG1)) _ av)) ?_)))
   rintro cA w ⟨rfl, hB⟩
   replace hm := hm.below' hB; clear hB
   refine tAk hm [0, 1] rfl fun hS => tO (gb fun cB aw => tf rfl rfl (fun a hf => e_call hf rfl call22 rfl (spec_ExprValid_ok _ aA.2 aG (hm.now hz_r0_2) _ aw)) ?_)
   rintro cC w ⟨rfl, hB⟩
   replace hm := hm.below' hB; clear hB
   exact tAn rfl (tP rfl (fun w => yG rfl (y_neqb underlying4 rfl rfl rfl)) (tP rfl (fun w => yKf rfl) (tE (gz hm [1, 0] rfl))))
  repeat clear hm
  intro aP w hm
  refine gs 45 rfl (fun ax => ?_) fun ax => ?_
  ·
   refine gct rfl (gS (gR (gA rfl (gE (gRt ?_)))))
   replace hm := hm.thaw (Heap.le_trans aE aB)
   exact gr1 results4 rfl ⟨rfl, hm.below⟩
  refine gcf rfl (gSk (gS (gS (gR (gA rfl (gE (gBk (gNg (fun aL ay a w => ∃ (aQ : Heap), Heap.le aV aQ ∧ St 124 [(3, (pV aH)), (4, (pV aI)), (5, (nV aL))] w0 aQ [blk aH [(nV aA.1.op), (nV aA.1.n_), (.string ⟨(aA.1.name).b.toArray⟩), aF] 24, blk aI [(nV aA.2.op), (nV aA.2.n_), (.string ⟨(aA.2.name).b.toArray⟩), aG] 24] a w) (fun a hf => ⟨aV, (Heap.le_refl _), hf.sb rfl, hm.pk [0, 1] rfl rfl⟩) ?_ ?_))))))))
  ·
   repeat clear hm
   rintro cD az aL ay a w ⟨aQ, aC, hf, hm⟩ cE cF cG bA
   refine gv hf (gS (gS (gR (gM rfl (gB rfl (gE (go _ 47 rfl (decide_eq_true (by omega)) (gct rfl (gSk (gS (gJge (fun bB a w => ∃ (aR : Heap), Heap.le aQ aR ∧ St 124 [(3, (pV aH)), (4, (pV aI)), (5, (nV aL))] w0 aR [blk aH [(nV aA.1.op), (nV aA.1.n_), (.string ⟨(aA.1.name).b.toArray⟩), aF] 24, blk aI [(nV aA.2.op), (nV aA.2.n_), (.string ⟨(aA.2.name).b.toArray⟩), aG] 24] a w) (fun cH bC => ?_) ?_)))))))))))
   ·
    refine gBk (gS (gR (gM rfl (gY (yn (hm.blk_at 0 rfl) isAgg24 sizeOf24 rfl) (gY (yn (hm.blk_at 1 rfl) isAgg24 sizeOf24 rfl) (gf rfl (fun a hf => e_build (vs := #[(0, (.agg #[(nV aA.1.op), (nV aA.1.n_), (.string ⟨(aA.1.name).b.toArray⟩), aF])), (1, (.agg #[(nV aA.2.op), (nV aA.2.n_), (.string ⟨(aA.2.name).b.toArray⟩), aG]))]) (cs := [(nV aA.1.op), (nV aA.1.n_), (.string ⟨(aA.1.name).b.toArray⟩), aF, (nV aA.2.op), (nV aA.2.n_), (.string ⟨(aA.2.name).b.toArray⟩), aG]) et_22 hf hm rfl rfl (by kernel_rfl) rfl rfl) ?_))))))
    rintro _ w ⟨aM, rfl, hm⟩
    replace hm := hm.litSh (α := Expr_) (xs := [aA.1, aA.2]) 0 rfl (.cons (c := [(nV aA.1.op), (nV aA.1.n_), (.string ⟨(aA.1.name).b.toArray⟩), aF]) (x := (aA.1 : Expr_)) (rep_Expr_.2 ⟨[(nV aA.1.op)], [(nV aA.1.n_), (.string ⟨(aA.1.name).b.toArray⟩), aF], rfl, (Flat.rep_iff.2 rfl), ⟨[(nV aA.1.n_)], [(.string ⟨(aA.1.name).b.toArray⟩), aF], rfl, (Flat.rep_iff.2 rfl), ⟨[(.string ⟨(aA.1.name).b.toArray⟩)], [aF], rfl, (Flat.rep_iff.2 rfl), (GT.mono (Heap.le_trans aB aC) hz_r0_1)⟩⟩⟩) (.cons (c := [(nV aA.2.op), (nV aA.2.n_), (.string ⟨(aA.2.name).b.toArray⟩), aG]) (x := (aA.2 : Expr_)) (rep_Expr_.2 ⟨[(nV aA.2.op)], [(nV aA.2.n_), (.string ⟨(aA.2.name).b.toArray⟩), aG], rfl, (Flat.rep_iff.2 rfl), ⟨[(nV aA.2.n_)], [(.string ⟨(aA.2.name).b.toArray⟩), aG], rfl, (Flat.rep_iff.2 rfl), ⟨[(.string ⟨(aA.2.name).b.toArray⟩)], [aG], rfl, (Flat.rep_iff.2 rfl), (GT.mono aC hz_r0_2)⟩⟩⟩) .nil)) rfl rfl
    refine gY (yG rfl (y_build (vs := [(0, (nV aL)), (3, (sV aM 0 2 2))]) (cs := #[(nV aL), (nV 0), (.string ⟨((mkS [])).b.toArray⟩), (sV aM 0 2 2)]) rfl rfl (by kernel_rfl))) (gAl hm zeroValue24 rfl fun aS w hm => ?_)
    obtain ⟨aZ, aD, hz_r2_1, hmf⟩ := hm.freeze 1 rfl
    replace hm := hmf.pk (L' := [blk aS [(nV 0), (nV 0), (.string ⟨((mkS [])).b.toArray⟩), (.slice none 0 0)] 24, blk aH [(nV aA.1.op), (nV aA.1.n_), (.string ⟨(aA.1.name).b.toArray⟩), aF] 24, blk aI [(nV aA.2.op), (nV aA.2.n_), (.string ⟨(aA.2.name).b.toArray⟩), aG] 24]) [0, 2, 3] rfl rfl
    clear hmf
    replace hz_r2_1 : GT.rep aZ [(sV aM 0 2 2)] ([aA.1, aA.2] : List Expr_) := sh_read aD (fz_ow hz_r2_1)
    refine gSN hm 0 sizeOf24 (one_cons rfl (one_cons rfl (one_cons rfl (one_cons rfl one_nil)))) rfl fun w hm => gE (gS (gR (gY (yn (hm.blk_at 0 rfl) isAgg24 sizeOf24 rfl) (gC hm rfl call23 (impl_ExprText_ok _ (⟨aL, 0, (mkS []), ([aA.1, aA.2] : List Expr_)⟩ : Expr_) (sV aM 0 2 2) (hm.now hz_r2_1) (hm.now (GT.mono (Heap.le_trans (Heap.le_trans (Heap.le_trans aE aB) aC) aD) hG0)) (hm.now (GT.mono (Heap.le_trans (Heap.le_trans (Heap.le_trans aE aB) aC) aD) hG1)) (hm.now (GT.mono (Heap.le_trans (Heap.le_trans (Heap.le_trans aE aB) aC) aD) hG4))) fun bD cI w hm => gM rfl (gX rfl (gX rfl (gA rfl (gA rfl (gE (gS (gS (gR (gM rfl (gN rfl (gE (gsn 61 rfl (fun bE => ?_) fun bE => ?_))))))))))))))))
    ·
     exact gct rfl (gXt (gHh (gZe fun a hf => ⟨aZ, aD, hf.sb rfl, hm.pk [1, 2] rfl rfl⟩)))
    refine gcf rfl (gSk (gS (gR (gY (yn (hm.blk_at 1 rfl) isAgg24 sizeOf24 rfl) (gC hm rfl call23 (impl_ExprText_ok _ aA.1 aF (hm.now (GT.mono (Heap.le_trans (Heap.le_trans aB aC) aD) hz_r0_1)) (hm.now (GT.mono (Heap.le_trans (Heap.le_trans (Heap.le_trans aE aB) aC) aD) hG0)) (hm.now (GT.mono (Heap.le_trans (Heap.le_trans (Heap.le_trans aE aB) aC) aD) hG1)) (hm.now (GT.mono (Heap.le_trans (Heap.le_trans (Heap.le_trans aE aB) aC) aD) hG4))) fun bF cJ w hm => gM rfl (gX rfl (gX rfl (gA rfl (gA rfl (gE (gS (gR (gY (yn (hm.blk_at 2 rfl) isAgg24 sizeOf24 rfl) (gC hm rfl call23 (impl_ExprText_ok _ aA.2 aG (hm.now (GT.mono (Heap.le_trans aC aD) hz_r0_2)) (hm.now (GT.mono (Heap.le_trans (Heap.le_trans (Heap.le_trans aE aB) aC) aD) hG0)) (hm.now (GT.mono (Heap.le_trans (Heap.le_trans (Heap.le_trans aE aB) aC) aD) hG1)) (hm.now (GT.mono (Heap.le_trans (Heap.le_trans (Heap.le_trans aE aB) aC) aD) hG4))) fun bG cK w hm => gM rfl (gX rfl (gX rfl (gA rfl (gA rfl (gE (gS (gR (gM rfl (gCg rfl call14 (impl_ReadExpr_ok _ bD.1 (hm.now (GT.mono (Heap.le_trans (Heap.le_trans (Heap.le_trans aE aB) aC) aD) hG0)) (hm.now (GT.mono (Heap.le_trans (Heap.le_trans (Heap.le_trans aE aB) aC) aD) hG1))) ?_)))))))))))))))))))))))
    rintro aN cL cN w ⟨aT, rfl, hB⟩
    replace hm := hm.give hB; clear hB
    refine gM rfl (gX rfl (gX rfl (gAl hm zeroValue24 rfl fun aX w hm => ?_)))
    obtain ⟨bH, aJ, hz_r2_2, hmf⟩ := hm.freeze 1 rfl
    replace hm := hmf.pk (L' := [blk aX [(nV 0), (nV 0), (.string ⟨((mkS [])).b.toArray⟩), (.slice none 0 0)] 24, blk aS [(nV aL), (nV 0), (.string ⟨((mkS [])).b.toArray⟩), (sV aM 0 2 2)] 24, blk aH [(nV aA.1.op), (nV aA.1.n_), (.string ⟨(aA.1.name).b.toArray⟩), aF] 24, blk aI [(nV aA.2.op), (nV aA.2.n_), (.string ⟨(aA.2.name).b.toArray⟩), aG] 24]) [0, 2, 3, 4] rfl rfl
    clear hmf
    replace hz_r2_2 : GT.rep bH [aT] aN.1.kids := fz_ow hz_r2_2
    refine gSN hm 0 sizeOf24 (one_cons rfl (one_cons rfl (one_cons rfl (one_cons (rep_one hz_r2_2) one_nil)))) rfl fun w hm => gA rfl (gE (gS (gR (gM rfl (gb fun a8 bJ => ?_)))))
    have bK := catS_some.1 bJ
    refine gY (yG rfl (y_adds (p := (mkS [40])) (q := bF.1) (u := a8) rfl rfl rfl bK)) (gb fun aa bL => ?_)
    have bM := catS_some.1 bL
    refine gY (yG rfl (y_adds (p := a8) (q := (mkS [41])) (u := aa) rfl rfl rfl bM)) (gM rfl (gY (yS (by omega) (by omega) rfl) (gM rfl (gY (yS (by omega) (by omega) rfl) (gP (by omega) (by omega) rfl (gb fun bN bO => ?_))))))
    obtain ⟨bP, bQ⟩ := subS_some.1 bO
    refine gY (yG rfl (y_subs (s := (mkS [43, 45, 42, 47, 37, 60, 61, 38])) underlying9 rfl rfl rfl rfl bP _)) ?_
    rw [bQ]
    refine gb fun ab bR => ?_
    have bS := catS_some.1 bR
    refine gY (yG rfl (y_adds (p := aa) (q := bN) (u := ab) rfl rfl rfl bS)) (gb fun ac bT => ?_)
    have bU := catS_some.1 bT
    refine gY (yG rfl (y_adds (p := ab) (q := (mkS [40])) (u := ac) rfl rfl rfl bU)) (gM rfl (gb fun ae bV => ?_))
    have bW := catS_some.1 bV
    refine gY (yG rfl (y_adds (p := ac) (q := bG.1) (u := ae) rfl rfl rfl bW)) (gb fun af bX => ?_)
    have bY := catS_some.1 bX
    refine gY (yG rfl (y_adds (p := ae) (q := (mkS [41])) (u := af) rfl rfl rfl bY)) (gCg rfl call14 (impl_ReadExpr_ok _ af (hm.now (GT.mono (Heap.le_trans (Heap.le_trans (Heap.le_trans (Heap.le_trans aE aB) aC) aD) aJ) hG0)) (hm.now (GT.mono (Heap.le_trans (Heap.le_trans (Heap.le_trans (Heap.le_trans aE aB) aC) aD) aJ) hG1))) ?_)
    rintro aO cO cP w ⟨aY, rfl, hB⟩
    replace hm := hm.give hB; clear hB
    refine gM rfl (gX rfl (gX rfl (gAl hm zeroValue24 rfl fun ag w hm => ?_)))
    obtain ⟨ah, aK, hz_r2_3, hmf⟩ := hm.freeze 1 rfl
    replace hm := hmf.pk (L' := [blk ag [(nV 0), (nV 0), (.string ⟨((mkS [])).b.toArray⟩), (.slice none 0 0)] 24, blk aX [(nV aN.1.op), (nV aN.1.n_), (.string ⟨(aN.1.name).b.toArray⟩), aT] 24, blk aS [(nV aL), (nV 0), (.string ⟨((mkS [])).b.toArray⟩), (sV aM 0 2 2)] 24, blk aH [(nV aA.1.op), (nV aA.1.n_), (.string ⟨(aA.1.name).b.toArray⟩), aF] 24, blk aI [(nV aA.2.op), (nV aA.2.n_), (.string ⟨(aA.2.name).b.toArray⟩), aG] 24]) [0, 2, 3, 4, 5] rfl rfl
    clear hmf
    replace hz_r2_3 : GT.rep ah [aY] aO.1.kids := fz_ow hz_r2_3
    refine gSN hm 0 sizeOf24 (one_cons rfl (one_cons rfl (one_cons rfl (one_cons (rep_one hz_r2_3) one_nil)))) rfl fun w hm => gA rfl (gE (gS (gJ hm (fun aU => [(3, (pV aH)), (4, (pV aI)), (5, (nV aL)), (123, (.bool (aU)))]) (fun aU => [blk aH [(nV aA.1.op), (nV aA.1.n_), (.string ⟨(aA.1.name).b.toArray⟩), aF] 24, blk aI [(nV aA.2.op), (nV aA.2.n_), (.string ⟨(aA.2.name).b.toArray⟩), aG] 24]) (fun aU => ?_) ?_)))
    ·
     refine gW (.p 0 (.p 1 (.p 2 (.p 3 (.p 4 (.p 5 (.p 6 (.q 7 (.e 8 (.e 9 (.p 10 (.p 11 (.p 12 (.q 13 (.e 14 (.e 15 (.p 16 (.p 17 (.p 18 (.q 19 (.q 21 (.q 23 (.e 20 (.e 22 (.e 24 (.p 25 (.p 26 (.p 27 (.p 28 .fin)))) .nil) .nil) .nil))))))) .nil) .nil))))) .nil) .nil))))))))) [8, 14, 19, 20, 21, 22, 23] [0, 1, 2, 3, 4, 5, 6, 10, 11, 12, 16, 17, 18, 25, 26, 27, 28] hm [0, 1, 2, 3, 4] [blk ag [(nV aO.1.op), (nV aO.1.n_), (.string ⟨(aO.1.name).b.toArray⟩), aY] 24, blk aX [(nV aN.1.op), (nV aN.1.n_), (.string ⟨(aN.1.name).b.toArray⟩), aT] 24, blk aS [(nV aL), (nV 0), (.string ⟨((mkS [])).b.toArray⟩), (sV aM 0 2 2)] 24, blk aH [(nV aA.1.op), (nV aA.1.n_), (.string ⟨(aA.1.name).b.toArray⟩), aF] 24, blk aI [(nV aA.2.op), (nV aA.2.n_), (.string ⟨(aA.2.name).b.toArray⟩), aG] 24] rfl mxo (by kernel_rfl) (fun _ _ _ h => h.2) fun w hm hS => tP rfl (fun w => yM rfl) (tP rfl (fun w => yN rfl) (tP rfl (fun w => yM rfl) (gsn 97 rfl (fun bZ => ?_) fun bZ => ?_)))
     ·
      refine tPo rfl rfl (tPo rfl rfl (tP rfl (fun w => yKt rfl) (tP rfl (fun w => yM rfl) (tQo rfl hS rfl (tO (tEo rfl rfl (tAs hS (tO (tEo rfl rfl (tAn rfl (tPo rfl rfl (tP rfl (fun w => yKt rfl) (tP rfl (fun w => yM rfl) (tQo rfl hS rfl (tO (tEo rfl rfl (tAs hS (tO (tEo rfl rfl (tAn rfl (tPo rfl rfl (tP rfl (fun w => yKt rfl) (tP rfl (fun w => yM rfl) (tQo rfl hS rfl (tQo rfl hS rfl (tQo rfl hS rfl (tO (tEo rfl rfl (tAs hS (tO ?_))))))))))))))))))))))))))))))
      exact tEo rfl rfl (tAs hS (tO (tEo rfl rfl (tAn rfl (tPo rfl rfl (tPo rfl rfl (tPo rfl rfl (tP rfl (fun w => yKt rfl) (tE (gz hm [3, 4] rfl))))))))))
     refine tP rfl (fun w => yM rfl) (tP rfl (fun w => yN rfl) (tP rfl (fun w => yKf rfl) (tP rfl (fun w => yM rfl) (gsn 101 rfl (fun b8 => ?_) fun b8 => ?_))))
     ·
      refine tQo rfl hS rfl (tO (tEo rfl rfl (tAs hS (tO (tEo rfl rfl (tAn rfl (tPo rfl rfl (tP rfl (fun w => yKt rfl) (tP rfl (fun w => yM rfl) (tQo rfl hS rfl (tO (tEo rfl rfl (tAs hS (tO (tEo rfl rfl (tAn rfl (tPo rfl rfl (tP rfl (fun w => yKt rfl) (tP rfl (fun w => yM rfl) (tQo rfl hS rfl (tQo rfl hS rfl (tQo rfl hS rfl (tO (tEo rfl rfl (tAs hS (tO (tEo rfl rfl (tAs hS (tO (tEo rfl rfl ?_))))))))))))))))))))))))))))))
      exact tAn rfl (tPo rfl rfl (tPo rfl rfl (tPo rfl rfl (tP rfl (fun w => yKt rfl) (tE (gz hm [3, 4] rfl))))))
     refine tQ rfl hS (fun w hm => yn (hm.blk_at 1 rfl) isAgg24 sizeOf24 rfl) (tO (tY rfl (yn (hm.blk_at 2 rfl) isAgg24 sizeOf24 rfl) (tAs hS (tO (gb fun cQ b9 => tf rfl rfl (fun a hf => e_call hf rfl call19 rfl (impl_SameExpr_ok _ aN.1 aT (hm.now (GT.mono aK hz_r2_2)) (⟨aL, 0, (mkS []), ([aA.1, aA.2] : List Expr_)⟩ : Expr_) (sV aM 0 2 2) (hm.now (GT.mono (Heap.le_trans aJ aK) hz_r2_1)) _ b9)) ?_)))))
     rintro cR w ⟨rfl, hB⟩
     replace hm := hm.below' hB; clear hB
     refine tAk hm [0, 1, 2, 3, 4] rfl fun hS => tP rfl (fun w => yN rfl) (tP rfl (fun w => yKf rfl) (tP rfl (fun w => yM rfl) (gsn 107 rfl (fun bc => ?_) fun bc => ?_)))
     ·
      exact tQo rfl hS rfl (tO (tEo rfl rfl (tAs hS (tO (tEo rfl rfl (tAn rfl (tPo rfl rfl (tP rfl (fun w => yKt rfl) (tP rfl (fun w => yM rfl) (tQo rfl hS rfl (tQo rfl hS rfl (tQo rfl hS rfl (tO (tEo rfl rfl (tAs hS (tO (tEo rfl rfl (tAs hS (tO (tEo rfl rfl (tAn rfl (tPo rfl rfl (tPo rfl rfl (tPo rfl rfl (tP rfl (fun w => yKt rfl) (tE (gz hm [3, 4] rfl)))))))))))))))))))))))))))
     refine tQ rfl hS (fun w hm => yn (hm.blk_at 0 rfl) isAgg24 sizeOf24 rfl) (tO (tY rfl (yn (hm.blk_at 2 rfl) isAgg24 sizeOf24 rfl) (tAs hS (tO (gb fun cS bd => tf rfl rfl (fun a hf => e_call hf rfl call19 rfl (impl_SameExpr_ok _ aO.1 aY (hm.now hz_r2_3) (⟨aL, 0, (mkS []), ([aA.1, aA.2] : List Expr_)⟩ : Expr_) (sV aM 0 2 2) (hm.now (GT.mono (Heap.le_trans aJ aK) hz_r2_1)) _ bd)) ?_)))))
     rintro cT w ⟨rfl, hB⟩
     replace hm := hm.below' hB; clear hB
     refine tAk hm [0, 1, 2, 3, 4] rfl fun hS => tP rfl (fun w => yN rfl) (tP rfl (fun w => yKf rfl) (tP rfl (fun w => yM rfl) (gsn 113 rfl (fun be => ?_) fun be => ?_)))
     ·
      exact tQo rfl hS rfl (tQo rfl hS rfl (tQo rfl hS rfl (tO (tEo rfl rfl (tAs hS (tO (tEo rfl rfl (tAs hS (tO (tEo rfl rfl (tAn rfl (tPo rfl rfl (tPo rfl rfl (tPo rfl rfl (tP rfl (fun w => yKt rfl) (tE (gz hm [3, 4] rfl)))))))))))))))))
     refine tQ rfl hS (fun w hm => yn (hm.blk_at 2 rfl) isAgg24 sizeOf24 rfl) (tQ rfl hS (fun w hm => yn (hm.blk_at 3 rfl) isAgg24 sizeOf24 rfl) (tQ rfl hS (fun w hm => yn (hm.blk_at 4 rfl) isAgg24 sizeOf24 rfl) (tO (gb fun cU bf => tf rfl rfl (fun a hf => e_call hf rfl call24 rfl (impl_ExprParts_ok _ (⟨aL, 0, (mkS []), ([aA.1, aA.2] : List Expr_)⟩ : Expr_) (sV aM 0 2 2) (hm.now (GT.mono (Heap.le_trans aJ aK) hz_r2_1)) (hm.now (GT.mono (Heap.le_trans (Heap.le_trans (Heap.le_trans (Heap.le_trans (Heap.le_trans aE aB) aC) aD) aJ) aK) hG0)) (hm.now (GT.mono (Heap.le_trans (Heap.le_trans (Heap.le_trans (Heap.le_trans (Heap.le_trans aE aB) aC) aD) aJ) aK) hG1)) _ bf)) ?_))))
     rintro cV w ⟨rfl, hB⟩
     replace hm := hm.below' hB; clear hB
     refine tAk hm [0, 1, 2, 3, 4] rfl fun hS => tO (gb fun cW bg => tf rfl rfl (fun a hf => e_call hf rfl call24 rfl (impl_ExprParts_ok _ aA.1 aF (hm.now (GT.mono (Heap.le_trans (Heap.le_trans (Heap.le_trans (Heap.le_trans aB aC) aD) aJ) aK) hz_r0_1)) (hm.now (GT.mono (Heap.le_trans (Heap.le_trans (Heap.le_trans (Heap.le_trans (Heap.le_trans aE aB) aC) aD) aJ) aK) hG0)) (hm.now (GT.mono (Heap.le_trans (Heap.le_trans (Heap.le_trans (Heap.le_trans (Heap.le_trans aE aB) aC) aD) aJ) aK) hG1)) _ bg)) ?_)
     rintro cX w ⟨rfl, hB⟩
     replace hm := hm.below' hB; clear hB
     refine tAk hm [0, 1, 2, 3, 4] rfl fun hS => tO (gb fun cY bh => tf rfl rfl (fun a hf => e_call hf rfl call24 rfl (impl_ExprParts_ok _ aA.2 aG (hm.now (GT.mono (Heap.le_trans (Heap.le_trans (Heap.le_trans aC aD) aJ) aK) hz_r0_2)) (hm.now (GT.mono (Heap.le_trans (Heap.le_trans (Heap.le_trans (Heap.le_trans (Heap.le_trans aE aB) aC) aD) aJ) aK) hG0)) (hm.now (GT.mono (Heap.le_trans (Heap.le_trans (Heap.le_trans (Heap.le_trans (Heap.le_trans aE aB) aC) aD) aJ) aK) hG1)) _ bh)) ?_)
     rintro cZ w ⟨rfl, hB⟩
     replace hm := hm.below' hB; clear hB
     exact tAn rfl (tP rfl (fun w => yB rfl) (tP rfl (fun w => yB rfl) (tP rfl (fun w => yB rfl) (tP rfl (fun w => yKf rfl) (tE (gz hm [3, 4] rfl))))))
    repeat clear hm
    intro aU w hm
    refine gs 123 rfl (fun bi => ?_) fun bi => ?_
    ·
     refine gct rfl (gS (gR (gA rfl (gE (gRt (gEr bC (gLr bA az ?_)))))))
     replace hm := hm.thaw (Heap.le_trans (Heap.le_trans (Heap.le_trans (Heap.le_trans (Heap.le_trans aE aB) aC) aD) aJ) aK)
     exact gr1 results4 rfl ⟨rfl, hm.below⟩
    exact gcf rfl (gSk (gZe fun a hf => ⟨ah, (Heap.le_trans (Heap.le_trans aD aJ) aK), hf.sb rfl, hm.pk [0, 1] rfl rfl⟩))
   repeat clear hm
   rintro bB a w ⟨aR, bj, hf, hm⟩
   exact gv hf (gR (gM rfl (gP (by omega) (by omega) rfl (gA rfl (gE (gZe fun a hf => ⟨aR, (Heap.le_trans aC bj), hf.sb rfl, hm.pk [0, 1] rfl rfl⟩))))))
  repeat clear hm
  rintro c8 c9 a w ⟨ca, bk, hf, hm⟩ cb cc
  refine gv hf (gS (gS (gR (gM rfl (gB rfl (gE (go _ 47 rfl (decide_eq_false (by omega)) (gcf rfl (gXt (gHh (gS (gR (gA rfl (gE (gRt ?_)))))))))))))))
  replace hm := hm.thaw (Heap.le_trans (Heap.le_trans aE aB) bk)
  exact gr1 results4 rfl ⟨rfl, hm.below⟩
end Go.Proofs.YtjccffpccjdmgaaGreatDoor
