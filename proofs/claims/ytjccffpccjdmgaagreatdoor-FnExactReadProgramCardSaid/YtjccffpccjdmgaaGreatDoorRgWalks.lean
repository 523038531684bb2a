/- A part of the proof of FnExactReadProgramCardSaid. -/
import Derived.Test.YtjccffpccjdmgaaGreatDoorRgWalksA
namespace Go.Proofs.YtjccffpccjdmgaaGreatDoor
open Go Go.Wk Go.RowKit
set_option maxRecDepth 4000
set_option maxHeartbeats 4000000
open Tryz
theorem pimpl_wordReader__expr_all  : (∀ (r_ : wordReader) (level : Int) (r : Expr_ × wordReader), pimpl_wordReader__expr r_ level = some r → ∀ (w0 : World) (hz : Heap) (bp0 : Nat) (v1p : Value) (hm0 : Mem w0 hz w0 [blk bp0 [v1p, (.bool (r_.bad))] 63, ow [v1p] r_.list]) (hG0 : GT.rep hz [.slice (some ⟨0, 0, none⟩) 1 1] [glob_impl_opSign]), Con Tryz.prog 46 [(pV bp0), (nV level)] w0 (fun v w' => ∃ (x1 : Value) (x2 : Value), v = (.agg #[(nV r.1.op), (nV r.1.n_), (.string ⟨(r.1.name).b.toArray⟩), x1]) ∧ Mem w0 hz w' [blk bp0 [x2, (.bool (r.2.bad))] 63, ow [x1] r.1.kids, ow [x2] r.2.list])) ∧
    (∀ (r_ : wordReader) (r : Expr_ × wordReader), pimpl_wordReader__single r_ = some r → ∀ (w0 : World) (hz : Heap) (bp0 : Nat) (v1p : Value) (hm0 : Mem w0 hz w0 [blk bp0 [v1p, (.bool (r_.bad))] 63, ow [v1p] r_.list]) (hG0 : GT.rep hz [.slice (some ⟨0, 0, none⟩) 1 1] [glob_impl_opSign]), Con Tryz.prog 104 [(pV bp0)] w0 (fun v w' => ∃ (x1 : Value) (x2 : Value), v = (.agg #[(nV r.1.op), (nV r.1.n_), (.string ⟨(r.1.name).b.toArray⟩), x1]) ∧ Mem w0 hz w' [blk bp0 [x2, (.bool (r.2.bad))] 63, ow [x1] r.1.kids, ow [x2] r.2.list])) := by
  refine pimpl_wordReader__expr.mutual_partial_correctness  (motive_1 := fun r_ level r => ∀ (w0 : World) (hz : Heap) (bp0 : Nat) (v1p : Value) (hm0 : Mem w0 hz w0 [blk bp0 [v1p, (.bool (r_.bad))] 63, ow [v1p] r_.list]) (hG0 : GT.rep hz [.slice (some ⟨0, 0, none⟩) 1 1] [glob_impl_opSign]), Con Tryz.prog 46 [(pV bp0), (nV level)] w0 (fun v w' => ∃ (x1 : Value) (x2 : Value), v = (.agg #[(nV r.1.op), (nV r.1.n_), (.string ⟨(r.1.name).b.toArray⟩), x1]) ∧ Mem w0 hz w' [blk bp0 [x2, (.bool (r.2.bad))] 63, ow [x1] r.1.kids, ow [x2] r.2.list])) (motive_2 := fun r_ r => ∀ (w0 : World) (hz : Heap) (bp0 : Nat) (v1p : Value) (hm0 : Mem w0 hz w0 [blk bp0 [v1p, (.bool (r_.bad))] 63, ow [v1p] r_.list]) (hG0 : GT.rep hz [.slice (some ⟨0, 0, none⟩) 1 1] [glob_impl_opSign]), Con Tryz.prog 104 [(pV bp0)] w0 (fun v w' => ∃ (x1 : Value) (x2 : Value), v = (.agg #[(nV r.1.op), (nV r.1.n_), (.string ⟨(r.1.name).b.toArray⟩), x1]) ∧ Mem w0 hz w' [blk bp0 [x2, (.bool (r.2.bad))] 63, ow [x1] r.1.kids, ow [x2] r.2.list])) ?_ ?_
  · intro rec_1 rec_2 ih_1 ih_2 r_ level r hq w0 hz bp0 v1p hm0 hG0
    have pimpl_wordReader__expr_rec : ∀ (w0 : World) (hz : Heap) (r_ : wordReader) (bp0 : Nat) (v1p : Value) (level : Int) (hm0 : Mem w0 hz w0 [blk bp0 [v1p, (.bool (r_.bad))] 63, ow [v1p] r_.list]) (hG0 : GT.rep hz [.slice (some ⟨0, 0, none⟩) 1 1] [glob_impl_opSign]) (r : Expr_ × wordReader) (hq : rec_1 r_ level = some r), Con Tryz.prog 46 [(pV bp0), (nV level)] w0 (fun v w' => ∃ (x1 : Value) (x2 : Value), v = (.agg #[(nV r.1.op), (nV r.1.n_), (.string ⟨(r.1.name).b.toArray⟩), x1]) ∧ Mem w0 hz w' [blk bp0 [x2, (.bool (r.2.bad))] 63, ow [x1] r.1.kids, ow [x2] r.2.list]) := fun w0 hz r_ bp0 v1p level hm0 hG0 r hq => ih_1 r_ level r hq w0 hz bp0 v1p hm0 hG0
    have pimpl_wordReader__single_rec : ∀ (w0 : World) (hz : Heap) (r_ : wordReader) (bp0 : Nat) (v1p : Value) (hm0 : Mem w0 hz w0 [blk bp0 [v1p, (.bool (r_.bad))] 63, ow [v1p] r_.list]) (hG0 : GT.rep hz [.slice (some ⟨0, 0, none⟩) 1 1] [glob_impl_opSign]) (r : Expr_ × wordReader) (hq : rec_2 r_ = some r), Con Tryz.prog 104 [(pV bp0)] w0 (fun v w' => ∃ (x1 : Value) (x2 : Value), v = (.agg #[(nV r.1.op), (nV r.1.n_), (.string ⟨(r.1.name).b.toArray⟩), x1]) ∧ Mem w0 hz w' [blk bp0 [x2, (.bool (r.2.bad))] 63, ow [x1] r.1.kids, ow [x2] r.2.list]) := fun w0 hz r_ bp0 v1p hm0 hG0 r hq => ih_2 r_ r hq w0 hz bp0 v1p hm0 hG0
    refine gconr (ρ := Expr_ × wordReader) (R := fun r v w' => ∃ (x1 : Value) (x2 : Value), v = (.agg #[(nV r.1.op), (nV r.1.n_), (.string ⟨(r.1.name).b.toArray⟩), x1]) ∧ Mem w0 hz w' [blk bp0 [x2, (.bool (r.2.bad))] 63, ow [x1] r.1.kids, ow [x2] r.2.list]) func46 rfl hq ?_
    have hm := hm0
    refine gS (gR (gAl hm zeroValue24 rfl fun aC w hm => gE (gS (gS (gR (gM rfl (gB rfl (gE (gsd 10 rfl (fun bA => ?_) fun bA => ?_)))))))))
    ·
     refine gct rfl (gS (gR (gM rfl ?_)))
     obtain ⟨bB, hle, hm1, hsub, bC⟩ := hm.take2 (L1 := [blk bp0 [v1p, (.bool (r_.bad))] 63, ow [v1p] r_.list]) (L2 := [blk aC [(nV 0), (nV 0), (.string ⟨((mkS [])).b.toArray⟩), (.slice none 0 0)] 24]) [1, 2] [0] (by decide) rfl rfl
     refine gCg rfl call104 (pimpl_wordReader__single_rec _ bB r_ bp0 v1p hm1 (GT.mono hle hG0)) ?_
     rintro aD b7 b8 w ⟨aM, bU, rfl, hB⟩
     replace hm := bC _ _ hB; clear hB
     exact gSN hm 3 sizeOf24 (one_cons rfl (one_cons rfl (one_cons rfl (one_cons (rep_one (hm.ow_rep 1 rfl)) one_nil)))) rfl fun w hm => gE (gRt (grc 3 results46 hm rfl isAgg24 sizeOf24 ⟨aM, bU, rfl, hm.pk [0, 1, 2] rfl rfl⟩))
    refine gcf rfl (gSk (gS (gR (gM rfl (gM rfl (gB rfl ?_))))))
    obtain ⟨bD, hle, hm1, hsub, bE⟩ := hm.take2 (L1 := [blk bp0 [v1p, (.bool (r_.bad))] 63, ow [v1p] r_.list]) (L2 := [blk aC [(nV 0), (nV 0), (.string ⟨((mkS [])).b.toArray⟩), (.slice none 0 0)] 24]) [1, 2] [0] (by decide) rfl rfl
    refine gCg rfl call46 (pimpl_wordReader__expr_rec _ bD r_ bp0 v1p (w64 (level + 1)) hm1 (GT.mono hle hG0)) ?_
    rintro bF bV b9 w ⟨af, ab, rfl, hB⟩
    replace hm := bE _ _ hB; clear hB
    refine gAl hm zeroValue24 rfl fun aG w hm => gSN hm 0 sizeOf24 (one_cons rfl (one_cons rfl (one_cons rfl (one_cons (rep_one (hm.ow_rep 2 rfl)) one_nil)))) rfl fun w hm => gE (gS ?_)
    obtain ⟨bG, bH, rfl, ba⟩ := ro_slice (hm.ow_rep 3 rfl)
    obtain ⟨bb, bc, rfl, cP⟩ := ro_slice (hm.ow_rep 2 rfl)
    refine gJge (fun aU a w => ∃ (an ao : Value), St 56 [(4, (pV aC)), (5, (pV aG))] w0 hz [blk aC [(nV 0), (nV 0), (.string ⟨((mkS [])).b.toArray⟩), (.slice none 0 0)] 24, blk aG [(nV aU.1), (nV aU.2.1), (.string ⟨(aU.2.2.1).b.toArray⟩), an] 24, ow [an] aU.2.2.2.1, blk bp0 [ao, (.bool (aU.2.2.2.2.2))] 63, ow [ao] aU.2.2.2.2.1] a w) (fun cQ bd => ?_) ?_
    ·
     refine gBk (gMg (fun aA a w => ∃ (aW aV : Value), St 56 [(0, (pV bp0)), (1, (nV level)), (4, (pV aC)), (5, (pV aG))] w0 hz [blk bp0 [aW, (.bool (aA.2.1))] 63, ow [aW] aA.1, blk aC [(nV 0), (nV 0), (.string ⟨((mkS [])).b.toArray⟩), (.slice none 0 0)] 24, blk aG [(nV aA.2.2.1), (nV aA.2.2.2.1), (.string ⟨(aA.2.2.2.2.1).b.toArray⟩), aV] 24, ow [aV] aA.2.2.2.2.2] a w) (fun a hf => ⟨(.slice bG bF.2.list.length bH), (.slice bb bF.1.kids.length bc), hf.sb rfl, hm.pk [1, 3, 4, 0, 2] rfl rfl⟩) ?_)
     repeat clear hm
     rintro be ap aA a w ⟨aW, aV, hf, hm⟩ bf aq
     refine gv hf (gS (gS (gR (gM rfl (gY (yG rfl (y_nilptr rfl rfl)) (gF fo_63_1 rfl (gL hm 0 isAgg4 rfl (gN rfl (gE (gsn 21 rfl (fun bJ => ?_) fun bJ => ?_))))))))))
     ·
      refine gct rfl (gSk (gBk (gS (gR (gA rfl (gE (gS (gS (gR ?_)))))))))
      obtain ⟨aP, bg, bW⟩ := glob_map hG0 rfl
      refine gY (yl isAgg119 ((CellsAt.mono hm.lez (bg)).cell (j := 0) rfl) rfl) (gf rfl (fun a hf => e_rangeS (m := (glob_impl_opSign : MapS St_sign_level)) hf hm underlying119 bW rfl rfl) ?_)
      rintro _ w ⟨aQ, rfl, hm⟩
      refine gE ?_
      obtain ⟨aI, aJ, rfl, bh⟩ := ro_slice (hm.ow_rep 2 rfl)
      obtain ⟨aE, aF, rfl, cR⟩ := ro_slice (hm.ow_rep 5 rfl)
      refine gJ hm (fun aN => [(0, (pV bp0)), (1, (nV level)), (4, (pV aC)), (5, (pV aG)), (6, (nV aN))]) (fun aN => [blk bp0 [(.slice aI aA.1.length aJ), (.bool (aA.2.1))] 63, ow [(.slice aI aA.1.length aJ)] aA.1, blk aC [(nV 0), (nV 0), (.string ⟨((mkS [])).b.toArray⟩), (.slice none 0 0)] 24, blk aG [(nV aA.2.2.1), (nV aA.2.2.2.1), (.string ⟨(aA.2.2.2.2.1).b.toArray⟩), (.slice aE aA.2.2.2.2.2.length aF)] 24, ow [(.slice aE aA.2.2.2.2.2.length aF)] aA.2.2.2.2.2]) (fun aN => ?_) ?_
      ·
       refine gBk (gRngP (m := (glob_impl_opSign : MapS St_sign_level)) bW (fun aj bK a w => St 56 [(0, (pV bp0)), (1, (nV level)), (4, (pV aC)), (5, (pV aG)), (6, (nV bK)), (23, (pV aQ))] w0 hz [blk bp0 [(.slice aI aA.1.length aJ), (.bool (aA.2.1))] 63, ow [(.slice aI aA.1.length aJ)] aA.1, blk aC [(nV 0), (nV 0), (.string ⟨((mkS [])).b.toArray⟩), (.slice none 0 0)] 24, blk aG [(nV aA.2.2.1), (nV aA.2.2.2.1), (.string ⟨(aA.2.2.2.2.1).b.toArray⟩), (.slice aE aA.2.2.2.2.2.length aF)] 24, ow [(.slice aE aA.2.2.2.2.2.length aF)] aA.2.2.2.2.2, itc hz aP aQ aj] a w) (fun a hf => ⟨hf.sb rfl, hm.pk [1, 2, 3, 4, 5, 0] rfl rfl⟩) ?_ ?_)
       ·
        repeat clear hm
        rintro aj bK a w ⟨hf, hm⟩ hmo
        refine gv (m := some ()) (r := ()) hf ?_ rfl
        refine gS (gR (gf rfl (fun a hf => e_nextS 5 hf hm rfl hmo rfl rfl) ?_))
        rintro _ w ⟨ar, au, cS, rfl, bX, bY, hm⟩
        refine gSw bX (gX rfl (gE (gS (gct rfl (gSk (gJ hm (fun av => [(0, (pV bp0)), (1, (nV level)), (4, (pV aC)), (5, (pV aG)), (6, (nV av)), (23, (pV aQ))]) (fun av => [blk bp0 [(.slice aI aA.1.length aJ), (.bool (aA.2.1))] 63, ow [(.slice aI aA.1.length aJ)] aA.1, blk aC [(nV 0), (nV 0), (.string ⟨((mkS [])).b.toArray⟩), (.slice none 0 0)] 24, blk aG [(nV aA.2.2.1), (nV aA.2.2.2.1), (.string ⟨(aA.2.2.2.2.1).b.toArray⟩), (.slice aE aA.2.2.2.2.2.length aF)] 24, ow [(.slice aE aA.2.2.2.2.2.length aF)] aA.2.2.2.2.2, itc hz aP aQ (Array.push aj ar)]) (fun av => ?_) ?_))))))
        ·
         refine gBk (gS (gR (gY (yG rfl (y_entryS 5 hm rfl bY rfl rfl)) (gX rfl (gX rfl (gAl hm zeroValue120 rfl fun bi w hm => gA rfl (gSN hm 0 sizeOf120 (one_cons rfl (one_cons rfl one_nil)) rfl fun w hm => gE (gS (gJ hm (fun aw => [(0, (pV bp0)), (1, (nV level)), (4, (pV aC)), (5, (pV aG)), (6, (nV bK)), (7, (nV au.1)), (23, (pV aQ)), (40, (.bool (aw)))]) (fun aw => [blk bp0 [(.slice aI aA.1.length aJ), (.bool (aA.2.1))] 63, ow [(.slice aI aA.1.length aJ)] aA.1, blk aC [(nV 0), (nV 0), (.string ⟨((mkS [])).b.toArray⟩), (.slice none 0 0)] 24, blk aG [(nV aA.2.2.1), (nV aA.2.2.2.1), (.string ⟨(aA.2.2.2.2.1).b.toArray⟩), (.slice aE aA.2.2.2.2.2.length aF)] 24, ow [(.slice aE aA.2.2.2.2.2.length aF)] aA.2.2.2.2.2, itc hz aP aQ (Array.push aj ar)]) (fun aw => ?_) ?_)))))))))
         ·
          refine gW (.p 0 (.p 2 (.e 1 (.p 3 (.p 4 (.p 5 (.p 7 (.q 8 (.e 6 (.e 9 (.p 10 (.p 11 .fin)) .nil) .nil)))))) .nil))) [6] [0, 2, 3, 4, 5, 7, 10, 11] hm [0, 1, 2, 3, 4, 5, 6] [blk bi [(.string ⟨(au.2.sign).b.toArray⟩), (nV au.2.level)] 120, blk bp0 [(.slice aI aA.1.length aJ), (.bool (aA.2.1))] 63, ow [(.slice aI aA.1.length aJ)] aA.1, blk aC [(nV 0), (nV 0), (.string ⟨((mkS [])).b.toArray⟩), (.slice none 0 0)] 24, blk aG [(nV aA.2.2.1), (nV aA.2.2.2.1), (.string ⟨(aA.2.2.2.2.1).b.toArray⟩), (.slice aE aA.2.2.2.2.2.length aF)] 24, ow [(.slice aE aA.2.2.2.2.2.length aF)] aA.2.2.2.2.2, itc hz aP aQ (Array.push aj ar)] rfl mxo (by kernel_rfl) (fun _ _ _ h => h.2) fun w hm hS => tP rfl (fun w => yF fo_120_1 rfl) (tP rfl (fun w => yM rfl) (tO (tY rfl (yL hm 0 isAgg3 rfl) (tAn rfl (tP rfl (fun w => yB rfl) (tP rfl (fun w => yM rfl) (gsd 33 rfl (fun bj => ?_) fun bj => ?_)))))))
          ·
           refine tP rfl (fun w => yM rfl) (tP rfl (fun w => yF fo_120_0 rfl) (tQ rfl hS (fun w hm => yL hm 0 isAgg9 rfl) (tO (gb fun cT bk => tf rfl rfl (fun a hf => e_call hf rfl call105 rfl (pimpl_wordReader__peek_ok _ (⟨aA.1, aA.2.1⟩ : wordReader) bp0 (.slice aI aA.1.length aJ) (hm.ow_rep 2 rfl) (hm.blk_cells 1 rfl).1 _ bk)) ?_))))
           rintro cU w ⟨rfl, hB⟩
           replace hm := hm.below' hB; clear hB
           refine tAk hm [0, 1, 2, 3, 4, 5, 6] rfl fun hS => tO (gb fun cV bl => tf rfl rfl (fun a hf => e_call hf rfl call80 rfl (impl_signWord_ok _ au.2.sign _ bl)) ?_)
           rintro cW w ⟨rfl, hB⟩
           replace hm := hm.below' hB; clear hB
           exact tAn rfl (tP rfl (fun w => yG rfl (y_eqIS underlying56 (by kernel_rfl) (by kernel_rfl) (by decide) rfl rfl isAgg3 isAgg9 underlying3 underlying9 rfl rfl rfl)) (tP rfl (fun w => yKt rfl) (tE (gz hm [1, 2, 3, 4, 5, 6] rfl))))
          exact tPo rfl rfl (tPo rfl rfl (tQo rfl hS rfl (tO (tEo rfl rfl (tAs hS (tO (tEo rfl rfl (tAn rfl (tPo rfl rfl (tP rfl (fun w => yKf rfl) (tE (gz hm [1, 2, 3, 4, 5, 6] rfl))))))))))))
         repeat clear hm
         intro aw w hm
         refine gJ hm (fun ax => [(0, (pV bp0)), (1, (nV level)), (4, (pV aC)), (5, (pV aG)), (6, (nV ax)), (23, (pV aQ))]) (fun ax => [blk bp0 [(.slice aI aA.1.length aJ), (.bool (aA.2.1))] 63, ow [(.slice aI aA.1.length aJ)] aA.1, blk aC [(nV 0), (nV 0), (.string ⟨((mkS [])).b.toArray⟩), (.slice none 0 0)] 24, blk aG [(nV aA.2.2.1), (nV aA.2.2.2.1), (.string ⟨(aA.2.2.2.2.1).b.toArray⟩), (.slice aE aA.2.2.2.2.2.length aF)] 24, ow [(.slice aE aA.2.2.2.2.2.length aF)] aA.2.2.2.2.2, itc hz aP aQ (Array.push aj ar)]) (fun ax => ?_) ?_
         ·
          refine gs 40 rfl (fun bm => ?_) fun bm => ?_
          ·
           exact gct rfl (gR (gM rfl (gA rfl (gE (gz hm [0, 1, 2, 3, 4, 5] rfl)))))
          exact gcf rfl (gSk (gz hm [0, 1, 2, 3, 4, 5] rfl))
         repeat clear hm
         intro ax w hm
         exact gz hm [0, 1, 2, 3, 4, 5] rfl
        repeat clear hm
        intro av w hm
        exact gZr bY bX fun a hf => ⟨hf.sb rfl, hm.pk [0, 1, 2, 3, 4, 5] rfl rfl⟩
       repeat clear hm
       rintro cX cY a w ⟨hf, hm⟩ hno hk
       refine gv hf ?_ hk
       exact gS (gR (gY (yG rfl (y_nextE 5 hm rfl hno rfl rfl)) (gX rfl (gE (gS (gcf rfl (gXt (gHh (gz hm [0, 1, 2, 3, 4] rfl)))))))))
      repeat clear hm
      intro aN w hm
      refine gS (gS (gR (gM rfl (gB rfl (gE (gsd 43 rfl (fun bL => ?_) fun bL => ?_))))))
      ·
       exact gct rfl (gS (gR (gY (yn (hm.blk_at 3 rfl) isAgg24 sizeOf24 rfl) (gSN hm 2 sizeOf24 (one_cons rfl (one_cons rfl (one_cons rfl (one_cons rfl one_nil)))) rfl fun w hm => gE (gRt (gLp aq ap (gl (gEr bd (grc 2 results46 hm rfl isAgg24 sizeOf24 ⟨(.slice aE aA.2.2.2.2.2.length aF), (.slice aI aA.1.length aJ), rfl, hm.pk [0, 4, 1] rfl rfl⟩)))))))))
      refine gcf rfl (gSk (gS (gR (gM rfl ?_))))
      obtain ⟨bM, hle, hm1, hsub, bN⟩ := hm.take2 (L1 := [blk bp0 [(.slice aI aA.1.length aJ), (.bool (aA.2.1))] 63, ow [(.slice aI aA.1.length aJ)] aA.1]) (L2 := [blk aC [(nV 0), (nV 0), (.string ⟨((mkS [])).b.toArray⟩), (.slice none 0 0)] 24, blk aG [(nV aA.2.2.1), (nV aA.2.2.2.1), (.string ⟨(aA.2.2.2.2.1).b.toArray⟩), (.slice aE aA.2.2.2.2.2.length aF)] 24, ow [(.slice aE aA.2.2.2.2.2.length aF)] aA.2.2.2.2.2]) [0, 1] [2, 3, 4] (by decide) rfl rfl
      refine gCg rfl call106 (pimpl_wordReader__next_ok _ bM (⟨aA.1, aA.2.1⟩ : wordReader) bp0 (.slice aI aA.1.length aJ) hm1 ) ?_
      rintro aH bZ ag w ⟨aa, rfl, hB⟩
      replace hm := bN _ _ hB; clear hB
      refine gE (gJg (fun aR a w => ∃ (aZ aT : Value), St 56 [(0, (pV bp0)), (1, (nV level)), (4, (pV aC)), (5, (pV aG))] w0 hz [blk bp0 [aZ, (.bool (aR.2.1))] 63, ow [aZ] aR.1, blk aC [(nV 0), (nV 0), (.string ⟨((mkS [])).b.toArray⟩), (.slice none 0 0)] 24, blk aG [(nV aN), (nV 0), (.string ⟨((mkS [])).b.toArray⟩), aT] 24, ow [aT] aR.2.2] a w) (fun aR => ?_) ?_)
      ·
       refine gW (.p 0 (.p 2 (.p 3 (.p 4 (.e 1 (.e 5 (.e 6 (.p 7 (.e 8 .fin .nil)) .nil) .nil) (.e 5 (.e 1 (.e 6 (.p 7 (.e 8 .fin .nil)) .nil) .nil) .nil)))))) [] [0, 2, 3, 4, 7] hm [0, 1, 2, 3, 4] [blk bp0 [aa, (.bool (aH.2.bad))] 63, ow [aa] aH.2.list, blk aC [(nV 0), (nV 0), (.string ⟨((mkS [])).b.toArray⟩), (.slice none 0 0)] 24, blk aG [(nV aA.2.2.1), (nV aA.2.2.2.1), (.string ⟨(aA.2.2.2.2.1).b.toArray⟩), (.slice aE aA.2.2.2.2.2.length aF)] 24, ow [(.slice aE aA.2.2.2.2.2.length aF)] aA.2.2.2.2.2] rfl mxo (by kernel_rfl) (fun _ _ _ h => h.2) fun w hm hS => tP rfl (fun w => yM rfl) (tP rfl (fun w => yM rfl) (tP rfl (fun w => yM rfl) (tP rfl (fun w => yB rfl) (gb fun aB b4 => tMo ?_ ?_))))
       ·
        refine tY rfl (yn (hm.blk_at 3 rfl) isAgg24 sizeOf24 rfl) (tAn rfl (tO ?_))
        obtain ⟨bO, hle, hm1, hsub, bP⟩ := hm.take2 (L1 := [blk bp0 [aa, (.bool (aH.2.bad))] 63, ow [aa] aH.2.list]) (L2 := [blk aC [(nV 0), (nV 0), (.string ⟨((mkS [])).b.toArray⟩), (.slice none 0 0)] 24, blk aG [(nV aA.2.2.1), (nV aA.2.2.2.1), (.string ⟨(aA.2.2.2.2.1).b.toArray⟩), (.slice aE aA.2.2.2.2.2.length aF)] 24, ow [(.slice aE aA.2.2.2.2.2.length aF)] aA.2.2.2.2.2]) [0, 1] [2, 3, 4] (by decide) rfl rfl
        refine tf rfl rfl (fun a hf => e_call hf rfl call46 rfl (pimpl_wordReader__expr_rec _ bO aH.2 bp0 aa (w64 (level + 1)) hm1 (GT.mono hle hG0) _ b4)) ?_
        rintro bo w ⟨aX, aY, rfl, hB⟩
        replace hm := bP _ _ hB; clear hB
        refine tAn rfl (tO (tf rfl rfl (fun a hf => e_build (vs := #[(0, (.agg #[(nV aA.2.2.1), (nV aA.2.2.2.1), (.string ⟨(aA.2.2.2.2.1).b.toArray⟩), (.slice aE aA.2.2.2.2.2.length aF)])), (1, (.agg #[(nV aB.1.op), (nV aB.1.n_), (.string ⟨(aB.1.name).b.toArray⟩), aX]))]) (cs := [(nV aA.2.2.1), (nV aA.2.2.2.1), (.string ⟨(aA.2.2.2.2.1).b.toArray⟩), (.slice aE aA.2.2.2.2.2.length aF), (nV aB.1.op), (nV aB.1.n_), (.string ⟨(aB.1.name).b.toArray⟩), aX]) et_22 hf hm rfl rfl (by kernel_rfl) rfl rfl) ?_))
        rintro _ w ⟨ac, rfl, hm⟩
        replace hm := hm.els_nil (α := Expr_)
        replace hm : Mem w0 hz _ [els [] ([] : List Expr_), blk ac [(nV aA.2.2.1), (nV aA.2.2.2.1), (.string ⟨(aA.2.2.2.2.1).b.toArray⟩), (.slice aE aA.2.2.2.2.2.length aF), (nV aB.1.op), (nV aB.1.n_), (.string ⟨(aB.1.name).b.toArray⟩), aX] 24, blk bp0 [aY, (.bool (aB.2.bad))] 63, ow [(nV aB.1.op), (nV aB.1.n_), (.string ⟨(aB.1.name).b.toArray⟩), aX] (aB.1 : Expr_), ow [aY] aB.2.list, blk aC [(nV 0), (nV 0), (.string ⟨((mkS [])).b.toArray⟩), (.slice none 0 0)] 24, blk aG [(nV aA.2.2.1), (nV aA.2.2.2.1), (.string ⟨(aA.2.2.2.2.1).b.toArray⟩), (.slice aE aA.2.2.2.2.2.length aF)] 24, ow [(.slice aE aA.2.2.2.2.2.length aF)] aA.2.2.2.2.2] := mkx_Expr_ aB.1 hm 3 rfl
        replace hm := (hm.els_cons 0 3 (by decide) rfl rfl).pk (L' := [els [(nV aB.1.op), (nV aB.1.n_), (.string ⟨(aB.1.name).b.toArray⟩), aX] ([aB.1] : List Expr_), blk ac [(nV aA.2.2.1), (nV aA.2.2.2.1), (.string ⟨(aA.2.2.2.2.1).b.toArray⟩), (.slice aE aA.2.2.2.2.2.length aF), (nV aB.1.op), (nV aB.1.n_), (.string ⟨(aB.1.name).b.toArray⟩), aX] 24, blk bp0 [aY, (.bool (aB.2.bad))] 63, ow [aY] aB.2.list, blk aC [(nV 0), (nV 0), (.string ⟨((mkS [])).b.toArray⟩), (.slice none 0 0)] 24, blk aG [(nV aA.2.2.1), (nV aA.2.2.2.1), (.string ⟨(aA.2.2.2.2.1).b.toArray⟩), (.slice aE aA.2.2.2.2.2.length aF)] 24, ow [(.slice aE aA.2.2.2.2.2.length aF)] aA.2.2.2.2.2]) [0, 1, 2, 4, 5, 6, 7] rfl rfl
        replace hm : Mem w0 hz _ [els [(nV aB.1.op), (nV aB.1.n_), (.string ⟨(aB.1.name).b.toArray⟩), aX] ([aB.1] : List Expr_), blk ac [(nV aA.2.2.1), (nV aA.2.2.2.1), (.string ⟨(aA.2.2.2.2.1).b.toArray⟩), (.slice aE aA.2.2.2.2.2.length aF), (nV aB.1.op), (nV aB.1.n_), (.string ⟨(aB.1.name).b.toArray⟩), aX] 24, blk bp0 [aY, (.bool (aB.2.bad))] 63, ow [aY] aB.2.list, blk aC [(nV 0), (nV 0), (.string ⟨((mkS [])).b.toArray⟩), (.slice none 0 0)] 24, blk aG [(nV aA.2.2.1), (nV aA.2.2.2.1), (.string ⟨(aA.2.2.2.2.1).b.toArray⟩), (.slice aE aA.2.2.2.2.2.length aF)] 24, ow [(nV aA.2.2.1), (nV aA.2.2.2.1), (.string ⟨(aA.2.2.2.2.1).b.toArray⟩), (.slice aE aA.2.2.2.2.2.length aF)] ((⟨aA.2.2.1, aA.2.2.2.1, aA.2.2.2.2.1, aA.2.2.2.2.2⟩ : Expr_) : Expr_)] := mk_Expr_ aA.2.2.1 aA.2.2.2.1 aA.2.2.2.2.1 hm 6 rfl
        replace hm := (hm.els_cons 0 6 (by decide) rfl rfl).pk (L' := [els [(nV aA.2.2.1), (nV aA.2.2.2.1), (.string ⟨(aA.2.2.2.2.1).b.toArray⟩), (.slice aE aA.2.2.2.2.2.length aF), (nV aB.1.op), (nV aB.1.n_), (.string ⟨(aB.1.name).b.toArray⟩), aX] ([(⟨aA.2.2.1, aA.2.2.2.1, aA.2.2.2.2.1, aA.2.2.2.2.2⟩ : Expr_), aB.1] : List Expr_), blk ac [(nV aA.2.2.1), (nV aA.2.2.2.1), (.string ⟨(aA.2.2.2.2.1).b.toArray⟩), (.slice aE aA.2.2.2.2.2.length aF), (nV aB.1.op), (nV aB.1.n_), (.string ⟨(aB.1.name).b.toArray⟩), aX] 24, blk bp0 [aY, (.bool (aB.2.bad))] 63, ow [aY] aB.2.list, blk aC [(nV 0), (nV 0), (.string ⟨((mkS [])).b.toArray⟩), (.slice none 0 0)] 24, blk aG [(nV aA.2.2.1), (nV aA.2.2.2.1), (.string ⟨(aA.2.2.2.2.1).b.toArray⟩), (.slice aE aA.2.2.2.2.2.length aF)] 24]) [0, 1, 2, 3, 4, 5] rfl rfl
        replace hm := (hm.lit_els 1 0 (by decide) rfl rfl rfl rfl).pk (L' := [ow [(sV ac 0 2 2)] ([(⟨aA.2.2.1, aA.2.2.2.1, aA.2.2.2.2.1, aA.2.2.2.2.2⟩ : Expr_), aB.1] : List Expr_), blk bp0 [aY, (.bool (aB.2.bad))] 63, ow [aY] aB.2.list, blk aC [(nV 0), (nV 0), (.string ⟨((mkS [])).b.toArray⟩), (.slice none 0 0)] 24, blk aG [(nV aA.2.2.1), (nV aA.2.2.2.1), (.string ⟨(aA.2.2.2.2.1).b.toArray⟩), (.slice aE aA.2.2.2.2.2.length aF)] 24]) [1, 2, 3, 4, 5] rfl rfl
        refine tAn rfl (tP rfl (fun w => yG rfl (y_build (vs := [(0, (nV aN)), (3, (sV ac 0 2 2))]) (cs := #[(nV aN), (nV 0), (.string ⟨((mkS [])).b.toArray⟩), (sV ac 0 2 2)]) rfl rfl (by kernel_rfl))) (tO (tf0 rfl rfl (fun a hf => e_storeN 4 hf hm rfl sizeOf24 rfl rfl rfl (one_cons rfl (one_cons rfl (one_cons rfl (one_cons rfl one_nil)))) rfl rfl) ?_)))
        rintro _ w hm
        exact tAn rfl (tE (gZ fun a hf => ⟨aY, (sV ac 0 2 2), hf.sb rfl, hm.pk [1, 2, 3, 4, 0] rfl rfl⟩))
       refine tO ?_
       obtain ⟨bQ, hle, hm1, hsub, bR⟩ := hm.take2 (L1 := [blk bp0 [aa, (.bool (aH.2.bad))] 63, ow [aa] aH.2.list]) (L2 := [blk aC [(nV 0), (nV 0), (.string ⟨((mkS [])).b.toArray⟩), (.slice none 0 0)] 24, blk aG [(nV aA.2.2.1), (nV aA.2.2.2.1), (.string ⟨(aA.2.2.2.2.1).b.toArray⟩), (.slice aE aA.2.2.2.2.2.length aF)] 24, ow [(.slice aE aA.2.2.2.2.2.length aF)] aA.2.2.2.2.2]) [0, 1] [2, 3, 4] (by decide) rfl rfl
       refine tf rfl rfl (fun a hf => e_call hf rfl call46 rfl (pimpl_wordReader__expr_rec _ bQ aH.2 bp0 aa (w64 (level + 1)) hm1 (GT.mono hle hG0) _ b4)) ?_
       rintro b5 w ⟨a8, a7, rfl, hB⟩
       replace hm := bR _ _ hB; clear hB
       refine tAn rfl (tO (tY rfl (yn (hm.blk_at 4 rfl) isAgg24 sizeOf24 rfl) (tAn rfl (tO (tf rfl rfl (fun a hf => e_build (vs := #[(0, (.agg #[(nV aA.2.2.1), (nV aA.2.2.2.1), (.string ⟨(aA.2.2.2.2.1).b.toArray⟩), (.slice aE aA.2.2.2.2.2.length aF)])), (1, (.agg #[(nV aB.1.op), (nV aB.1.n_), (.string ⟨(aB.1.name).b.toArray⟩), a8]))]) (cs := [(nV aA.2.2.1), (nV aA.2.2.2.1), (.string ⟨(aA.2.2.2.2.1).b.toArray⟩), (.slice aE aA.2.2.2.2.2.length aF), (nV aB.1.op), (nV aB.1.n_), (.string ⟨(aB.1.name).b.toArray⟩), a8]) et_22 hf hm rfl rfl (by kernel_rfl) rfl rfl) ?_)))))
       rintro _ w ⟨ae, rfl, hm⟩
       replace hm := hm.els_nil (α := Expr_)
       replace hm : Mem w0 hz _ [els [] ([] : List Expr_), blk ae [(nV aA.2.2.1), (nV aA.2.2.2.1), (.string ⟨(aA.2.2.2.2.1).b.toArray⟩), (.slice aE aA.2.2.2.2.2.length aF), (nV aB.1.op), (nV aB.1.n_), (.string ⟨(aB.1.name).b.toArray⟩), a8] 24, blk bp0 [a7, (.bool (aB.2.bad))] 63, ow [(nV aB.1.op), (nV aB.1.n_), (.string ⟨(aB.1.name).b.toArray⟩), a8] (aB.1 : Expr_), ow [a7] aB.2.list, blk aC [(nV 0), (nV 0), (.string ⟨((mkS [])).b.toArray⟩), (.slice none 0 0)] 24, blk aG [(nV aA.2.2.1), (nV aA.2.2.2.1), (.string ⟨(aA.2.2.2.2.1).b.toArray⟩), (.slice aE aA.2.2.2.2.2.length aF)] 24, ow [(.slice aE aA.2.2.2.2.2.length aF)] aA.2.2.2.2.2] := mkx_Expr_ aB.1 hm 3 rfl
       replace hm := (hm.els_cons 0 3 (by decide) rfl rfl).pk (L' := [els [(nV aB.1.op), (nV aB.1.n_), (.string ⟨(aB.1.name).b.toArray⟩), a8] ([aB.1] : List Expr_), blk ae [(nV aA.2.2.1), (nV aA.2.2.2.1), (.string ⟨(aA.2.2.2.2.1).b.toArray⟩), (.slice aE aA.2.2.2.2.2.length aF), (nV aB.1.op), (nV aB.1.n_), (.string ⟨(aB.1.name).b.toArray⟩), a8] 24, blk bp0 [a7, (.bool (aB.2.bad))] 63, ow [a7] aB.2.list, blk aC [(nV 0), (nV 0), (.string ⟨((mkS [])).b.toArray⟩), (.slice none 0 0)] 24, blk aG [(nV aA.2.2.1), (nV aA.2.2.2.1), (.string ⟨(aA.2.2.2.2.1).b.toArray⟩), (.slice aE aA.2.2.2.2.2.length aF)] 24, ow [(.slice aE aA.2.2.2.2.2.length aF)] aA.2.2.2.2.2]) [0, 1, 2, 4, 5, 6, 7] rfl rfl
       replace hm : Mem w0 hz _ [els [(nV aB.1.op), (nV aB.1.n_), (.string ⟨(aB.1.name).b.toArray⟩), a8] ([aB.1] : List Expr_), blk ae [(nV aA.2.2.1), (nV aA.2.2.2.1), (.string ⟨(aA.2.2.2.2.1).b.toArray⟩), (.slice aE aA.2.2.2.2.2.length aF), (nV aB.1.op), (nV aB.1.n_), (.string ⟨(aB.1.name).b.toArray⟩), a8] 24, blk bp0 [a7, (.bool (aB.2.bad))] 63, ow [a7] aB.2.list, blk aC [(nV 0), (nV 0), (.string ⟨((mkS [])).b.toArray⟩), (.slice none 0 0)] 24, blk aG [(nV aA.2.2.1), (nV aA.2.2.2.1), (.string ⟨(aA.2.2.2.2.1).b.toArray⟩), (.slice aE aA.2.2.2.2.2.length aF)] 24, ow [(nV aA.2.2.1), (nV aA.2.2.2.1), (.string ⟨(aA.2.2.2.2.1).b.toArray⟩), (.slice aE aA.2.2.2.2.2.length aF)] ((⟨aA.2.2.1, aA.2.2.2.1, aA.2.2.2.2.1, aA.2.2.2.2.2⟩ : Expr_) : Expr_)] := mk_Expr_ aA.2.2.1 aA.2.2.2.1 aA.2.2.2.2.1 hm 6 rfl
       replace hm := (hm.els_cons 0 6 (by decide) rfl rfl).pk (L' := [els [(nV aA.2.2.1), (nV aA.2.2.2.1), (.string ⟨(aA.2.2.2.2.1).b.toArray⟩), (.slice aE aA.2.2.2.2.2.length aF), (nV aB.1.op), (nV aB.1.n_), (.string ⟨(aB.1.name).b.toArray⟩), a8] ([(⟨aA.2.2.1, aA.2.2.2.1, aA.2.2.2.2.1, aA.2.2.2.2.2⟩ : Expr_), aB.1] : List Expr_), blk ae [(nV aA.2.2.1), (nV aA.2.2.2.1), (.string ⟨(aA.2.2.2.2.1).b.toArray⟩), (.slice aE aA.2.2.2.2.2.length aF), (nV aB.1.op), (nV aB.1.n_), (.string ⟨(aB.1.name).b.toArray⟩), a8] 24, blk bp0 [a7, (.bool (aB.2.bad))] 63, ow [a7] aB.2.list, blk aC [(nV 0), (nV 0), (.string ⟨((mkS [])).b.toArray⟩), (.slice none 0 0)] 24, blk aG [(nV aA.2.2.1), (nV aA.2.2.2.1), (.string ⟨(aA.2.2.2.2.1).b.toArray⟩), (.slice aE aA.2.2.2.2.2.length aF)] 24]) [0, 1, 2, 3, 4, 5] rfl rfl
       replace hm := (hm.lit_els 1 0 (by decide) rfl rfl rfl rfl).pk (L' := [ow [(sV ae 0 2 2)] ([(⟨aA.2.2.1, aA.2.2.2.1, aA.2.2.2.2.1, aA.2.2.2.2.2⟩ : Expr_), aB.1] : List Expr_), blk bp0 [a7, (.bool (aB.2.bad))] 63, ow [a7] aB.2.list, blk aC [(nV 0), (nV 0), (.string ⟨((mkS [])).b.toArray⟩), (.slice none 0 0)] 24, blk aG [(nV aA.2.2.1), (nV aA.2.2.2.1), (.string ⟨(aA.2.2.2.2.1).b.toArray⟩), (.slice aE aA.2.2.2.2.2.length aF)] 24]) [1, 2, 3, 4, 5] rfl rfl
       refine tAn rfl (tP rfl (fun w => yG rfl (y_build (vs := [(0, (nV aN)), (3, (sV ae 0 2 2))]) (cs := #[(nV aN), (nV 0), (.string ⟨((mkS [])).b.toArray⟩), (sV ae 0 2 2)]) rfl rfl (by kernel_rfl))) (tO (tf0 rfl rfl (fun a hf => e_storeN 4 hf hm rfl sizeOf24 rfl rfl rfl (one_cons rfl (one_cons rfl (one_cons rfl (one_cons rfl one_nil)))) rfl rfl) ?_)))
       rintro _ w hm
       exact tAn rfl (tE (gZ fun a hf => ⟨a7, (sV ae 0 2 2), hf.sb rfl, hm.pk [1, 2, 3, 4, 0] rfl rfl⟩))
      repeat clear hm
      rintro aR a w ⟨aZ, aT, hf, hm⟩
      exact gv hf (gZe fun a hf => ⟨aZ, aT, hf.sb rfl, hm.pk [0, 1, 2, 3, 4] rfl rfl⟩)
     exact gcf rfl (gXt (gHh (gLp aq ap (gr (gZe fun a hf => ⟨aV, aW, hf.sb rfl, hm.pk [2, 3, 4, 0, 1] rfl rfl⟩)))))
    repeat clear hm
    rintro aU a w ⟨an, ao, hf, hm⟩
    exact gv hf (gS (gR (gY (yn (hm.blk_at 1 rfl) isAgg24 sizeOf24 rfl) (gSN hm 0 sizeOf24 (one_cons rfl (one_cons rfl (one_cons rfl (one_cons (rep_one (hm.ow_rep 2 rfl)) one_nil)))) rfl fun w hm => gE (gRt (grc 0 results46 hm rfl isAgg24 sizeOf24 ⟨an, ao, rfl, hm.pk [3, 2, 4] rfl rfl⟩))))))
  · intro rec_1 rec_2 ih_1 ih_2 r_ r hq w0 hz bp0 v1p hm0 hG0
    have pimpl_wordReader__expr_rec : ∀ (w0 : World) (hz : Heap) (r_ : wordReader) (bp0 : Nat) (v1p : Value) (level : Int) (hm0 : Mem w0 hz w0 [blk bp0 [v1p, (.bool (r_.bad))] 63, ow [v1p] r_.list]) (hG0 : GT.rep hz [.slice (some ⟨0, 0, none⟩) 1 1] [glob_impl_opSign]) (r : Expr_ × wordReader) (hq : rec_1 r_ level = some r), Con Tryz.prog 46 [(pV bp0), (nV level)] w0 (fun v w' => ∃ (x1 : Value) (x2 : Value), v = (.agg #[(nV r.1.op), (nV r.1.n_), (.string ⟨(r.1.name).b.toArray⟩), x1]) ∧ Mem w0 hz w' [blk bp0 [x2, (.bool (r.2.bad))] 63, ow [x1] r.1.kids, ow [x2] r.2.list]) := fun w0 hz r_ bp0 v1p level hm0 hG0 r hq => ih_1 r_ level r hq w0 hz bp0 v1p hm0 hG0
    have pimpl_wordReader__single_rec : ∀ (w0 : World) (hz : Heap) (r_ : wordReader) (bp0 : Nat) (v1p : Value) (hm0 : Mem w0 hz w0 [blk bp0 [v1p, (.bool (r_.bad))] 63, ow [v1p] r_.list]) (hG0 : GT.rep hz [.slice (some ⟨0, 0, none⟩) 1 1] [glob_impl_opSign]) (r : Expr_ × wordReader) (hq : rec_2 r_ = some r), Con Tryz.prog 104 [(pV bp0)] w0 (fun v w' => ∃ (x1 : Value) (x2 : Value), v = (.agg #[(nV r.1.op), (nV r.1.n_), (.string ⟨(r.1.name).b.toArray⟩), x1]) ∧ Mem w0 hz w' [blk bp0 [x2, (.bool (r.2.bad))] 63, ow [x1] r.1.kids, ow [x2] r.2.list]) := fun w0 hz r_ bp0 v1p hm0 hG0 r hq => ih_2 r_ r hq w0 hz bp0 v1p hm0 hG0
    refine gconr (ρ := Expr_ × wordReader) (R := fun r v w' => ∃ (x1 : Value) (x2 : Value), v = (.agg #[(nV r.1.op), (nV r.1.n_), (.string ⟨(r.1.name).b.toArray⟩), x1]) ∧ Mem w0 hz w' [blk bp0 [x2, (.bool (r.2.bad))] 63, ow [x1] r.1.kids, ow [x2] r.2.list]) func104 rfl hq ?_
    have hm := hm0
    refine gS (gR (gAl hm zeroValue24 rfl fun aC w hm => gE (gS (gR (gM rfl ?_)))))
    obtain ⟨bB, hle, hm1, hsub, bC⟩ := hm.take2 (L1 := [blk bp0 [v1p, (.bool (r_.bad))] 63, ow [v1p] r_.list]) (L2 := [blk aC [(nV 0), (nV 0), (.string ⟨((mkS [])).b.toArray⟩), (.slice none 0 0)] 24]) [1, 2] [0] (by decide) rfl rfl
    refine gCg rfl call106 (pimpl_wordReader__next_ok _ bB r_ bp0 v1p hm1 ) ?_
    rintro aD b7 b8 w ⟨aM, rfl, hB⟩
    replace hm := bC _ _ hB; clear hB
    refine gAl hm zeroValue56 rfl fun aG w hm => gSN hm 0 sizeOf56 (one_cons rfl (one_cons rfl one_nil)) rfl fun w hm => gE (gS (gBk (gS (gR (gM rfl (gY (yG rfl (y_nilptr rfl rfl)) (gF fo_63_1 rfl (gL hm 1 isAgg4 rfl (gA rfl (gE (gs 8 rfl (fun bA => ?_) fun bA => ?_)))))))))))
    ·
     refine gct rfl (gS (gR (gY (yG rfl (y_build (vs := []) (cs := #[(nV 0), (nV 0), (.string ⟨((mkS [])).b.toArray⟩), (.slice none 0 0)]) rfl rfl (by kernel_rfl))) (gSN hm 3 sizeOf24 (one_cons rfl (one_cons rfl (one_cons rfl (one_cons rfl one_nil)))) rfl fun w hm => gE (gRt ?_)))))
     replace hm := hm.nilow (α := Expr_)
     exact grc 4 results104 hm rfl isAgg24 sizeOf24 ⟨(.slice none 0 0), aM, rfl, hm.pk [2, 0, 3] rfl rfl⟩
    refine gcf rfl (gS (gW (.q 0 (.e 1 (.p 2 (.p 3 .fin)) .nil)) [1] [2, 3] hm [0, 1, 2, 3] [blk aG [(nV aD.1.kind), (.string ⟨(aD.1.text).b.toArray⟩)] 56, blk bp0 [aM, (.bool (aD.2.bad))] 63, ow [aM] aD.2.list, blk aC [(nV 0), (nV 0), (.string ⟨((mkS [])).b.toArray⟩), (.slice none 0 0)] 24] rfl mxo (by kernel_rfl) (fun _ _ _ h => h.2) fun w hm hS => tQ rfl hS (fun w hm => yn (hm.blk_at 0 rfl) isAgg56 sizeOf56 rfl) (tO (gb fun bF bV => tf rfl rfl (fun a hf => e_call hf rfl call80 rfl (impl_signWord_ok _ (mkS [33]) _ bV)) ?_))))
    rintro bU w ⟨rfl, hB⟩
    replace hm := hm.below' hB; clear hB
    refine tAk hm [0, 1, 2, 3] rfl fun hS => tP rfl (fun w => yG rfl (y_eqIS underlying56 (by kernel_rfl) (by kernel_rfl) (by decide) rfl rfl isAgg3 isAgg9 underlying3 underlying9 rfl rfl rfl)) (tP rfl (fun w => yA rfl) (tE (gs 14 rfl (fun bp => ?_) fun bp => ?_)))
    ·
     refine gct rfl (gS (gR (gM rfl ?_)))
     obtain ⟨bD, hle, hm1, hsub, bE⟩ := hm.take2 (L1 := [blk bp0 [aM, (.bool (aD.2.bad))] 63, ow [aM] aD.2.list]) (L2 := [blk aG [(nV aD.1.kind), (.string ⟨(aD.1.text).b.toArray⟩)] 56, blk aC [(nV 0), (nV 0), (.string ⟨((mkS [])).b.toArray⟩), (.slice none 0 0)] 24]) [1, 2] [0, 3] (by decide) rfl rfl
     refine gCg rfl call104 (pimpl_wordReader__single_rec _ bD aD.2 bp0 aM hm1 (GT.mono hle hG0)) ?_
     rintro aK cZ b9 w ⟨af, ab, rfl, hB⟩
     replace hm := bE _ _ hB; clear hB
     refine gf rfl (fun a hf => e_build (vs := #[(0, (.agg #[(nV aK.1.op), (nV aK.1.n_), (.string ⟨(aK.1.name).b.toArray⟩), af]))]) (cs := [(nV aK.1.op), (nV aK.1.n_), (.string ⟨(aK.1.name).b.toArray⟩), af]) et_22 hf hm rfl rfl (by kernel_rfl) rfl rfl) ?_
     rintro _ w ⟨ak, rfl, hm⟩
     replace hm := hm.els_nil (α := Expr_)
     replace hm : Mem w0 hz _ [els [] ([] : List Expr_), blk ak [(nV aK.1.op), (nV aK.1.n_), (.string ⟨(aK.1.name).b.toArray⟩), af] 24, blk bp0 [ab, (.bool (aK.2.bad))] 63, ow [(nV aK.1.op), (nV aK.1.n_), (.string ⟨(aK.1.name).b.toArray⟩), af] (aK.1 : Expr_), ow [ab] aK.2.list, blk aG [(nV aD.1.kind), (.string ⟨(aD.1.text).b.toArray⟩)] 56, blk aC [(nV 0), (nV 0), (.string ⟨((mkS [])).b.toArray⟩), (.slice none 0 0)] 24] := mkx_Expr_ aK.1 hm 3 rfl
     replace hm := (hm.els_cons 0 3 (by decide) rfl rfl).pk (L' := [els [(nV aK.1.op), (nV aK.1.n_), (.string ⟨(aK.1.name).b.toArray⟩), af] ([aK.1] : List Expr_), blk ak [(nV aK.1.op), (nV aK.1.n_), (.string ⟨(aK.1.name).b.toArray⟩), af] 24, blk bp0 [ab, (.bool (aK.2.bad))] 63, ow [ab] aK.2.list, blk aG [(nV aD.1.kind), (.string ⟨(aD.1.text).b.toArray⟩)] 56, blk aC [(nV 0), (nV 0), (.string ⟨((mkS [])).b.toArray⟩), (.slice none 0 0)] 24]) [0, 1, 2, 4, 5, 6] rfl rfl
     replace hm := (hm.lit_els 1 0 (by decide) rfl rfl rfl rfl).pk (L' := [ow [(sV ak 0 1 1)] ([aK.1] : List Expr_), blk bp0 [ab, (.bool (aK.2.bad))] 63, ow [ab] aK.2.list, blk aG [(nV aD.1.kind), (.string ⟨(aD.1.text).b.toArray⟩)] 56, blk aC [(nV 0), (nV 0), (.string ⟨((mkS [])).b.toArray⟩), (.slice none 0 0)] 24]) [1, 2, 3, 4, 5] rfl rfl
     exact gY (yG rfl (y_build (vs := [(0, (nV 11)), (3, (sV ak 0 1 1))]) (cs := #[(nV 11), (nV 0), (.string ⟨((mkS [])).b.toArray⟩), (sV ak 0 1 1)]) rfl rfl (by kernel_rfl))) (gSN hm 4 sizeOf24 (one_cons rfl (one_cons rfl (one_cons rfl (one_cons rfl one_nil)))) rfl fun w hm => gE (gRt (grc 4 results104 hm rfl isAgg24 sizeOf24 ⟨(sV ak 0 1 1), ab, rfl, hm.pk [1, 0, 2] rfl rfl⟩)))
    refine gcf rfl (gS (gW (.q 0 (.e 1 (.p 2 (.p 3 .fin)) .nil)) [1] [2, 3] hm [0, 1, 2, 3] [blk aG [(nV aD.1.kind), (.string ⟨(aD.1.text).b.toArray⟩)] 56, blk bp0 [aM, (.bool (aD.2.bad))] 63, ow [aM] aD.2.list, blk aC [(nV 0), (nV 0), (.string ⟨((mkS [])).b.toArray⟩), (.slice none 0 0)] 24] rfl mxo (by kernel_rfl) (fun _ _ _ h => h.2) fun w hm hS => tQ rfl hS (fun w hm => yn (hm.blk_at 0 rfl) isAgg56 sizeOf56 rfl) (tO (gb fun c8 bq => tf rfl rfl (fun a hf => e_call hf rfl call80 rfl (impl_signWord_ok _ (mkS [64]) _ bq)) ?_))))
    rintro an w ⟨rfl, hB⟩
    replace hm := hm.below' hB; clear hB
    refine tAk hm [0, 1, 2, 3] rfl fun hS => tP rfl (fun w => yG rfl (y_eqIS underlying56 (by kernel_rfl) (by kernel_rfl) (by decide) rfl rfl isAgg3 isAgg9 underlying3 underlying9 rfl rfl rfl)) (tP rfl (fun w => yA rfl) (tE (gs 22 rfl (fun br => ?_) fun br => ?_)))
    ·
     refine gct rfl (gS (gR (gM rfl ?_)))
     obtain ⟨bs, hle, hm1, hsub, bt⟩ := hm.take2 (L1 := [blk bp0 [aM, (.bool (aD.2.bad))] 63, ow [aM] aD.2.list]) (L2 := [blk aG [(nV aD.1.kind), (.string ⟨(aD.1.text).b.toArray⟩)] 56, blk aC [(nV 0), (nV 0), (.string ⟨((mkS [])).b.toArray⟩), (.slice none 0 0)] 24]) [1, 2] [0, 3] (by decide) rfl rfl
     refine gCg rfl call104 (pimpl_wordReader__single_rec _ bs aD.2 bp0 aM hm1 (GT.mono hle hG0)) ?_
     rintro aL c9 ao w ⟨al, ah, rfl, hB⟩
     replace hm := bt _ _ hB; clear hB
     refine gf rfl (fun a hf => e_build (vs := #[(0, (.agg #[(nV aL.1.op), (nV aL.1.n_), (.string ⟨(aL.1.name).b.toArray⟩), al]))]) (cs := [(nV aL.1.op), (nV aL.1.n_), (.string ⟨(aL.1.name).b.toArray⟩), al]) et_22 hf hm rfl rfl (by kernel_rfl) rfl rfl) ?_
     rintro _ w ⟨am, rfl, hm⟩
     replace hm := hm.els_nil (α := Expr_)
     replace hm : Mem w0 hz _ [els [] ([] : List Expr_), blk am [(nV aL.1.op), (nV aL.1.n_), (.string ⟨(aL.1.name).b.toArray⟩), al] 24, blk bp0 [ah, (.bool (aL.2.bad))] 63, ow [(nV aL.1.op), (nV aL.1.n_), (.string ⟨(aL.1.name).b.toArray⟩), al] (aL.1 : Expr_), ow [ah] aL.2.list, blk aG [(nV aD.1.kind), (.string ⟨(aD.1.text).b.toArray⟩)] 56, blk aC [(nV 0), (nV 0), (.string ⟨((mkS [])).b.toArray⟩), (.slice none 0 0)] 24] := mkx_Expr_ aL.1 hm 3 rfl
     replace hm := (hm.els_cons 0 3 (by decide) rfl rfl).pk (L' := [els [(nV aL.1.op), (nV aL.1.n_), (.string ⟨(aL.1.name).b.toArray⟩), al] ([aL.1] : List Expr_), blk am [(nV aL.1.op), (nV aL.1.n_), (.string ⟨(aL.1.name).b.toArray⟩), al] 24, blk bp0 [ah, (.bool (aL.2.bad))] 63, ow [ah] aL.2.list, blk aG [(nV aD.1.kind), (.string ⟨(aD.1.text).b.toArray⟩)] 56, blk aC [(nV 0), (nV 0), (.string ⟨((mkS [])).b.toArray⟩), (.slice none 0 0)] 24]) [0, 1, 2, 4, 5, 6] rfl rfl
     replace hm := (hm.lit_els 1 0 (by decide) rfl rfl rfl rfl).pk (L' := [ow [(sV am 0 1 1)] ([aL.1] : List Expr_), blk bp0 [ah, (.bool (aL.2.bad))] 63, ow [ah] aL.2.list, blk aG [(nV aD.1.kind), (.string ⟨(aD.1.text).b.toArray⟩)] 56, blk aC [(nV 0), (nV 0), (.string ⟨((mkS [])).b.toArray⟩), (.slice none 0 0)] 24]) [1, 2, 3, 4, 5] rfl rfl
     exact gY (yG rfl (y_build (vs := [(0, (nV 12)), (3, (sV am 0 1 1))]) (cs := #[(nV 12), (nV 0), (.string ⟨((mkS [])).b.toArray⟩), (sV am 0 1 1)]) rfl rfl (by kernel_rfl))) (gSN hm 4 sizeOf24 (one_cons rfl (one_cons rfl (one_cons rfl (one_cons rfl one_nil)))) rfl fun w hm => gE (gRt (grc 4 results104 hm rfl isAgg24 sizeOf24 ⟨(sV am 0 1 1), ah, rfl, hm.pk [1, 0, 2] rfl rfl⟩)))
    refine gcf rfl (gS (gW (.q 0 (.e 1 (.p 2 (.p 3 .fin)) .nil)) [1] [2, 3] hm [0, 1, 2, 3] [blk aG [(nV aD.1.kind), (.string ⟨(aD.1.text).b.toArray⟩)] 56, blk bp0 [aM, (.bool (aD.2.bad))] 63, ow [aM] aD.2.list, blk aC [(nV 0), (nV 0), (.string ⟨((mkS [])).b.toArray⟩), (.slice none 0 0)] 24] rfl mxo (by kernel_rfl) (fun _ _ _ h => h.2) fun w hm hS => tQ rfl hS (fun w hm => yn (hm.blk_at 0 rfl) isAgg56 sizeOf56 rfl) (tO (gb fun ca bu => tf rfl rfl (fun a hf => e_call hf rfl call80 rfl (impl_signWord_ok _ (mkS [40]) _ bu)) ?_))))
    rintro cb w ⟨rfl, hB⟩
    replace hm := hm.below' hB; clear hB
    refine tAk hm [0, 1, 2, 3] rfl fun hS => tP rfl (fun w => yG rfl (y_eqIS underlying56 (by kernel_rfl) (by kernel_rfl) (by decide) rfl rfl isAgg3 isAgg9 underlying3 underlying9 rfl rfl rfl)) (tP rfl (fun w => yA rfl) (tE (gs 30 rfl (fun bv => ?_) fun bv => ?_)))
    ·
     refine gct rfl (gS (gR (gM rfl ?_)))
     obtain ⟨bw, hle, hm1, hsub, bx⟩ := hm.take2 (L1 := [blk bp0 [aM, (.bool (aD.2.bad))] 63, ow [aM] aD.2.list]) (L2 := [blk aG [(nV aD.1.kind), (.string ⟨(aD.1.text).b.toArray⟩)] 56, blk aC [(nV 0), (nV 0), (.string ⟨((mkS [])).b.toArray⟩), (.slice none 0 0)] 24]) [1, 2] [0, 3] (by decide) rfl rfl
     refine gCg rfl call46 (pimpl_wordReader__expr_rec _ bw aD.2 bp0 aM 1 hm1 (GT.mono hle hG0)) ?_
     rintro ai cc cd w ⟨bS, bT, rfl, hB⟩
     replace hm := bx _ _ hB; clear hB
     refine gAl hm zeroValue24 rfl fun bz w hm => gSN hm 0 sizeOf24 (one_cons rfl (one_cons rfl (one_cons rfl (one_cons (rep_one (hm.ow_rep 2 rfl)) one_nil)))) rfl fun w hm => gE (gS (gR (gM rfl ?_)))
     obtain ⟨cA, hle, hm1, hsub, cB⟩ := hm.take2 (L1 := [blk bp0 [bT, (.bool (ai.2.bad))] 63, ow [bT] ai.2.list]) (L2 := [blk bz [(nV ai.1.op), (nV ai.1.n_), (.string ⟨(ai.1.name).b.toArray⟩), bS] 24, ow [bS] ai.1.kids, blk aG [(nV aD.1.kind), (.string ⟨(aD.1.text).b.toArray⟩)] 56, blk aC [(nV 0), (nV 0), (.string ⟨((mkS [])).b.toArray⟩), (.slice none 0 0)] 24]) [1, 3] [0, 2, 4, 5] (by decide) rfl rfl
     refine gCg rfl call129 (pimpl_wordReader__want_ok _ cA ai.2 bp0 bT 3 (mkS [41]) hm1 ) ?_
     rintro ce cf cg w ⟨cC, rfl, hB⟩
     replace hm := cB _ _ hB; clear hB
     exact gE (gS (gR (gY (yn (hm.blk_at 2 rfl) isAgg24 sizeOf24 rfl) (gSN hm 5 sizeOf24 (one_cons rfl (one_cons rfl (one_cons rfl (one_cons (rep_one (hm.ow_rep 3 rfl)) one_nil)))) rfl fun w hm => gE (gRt (grc 5 results104 hm rfl isAgg24 sizeOf24 ⟨bS, cC, rfl, hm.pk [0, 3, 1] rfl rfl⟩))))))
    refine gcf rfl (gS (gR (gF fo_56_0 rfl (gL hm 0 isAgg3 rfl (gB rfl (gA rfl (gE (gsd 39 rfl (fun cD => ?_) fun cD => ?_))))))))
    ·
     refine gct rfl (gS (gR (gY (yn (hm.blk_at 0 rfl) isAgg56 sizeOf56 rfl) (gC hm rfl call159 (impl_NumberOf_ok _ aD.1) fun b6 ci w hm => gY (yG rfl (y_build (vs := [(0, (nV 1)), (1, (nV b6))]) (cs := #[(nV 1), (nV b6), (.string ⟨((mkS [])).b.toArray⟩), (.slice none 0 0)]) rfl rfl (by kernel_rfl))) (gSN hm 3 sizeOf24 (one_cons rfl (one_cons rfl (one_cons rfl (one_cons rfl one_nil)))) rfl fun w hm => gE (gRt ?_))))))
     replace hm := hm.nilow (α := Expr_)
     exact grc 4 results104 hm rfl isAgg24 sizeOf24 ⟨(.slice none 0 0), aM, rfl, hm.pk [2, 0, 3] rfl rfl⟩
    refine gcf rfl (gS (gR (gF fo_56_0 rfl (gL hm 0 isAgg3 rfl (gB rfl (gA rfl (gE (gsd 46 rfl (fun cE => ?_) fun cE => ?_))))))))
    ·
     refine gct rfl (gS (gR (gM rfl (gY (yG rfl (y_nilptr rfl rfl)) (gF fo_63_1 rfl (gS1 hm 1 sizeOf4 rfl rfl fun w hm => gE (gS (gR (gY (yG rfl (y_build (vs := []) (cs := #[(nV 0), (nV 0), (.string ⟨((mkS [])).b.toArray⟩), (.slice none 0 0)]) rfl rfl (by kernel_rfl))) (gSN hm 3 sizeOf24 (one_cons rfl (one_cons rfl (one_cons rfl (one_cons rfl one_nil)))) rfl fun w hm => gE (gRt ?_)))))))))))
     replace hm := hm.nilow (α := Expr_)
     exact grc 4 results104 hm rfl isAgg24 sizeOf24 ⟨(.slice none 0 0), aM, rfl, hm.pk [2, 0, 3] rfl rfl⟩
    refine gcf rfl (gS (gR (gM rfl ?_)))
    obtain ⟨cF, hle, hm1, hsub, cG⟩ := hm.take2 (L1 := [blk bp0 [aM, (.bool (aD.2.bad))] 63, ow [aM] aD.2.list]) (L2 := [blk aG [(nV aD.1.kind), (.string ⟨(aD.1.text).b.toArray⟩)] 56, blk aC [(nV 0), (nV 0), (.string ⟨((mkS [])).b.toArray⟩), (.slice none 0 0)] 24]) [1, 2] [0, 3] (by decide) rfl rfl
    refine gCg rfl call131 (pimpl_wordReader__take_ok _ cF aD.2 bp0 aM 3 (mkS [40]) hm1 ) ?_
    rintro cH cj ck w ⟨cI, rfl, hB⟩
    replace hm := cG _ _ hB; clear hB
    refine gN rfl (gA rfl (gE (gsn 54 rfl (fun cJ => ?_) fun cJ => ?_)))
    ·
     refine gct rfl (gS (gR (gF fo_56_1 rfl (gL hm 2 isAgg9 rfl (gY (yG rfl (y_build (vs := [(0, (nV 2)), (2, (.string ⟨(aD.1.text).b.toArray⟩))]) (cs := #[(nV 2), (nV 0), (.string ⟨(aD.1.text).b.toArray⟩), (.slice none 0 0)]) rfl rfl (by kernel_rfl))) (gSN hm 3 sizeOf24 (one_cons rfl (one_cons rfl (one_cons rfl (one_cons rfl one_nil)))) rfl fun w hm => gE (gRt ?_)))))))
     replace hm := hm.nilow (α := Expr_)
     exact grc 4 results104 hm rfl isAgg24 sizeOf24 ⟨(.slice none 0 0), cI, rfl, hm.pk [1, 0, 2] rfl rfl⟩
    refine gcf rfl (gSk (gS (gR (gF fo_56_1 rfl (gL hm 2 isAgg9 rfl (gY (yG rfl (y_build (vs := [(0, (nV 13)), (2, (.string ⟨(aD.1.text).b.toArray⟩))]) (cs := #[(nV 13), (nV 0), (.string ⟨(aD.1.text).b.toArray⟩), (.slice none 0 0)]) rfl rfl (by kernel_rfl))) (gAl hm zeroValue24 rfl fun aO w hm => gSN hm 0 sizeOf24 (one_cons rfl (one_cons rfl (one_cons rfl (one_cons rfl one_nil)))) rfl fun w hm => gE (gS ?_))))))))
    obtain ⟨bG, bH, rfl, ba⟩ := ro_slice (hm.ow_rep 2 rfl)
    refine gJg (fun aU a w => ∃ (ay az : Value), St 88 [(2, (pV aC)), (5, (pV aO))] w0 hz [blk aC [(nV 0), (nV 0), (.string ⟨((mkS [])).b.toArray⟩), (.slice none 0 0)] 24, blk aO [(nV 13), (nV 0), (.string ⟨(aD.1.text).b.toArray⟩), ay] 24, ow [ay] aU.1, blk bp0 [az, (.bool (aU.2.2))] 63, ow [az] aU.2.1] a w) (fun aU => ?_) ?_
    ·
     refine gBk ?_
     replace hm := hm.nilow (α := Expr_)
     refine gMg (fun aA a w => ∃ (aW aV : Value), St 88 [(0, (pV bp0)), (2, (pV aC)), (5, (pV aO))] w0 hz [blk bp0 [aW, (.bool (aA.2.1))] 63, ow [aW] aA.1, blk aC [(nV 0), (nV 0), (.string ⟨((mkS [])).b.toArray⟩), (.slice none 0 0)] 24, blk aO [(nV 13), (nV 0), (.string ⟨(aD.1.text).b.toArray⟩), aV] 24, ow [aV] aA.2.2] a w) (fun a hf => ⟨(.slice bG cH.2.list.length bH), (.slice none 0 0), hf.sb rfl, hm.pk [2, 3, 5, 1, 0] rfl rfl⟩) ?_
     repeat clear hm
     rintro be ap aA a w ⟨aW, aV, hf, hm⟩ bf aq
     refine gv hf (gS (gS (gJg (fun aN a w => ∃ (aP : Value), St 88 [(0, (pV bp0)), (2, (pV aC)), (5, (pV aO)), (73, (.bool (aN.2.2)))] w0 hz [blk bp0 [aP, (.bool (aN.2.1))] 63, ow [aP] aN.1, blk aC [(nV 0), (nV 0), (.string ⟨((mkS [])).b.toArray⟩), (.slice none 0 0)] 24, blk aO [(nV 13), (nV 0), (.string ⟨(aD.1.text).b.toArray⟩), aV] 24, ow [aV] aA.2.2] a w) (fun aN => ?_) ?_)))
     ·
      refine gR (gM rfl (gY (yG rfl (y_nilptr rfl rfl)) (gF fo_63_1 rfl (gL hm 0 isAgg4 rfl (gN rfl (gM rfl (gsn 69 rfl (fun cK => ?_) fun cK => ?_)))))))
      ·
       refine gM rfl ?_
       obtain ⟨bO, hle, hm1, hsub, bP⟩ := hm.take2 (L1 := [blk bp0 [aW, (.bool (aA.2.1))] 63, ow [aW] aA.1]) (L2 := [blk aC [(nV 0), (nV 0), (.string ⟨((mkS [])).b.toArray⟩), (.slice none 0 0)] 24, blk aO [(nV 13), (nV 0), (.string ⟨(aD.1.text).b.toArray⟩), aV] 24, ow [aV] aA.2.2]) [0, 1] [2, 3, 4] (by decide) rfl rfl
       refine gCg rfl call131 (pimpl_wordReader__take_ok _ bO (⟨aA.1, aA.2.1⟩ : wordReader) bp0 aW 3 (mkS [41]) hm1 ) ?_
       rintro cl cm bo w ⟨aX, rfl, hB⟩
       replace hm := bP _ _ hB; clear hB
       exact gN rfl (gKt rfl (gE (gZ fun a hf => ⟨aX, hf.sb rfl, hm.pk [0, 1, 2, 3, 4] rfl rfl⟩)))
      exact gO rfl (gO rfl (gO rfl (gKf rfl (gE (gZ fun a hf => ⟨aW, hf.sb rfl, hm.pk [0, 1, 2, 3, 4] rfl rfl⟩)))))
     repeat clear hm
     rintro aN a w ⟨aP, hf, hm⟩
     refine gv hf (gs 73 rfl (fun bJ => ?_) fun bJ => ?_)
     ·
      refine gct rfl (gSk (gBk (gS (gS (gR (gF fo_24_3 rfl (gL hm 3 isAgg22 rfl ?_)))))))
      obtain ⟨aI, aJ, rfl, bh⟩ := ro_slice (hm.ow_rep 4 rfl)
      refine gY (yV st_22 rfl) (gB rfl (gE (gJg (fun aR a w => ∃ (ag : Value), St 88 [(0, (pV bp0)), (2, (pV aC)), (5, (pV aO))] w0 hz [blk bp0 [ag, (.bool (aR.2))] 63, ow [ag] aR.1, blk aC [(nV 0), (nV 0), (.string ⟨((mkS [])).b.toArray⟩), (.slice none 0 0)] 24, blk aO [(nV 13), (nV 0), (.string ⟨(aD.1.text).b.toArray⟩), (.slice aI aA.2.2.length aJ)] 24, ow [(.slice aI aA.2.2.length aJ)] aA.2.2] a w) (fun aR => ?_) ?_)))
      ·
       refine gsd 77 rfl (fun cL => ?_) fun cL => ?_
       ·
        refine gct rfl (gR (gM rfl ?_))
        obtain ⟨bQ, hle, hm1, hsub, bR⟩ := hm.take2 (L1 := [blk bp0 [aP, (.bool (aN.2.1))] 63, ow [aP] aN.1]) (L2 := [blk aC [(nV 0), (nV 0), (.string ⟨((mkS [])).b.toArray⟩), (.slice none 0 0)] 24, blk aO [(nV 13), (nV 0), (.string ⟨(aD.1.text).b.toArray⟩), (.slice aI aA.2.2.length aJ)] 24, ow [(.slice aI aA.2.2.length aJ)] aA.2.2]) [0, 1] [2, 3, 4] (by decide) rfl rfl
        refine gCg rfl call129 (pimpl_wordReader__want_ok _ bQ (⟨aN.1, aN.2.1⟩ : wordReader) bp0 aP 3 (mkS [44]) hm1 ) ?_
        rintro cn co aY w ⟨b5, rfl, hB⟩
        replace hm := bR _ _ hB; clear hB
        exact gE (gZ fun a hf => ⟨b5, hf.sb rfl, hm.pk [0, 1, 2, 3, 4] rfl rfl⟩)
       exact gcf rfl (gSk (gZ fun a hf => ⟨aP, hf.sb rfl, hm.pk [0, 1, 2, 3, 4] rfl rfl⟩))
      repeat clear hm
      rintro aR a w ⟨ag, hf, hm⟩
      refine gv hf (gW (.p 0 (.p 2 (.q 1 (.e 3 (.e 4 (.e 5 (.p 6 (.e 7 .fin .nil)) .nil) .nil) .nil)))) [3, 4] [0, 2, 6] hm [2, 3, 4] [blk aC [(nV 0), (nV 0), (.string ⟨((mkS [])).b.toArray⟩), (.slice none 0 0)] 24, blk aO [(nV 13), (nV 0), (.string ⟨(aD.1.text).b.toArray⟩), (.slice aI aA.2.2.length aJ)] 24, ow [(.slice aI aA.2.2.length aJ)] aA.2.2] rfl mxo (by kernel_rfl) (fun _ _ _ h => h.2) fun w hm hS => tP rfl (fun w => yF fo_24_3 rfl) (tP rfl (fun w => yM rfl) (tQ rfl hS (fun w hm => yL hm 1 isAgg22 rfl) (tO (gb fun aH bZ => ?_)))))
      obtain ⟨bM, hle, hm1, hsub, bN⟩ := hm.take2 (L1 := [blk bp0 [ag, (.bool (aR.2))] 63, ow [ag] aR.1]) (L2 := [blk aC [(nV 0), (nV 0), (.string ⟨((mkS [])).b.toArray⟩), (.slice none 0 0)] 24, blk aO [(nV 13), (nV 0), (.string ⟨(aD.1.text).b.toArray⟩), (.slice aI aA.2.2.length aJ)] 24, ow [(.slice aI aA.2.2.length aJ)] aA.2.2]) [0, 1] [2, 3, 4] (by decide) rfl rfl
      refine tf rfl rfl (fun a hf => e_call hf rfl call46 rfl (pimpl_wordReader__expr_rec _ bM (⟨aR.1, aR.2⟩ : wordReader) bp0 ag 1 hm1 (GT.mono hle hG0) _ bZ)) ?_
      rintro aa w ⟨aZ, aT, rfl, hB⟩
      replace hm := bN _ _ hB; clear hB
      refine tAk hm [3, 4, 5] rfl fun hS => tO (tf rfl rfl (fun a hf => e_build (vs := #[(0, (.agg #[(nV aH.1.op), (nV aH.1.n_), (.string ⟨(aH.1.name).b.toArray⟩), aZ]))]) (cs := [(nV aH.1.op), (nV aH.1.n_), (.string ⟨(aH.1.name).b.toArray⟩), aZ]) et_22 hf hm rfl rfl (by kernel_rfl) rfl rfl) ?_)
      rintro _ w ⟨aQ, rfl, hm⟩
      replace hm := hm.els_nil (α := Expr_)
      replace hm : Mem w0 hz _ [els [] ([] : List Expr_), blk aQ [(nV aH.1.op), (nV aH.1.n_), (.string ⟨(aH.1.name).b.toArray⟩), aZ] 24, blk bp0 [aT, (.bool (aH.2.bad))] 63, ow [(nV aH.1.op), (nV aH.1.n_), (.string ⟨(aH.1.name).b.toArray⟩), aZ] (aH.1 : Expr_), ow [aT] aH.2.list, blk aC [(nV 0), (nV 0), (.string ⟨((mkS [])).b.toArray⟩), (.slice none 0 0)] 24, blk aO [(nV 13), (nV 0), (.string ⟨(aD.1.text).b.toArray⟩), (.slice aI aA.2.2.length aJ)] 24, ow [(.slice aI aA.2.2.length aJ)] aA.2.2] := mkx_Expr_ aH.1 hm 3 rfl
      replace hm := (hm.els_cons 0 3 (by decide) rfl rfl).pk (L' := [els [(nV aH.1.op), (nV aH.1.n_), (.string ⟨(aH.1.name).b.toArray⟩), aZ] ([aH.1] : List Expr_), blk aQ [(nV aH.1.op), (nV aH.1.n_), (.string ⟨(aH.1.name).b.toArray⟩), aZ] 24, blk bp0 [aT, (.bool (aH.2.bad))] 63, ow [aT] aH.2.list, blk aC [(nV 0), (nV 0), (.string ⟨((mkS [])).b.toArray⟩), (.slice none 0 0)] 24, blk aO [(nV 13), (nV 0), (.string ⟨(aD.1.text).b.toArray⟩), (.slice aI aA.2.2.length aJ)] 24, ow [(.slice aI aA.2.2.length aJ)] aA.2.2]) [0, 1, 2, 4, 5, 6, 7] rfl rfl
      replace hm := (hm.lit_els 1 0 (by decide) rfl rfl rfl rfl).pk (L' := [ow [(sV aQ 0 1 1)] ([aH.1] : List Expr_), blk bp0 [aT, (.bool (aH.2.bad))] 63, ow [aT] aH.2.list, blk aC [(nV 0), (nV 0), (.string ⟨((mkS [])).b.toArray⟩), (.slice none 0 0)] 24, blk aO [(nV 13), (nV 0), (.string ⟨(aD.1.text).b.toArray⟩), (.slice aI aA.2.2.length aJ)] 24, ow [(.slice aI aA.2.2.length aJ)] aA.2.2]) [1, 2, 3, 4, 5, 6] rfl rfl
      refine tAk hm [3, 4, 5] rfl fun hS => tO (gb fun cp cM => ?_)
      obtain ⟨bL, cN⟩ := appM_some.1 cM
      replace hm := (hm.both 5 0 (by decide) rfl rfl).pk (L' := [blk bp0 [aT, (.bool (aH.2.bad))] 63, ow [aT] aH.2.list, blk aC [(nV 0), (nV 0), (.string ⟨((mkS [])).b.toArray⟩), (.slice none 0 0)] 24, blk aO [(nV 13), (nV 0), (.string ⟨(aD.1.text).b.toArray⟩), (.slice aI aA.2.2.length aJ)] 24, both (ow [(.slice aI aA.2.2.length aJ)] aA.2.2) (ow [(sV aQ 0 1 1)] ([aH.1] : List Expr_))]) [1, 2, 3, 4, 5] rfl rfl
      refine tf rfl rfl (fun a hf => e_appendD (xs := aA.2.2) (ys := ([aH.1] : List Expr_)) 4 et_22 hf hm rfl rfl rfl rfl bL) ?_
      rintro cO w hm
      rw [cN] at hm
      refine tAn rfl (tP rfl (fun w => yF fo_24_3 rfl) (tO (tf0 rfl rfl (fun a hf => e_store1 3 hf hm rfl sizeOf22 rfl rfl rfl (rep_one (hm.ow_rep 4 rfl)) rfl) ?_)))
      rintro _ w hm
      exact tAn rfl (tE (gZe fun a hf => ⟨aT, cO, hf.sb rfl, hm.pk [0, 1, 2, 3, 4] rfl rfl⟩))
     exact gcf rfl (gXt (gHh (gLp aq ap (gZ fun a hf => ⟨aV, aP, hf.sb rfl, hm.pk [2, 3, 4, 0, 1] rfl rfl⟩))))
    repeat clear hm
    rintro aU a w ⟨ay, az, hf, hm⟩
    exact gv hf (gS (gR (gY (yn (hm.blk_at 1 rfl) isAgg24 sizeOf24 rfl) (gSN hm 0 sizeOf24 (one_cons rfl (one_cons rfl (one_cons rfl (one_cons (rep_one (hm.ow_rep 2 rfl)) one_nil)))) rfl fun w hm => gE (gRt (grc 0 results104 hm rfl isAgg24 sizeOf24 ⟨ay, az, rfl, hm.pk [3, 2, 4] rfl rfl⟩))))))
theorem pimpl_wordReader__expr_ok (w0 : World) (hz : Heap) (r_ : wordReader) (bp0 : Nat) (v1p : Value) (level : Int) (hm0 : Mem w0 hz w0 [blk bp0 [v1p, (.bool (r_.bad))] 63, ow [v1p] r_.list]) (hG0 : GT.rep hz [.slice (some ⟨0, 0, none⟩) 1 1] [glob_impl_opSign]) (r : Expr_ × wordReader) (hq : pimpl_wordReader__expr r_ level = some r) : Con Tryz.prog 46 [(pV bp0), (nV level)] w0 (fun v w' => ∃ (x1 : Value) (x2 : Value), v = (.agg #[(nV r.1.op), (nV r.1.n_), (.string ⟨(r.1.name).b.toArray⟩), x1]) ∧ Mem w0 hz w' [blk bp0 [x2, (.bool (r.2.bad))] 63, ow [x1] r.1.kids, ow [x2] r.2.list]) := (pimpl_wordReader__expr_all ).1 r_ level r hq w0 hz bp0 v1p hm0 hG0
theorem pimpl_wordReader__block_all  : (∀ (r_ : wordReader) (r : (List Stmt_) × wordReader), pimpl_wordReader__block r_ = some r → ∀ (w0 : World) (hz : Heap) (bp0 : Nat) (v1p : Value) (hm0 : Mem w0 hz w0 [blk bp0 [v1p, (.bool (r_.bad))] 63, ow [v1p] r_.list]) (hG0 : GT.rep hz [.slice (some ⟨0, 0, none⟩) 1 1] [glob_impl_opSign]) (hG2 : GT.rep hz [.slice (some ⟨2, 0, none⟩) 1 1] [glob_impl_stmtKeys]), Con Tryz.prog 132 [(pV bp0)] w0 (fun v w' => ∃ (x1 : Value) (x2 : Value), v = x1 ∧ Mem w0 hz w' [blk bp0 [x2, (.bool (r.2.bad))] 63, ow [x1] r.1, ow [x2] r.2.list])) ∧
    (∀ (r_ : wordReader) (r : Stmt_ × wordReader), pimpl_wordReader__stmt r_ = some r → ∀ (w0 : World) (hz : Heap) (bp0 : Nat) (v1p : Value) (hm0 : Mem w0 hz w0 [blk bp0 [v1p, (.bool (r_.bad))] 63, ow [v1p] r_.list]) (hG0 : GT.rep hz [.slice (some ⟨0, 0, none⟩) 1 1] [glob_impl_opSign]) (hG2 : GT.rep hz [.slice (some ⟨2, 0, none⟩) 1 1] [glob_impl_stmtKeys]), Con Tryz.prog 169 [(pV bp0)] w0 (fun v w' => ∃ (x1 : Value) (x2 : Value) (x3 : Value) (x4 : Value), v = (.agg #[(nV r.1.op), (.string ⟨(r.1.name).b.toArray⟩), x1, x2, x3]) ∧ Mem w0 hz w' [blk bp0 [x4, (.bool (r.2.bad))] 63, ow [x1] r.1.args, ow [x2] r.1.body, ow [x3] r.1.else_, ow [x4] r.2.list])) := by
  refine pimpl_wordReader__block.mutual_partial_correctness  (motive_1 := fun r_ r => ∀ (w0 : World) (hz : Heap) (bp0 : Nat) (v1p : Value) (hm0 : Mem w0 hz w0 [blk bp0 [v1p, (.bool (r_.bad))] 63, ow [v1p] r_.list]) (hG0 : GT.rep hz [.slice (some ⟨0, 0, none⟩) 1 1] [glob_impl_opSign]) (hG2 : GT.rep hz [.slice (some ⟨2, 0, none⟩) 1 1] [glob_impl_stmtKeys]), Con Tryz.prog 132 [(pV bp0)] w0 (fun v w' => ∃ (x1 : Value) (x2 : Value), v = x1 ∧ Mem w0 hz w' [blk bp0 [x2, (.bool (r.2.bad))] 63, ow [x1] r.1, ow [x2] r.2.list])) (motive_2 := fun r_ r => ∀ (w0 : World) (hz : Heap) (bp0 : Nat) (v1p : Value) (hm0 : Mem w0 hz w0 [blk bp0 [v1p, (.bool (r_.bad))] 63, ow [v1p] r_.list]) (hG0 : GT.rep hz [.slice (some ⟨0, 0, none⟩) 1 1] [glob_impl_opSign]) (hG2 : GT.rep hz [.slice (some ⟨2, 0, none⟩) 1 1] [glob_impl_stmtKeys]), Con Tryz.prog 169 [(pV bp0)] w0 (fun v w' => ∃ (x1 : Value) (x2 : Value) (x3 : Value) (x4 : Value), v = (.agg #[(nV r.1.op), (.string ⟨(r.1.name).b.toArray⟩), x1, x2, x3]) ∧ Mem w0 hz w' [blk bp0 [x4, (.bool (r.2.bad))] 63, ow [x1] r.1.args, ow [x2] r.1.body, ow [x3] r.1.else_, ow [x4] r.2.list])) ?_ ?_
  · intro rec_ ih_ r_ r hq w0 hz bp0 v1p hm0 hG0 hG2
    have pimpl_wordReader__stmt_rec : ∀ (w0 : World) (hz : Heap) (r_ : wordReader) (bp0 : Nat) (v1p : Value) (hm0 : Mem w0 hz w0 [blk bp0 [v1p, (.bool (r_.bad))] 63, ow [v1p] r_.list]) (hG0 : GT.rep hz [.slice (some ⟨0, 0, none⟩) 1 1] [glob_impl_opSign]) (hG2 : GT.rep hz [.slice (some ⟨2, 0, none⟩) 1 1] [glob_impl_stmtKeys]) (r : Stmt_ × wordReader) (hq : rec_ r_ = some r), Con Tryz.prog 169 [(pV bp0)] w0 (fun v w' => ∃ (x1 : Value) (x2 : Value) (x3 : Value) (x4 : Value), v = (.agg #[(nV r.1.op), (.string ⟨(r.1.name).b.toArray⟩), x1, x2, x3]) ∧ Mem w0 hz w' [blk bp0 [x4, (.bool (r.2.bad))] 63, ow [x1] r.1.args, ow [x2] r.1.body, ow [x3] r.1.else_, ow [x4] r.2.list]) := fun w0 hz r_ bp0 v1p hm0 hG0 hG2 r hq => ih_ r_ r hq w0 hz bp0 v1p hm0 hG0 hG2
    refine gconr (ρ := (List Stmt_) × wordReader) (R := fun r v w' => ∃ (x1 : Value) (x2 : Value), v = x1 ∧ Mem w0 hz w' [blk bp0 [x2, (.bool (r.2.bad))] 63, ow [x1] r.1, ow [x2] r.2.list]) func132 rfl hq ?_
    have hm := hm0
    refine gS (gR (gA rfl (gE (gS (gR (gA rfl (gE (gS (gR (gM rfl ?_))))))))))
    obtain ⟨bC, hle, hm1, hsub, bD⟩ := hm.take2 (L1 := [blk bp0 [v1p, (.bool (r_.bad))] 63, ow [v1p] r_.list]) (L2 := []) [0, 1] [] (by decide) rfl rfl
    refine gCg rfl call129 (pimpl_wordReader__want_ok _ bC r_ bp0 v1p 3 (mkS [123]) hm1 ) ?_
    rintro aF bP bQ w ⟨aR, rfl, hB⟩
    replace hm := bD _ _ hB; clear hB
    refine gE (gS ?_)
    obtain ⟨bR, bN, rfl, cI⟩ := ro_slice (hm.ow_rep 1 rfl)
    refine gJg (fun aA a w => ∃ (ah aT : Value), St 22 [(3, ah)] w0 hz [ow [ah] aA.1, blk bp0 [aT, (.bool (aA.2.2))] 63, ow [aT] aA.2.1] a w) (fun aA => ?_) ?_
    ·
     refine gBk ?_
     replace hm := hm.nilow (α := Stmt_)
     refine gMg (fun aJ a w => ∃ (aP aO : Value), St 22 [(0, (pV bp0)), (3, aO)] w0 hz [blk bp0 [aP, (.bool (aJ.2.1))] 63, ow [aP] aJ.1, ow [aO] aJ.2.2] a w) (fun a hf => ⟨(.slice bR aF.list.length bN), (.slice none 0 0), hf.sb rfl, hm.pk [1, 2, 0] rfl rfl⟩) ?_
     repeat clear hm
     rintro an bS aJ a w ⟨aP, aO, hf, hm⟩ cJ bT
     refine gv hf (gS (gS (gJg (fun aK a w => ∃ (aX : Value), St 22 [(0, (pV bp0)), (3, aO), (15, (.bool (aK.2.2)))] w0 hz [blk bp0 [aX, (.bool (aK.2.1))] 63, ow [aX] aK.1, ow [aO] aJ.2.2] a w) (fun aK => ?_) ?_)))
     ·
      refine gR (gM rfl (gY (yG rfl (y_nilptr rfl rfl)) (gF fo_63_1 rfl (gL hm 0 isAgg4 rfl (gN rfl (gM rfl (gsn 11 rfl (fun bE => ?_) fun bE => ?_)))))))
      ·
       refine gM rfl ?_
       obtain ⟨bF, hle, hm1, hsub, bG⟩ := hm.take2 (L1 := [blk bp0 [aP, (.bool (aJ.2.1))] 63, ow [aP] aJ.1]) (L2 := [ow [aO] aJ.2.2]) [0, 1] [2] (by decide) rfl rfl
       refine gCg rfl call131 (pimpl_wordReader__take_ok _ bF (⟨aJ.1, aJ.2.1⟩ : wordReader) bp0 aP 3 (mkS [125]) hm1 ) ?_
       rintro ai bU bV w ⟨aj, rfl, hB⟩
       replace hm := bG _ _ hB; clear hB
       exact gN rfl (gKt rfl (gE (gZ fun a hf => ⟨aj, hf.sb rfl, hm.pk [0, 1, 2] rfl rfl⟩)))
      exact gO rfl (gO rfl (gO rfl (gKf rfl (gE (gZ fun a hf => ⟨aP, hf.sb rfl, hm.pk [0, 1, 2] rfl rfl⟩)))))
     repeat clear hm
     rintro aK a w ⟨aX, hf, hm⟩
     refine gv hf (gs 15 rfl (fun bH => ?_) fun bH => ?_)
     ·
      refine gct rfl (gSk (gBk (gR (gM rfl (gM rfl ?_)))))
      obtain ⟨bJ, hle, hm1, hsub, bK⟩ := hm.take2 (L1 := [blk bp0 [aX, (.bool (aK.2.1))] 63, ow [aX] aK.1]) (L2 := [ow [aO] aJ.2.2]) [0, 1] [2] (by decide) rfl rfl
      refine gCg rfl call169 (pimpl_wordReader__stmt_rec _ bJ (⟨aK.1, aK.2.1⟩ : wordReader) bp0 aX hm1 (GT.mono hle hG0) (GT.mono hle hG2)) ?_
      rintro aG bW aW w ⟨aa, aU, aM, aN, rfl, hB⟩
      replace hm := bK _ _ hB; clear hB
      refine gf rfl (fun a hf => e_build (vs := #[(0, (.agg #[(nV aG.1.op), (.string ⟨(aG.1.name).b.toArray⟩), aa, aU, aM]))]) (cs := [(nV aG.1.op), (.string ⟨(aG.1.name).b.toArray⟩), aa, aU, aM]) et_92 hf hm rfl rfl (by kernel_rfl) rfl rfl) ?_
      rintro _ w ⟨ao, rfl, hm⟩
      replace hm := hm.els_nil (α := Stmt_)
      replace hm := (mkx_Stmt_ aG.1 hm 3 4 5 rfl).pk (L' := [els [] ([] : List Stmt_), blk ao [(nV aG.1.op), (.string ⟨(aG.1.name).b.toArray⟩), aa, aU, aM] 105, blk bp0 [aN, (.bool (aG.2.bad))] 63, ow [(nV aG.1.op), (.string ⟨(aG.1.name).b.toArray⟩), aa, aU, aM] (aG.1 : Stmt_), ow [aN] aG.2.list, ow [aO] aJ.2.2]) [0, 1, 2, 3, 6, 7] rfl rfl
      replace hm := (hm.els_cons 0 3 (by decide) rfl rfl).pk (L' := [els [(nV aG.1.op), (.string ⟨(aG.1.name).b.toArray⟩), aa, aU, aM] ([aG.1] : List Stmt_), blk ao [(nV aG.1.op), (.string ⟨(aG.1.name).b.toArray⟩), aa, aU, aM] 105, blk bp0 [aN, (.bool (aG.2.bad))] 63, ow [aN] aG.2.list, ow [aO] aJ.2.2]) [0, 1, 2, 4, 5] rfl rfl
      replace hm := (hm.lit_els 1 0 (by decide) rfl rfl rfl rfl).pk (L' := [ow [(sV ao 0 1 1)] ([aG.1] : List Stmt_), blk bp0 [aN, (.bool (aG.2.bad))] 63, ow [aN] aG.2.list, ow [aO] aJ.2.2]) [1, 2, 3, 4] rfl rfl
      refine gb fun cK bO => ?_
      obtain ⟨bL, bX⟩ := appM_some.1 bO
      replace hm := (hm.both 3 0 (by decide) rfl rfl).pk (L' := [blk bp0 [aN, (.bool (aG.2.bad))] 63, ow [aN] aG.2.list, both (ow [aO] aJ.2.2) (ow [(sV ao 0 1 1)] ([aG.1] : List Stmt_))]) [1, 2, 3] rfl rfl
      refine gf rfl (fun a hf => e_appendD (xs := aJ.2.2) (ys := ([aG.1] : List Stmt_)) 2 et_92 hf hm rfl rfl rfl rfl bL) ?_
      rintro ab w hm
      rw [bX] at hm
      exact gA rfl (gE (gZe fun a hf => ⟨aN, ab, hf.sb rfl, hm.pk [0, 1, 2] rfl rfl⟩))
     exact gcf rfl (gXt (gHh (gLp bT bS (gZ fun a hf => ⟨aO, aX, hf.sb rfl, hm.pk [2, 0, 1] rfl rfl⟩))))
    repeat clear hm
    rintro aA a w ⟨ah, aT, hf, hm⟩
    exact gv hf (gS (gR (gM rfl (gA rfl (gE (gRt (gr1 results132 rfl ⟨ah, aT, rfl, hm.pk [1, 0, 2] rfl rfl⟩)))))))
  · intro rec_ ih_ r_ r hq w0 hz bp0 v1p hm0 hG0 hG2
    have pimpl_wordReader__block_rec : ∀ (w0 : World) (hz : Heap) (r_ : wordReader) (bp0 : Nat) (v1p : Value) (hm0 : Mem w0 hz w0 [blk bp0 [v1p, (.bool (r_.bad))] 63, ow [v1p] r_.list]) (hG0 : GT.rep hz [.slice (some ⟨0, 0, none⟩) 1 1] [glob_impl_opSign]) (hG2 : GT.rep hz [.slice (some ⟨2, 0, none⟩) 1 1] [glob_impl_stmtKeys]) (r : (List Stmt_) × wordReader) (hq : rec_ r_ = some r), Con Tryz.prog 132 [(pV bp0)] w0 (fun v w' => ∃ (x1 : Value) (x2 : Value), v = x1 ∧ Mem w0 hz w' [blk bp0 [x2, (.bool (r.2.bad))] 63, ow [x1] r.1, ow [x2] r.2.list]) := fun w0 hz r_ bp0 v1p hm0 hG0 hG2 r hq => ih_ r_ r hq w0 hz bp0 v1p hm0 hG0 hG2
    refine gconr (ρ := Stmt_ × wordReader) (R := fun r v w' => ∃ (x1 : Value) (x2 : Value) (x3 : Value) (x4 : Value), v = (.agg #[(nV r.1.op), (.string ⟨(r.1.name).b.toArray⟩), x1, x2, x3]) ∧ Mem w0 hz w' [blk bp0 [x4, (.bool (r.2.bad))] 63, ow [x1] r.1.args, ow [x2] r.1.body, ow [x3] r.1.else_, ow [x4] r.2.list]) func169 rfl hq ?_
    have hm := hm0
    refine gS (gR (gAl hm zeroValue105 rfl fun aB w hm => gE (gS (gR (gM rfl ?_)))))
    obtain ⟨bC, hle, hm1, hsub, bD⟩ := hm.take2 (L1 := [blk bp0 [v1p, (.bool (r_.bad))] 63, ow [v1p] r_.list]) (L2 := [blk aB [(nV 0), (.string ⟨((mkS [])).b.toArray⟩), (.slice none 0 0), (.slice none 0 0), (.slice none 0 0)] 105]) [1, 2] [0] (by decide) rfl rfl
    refine gCg rfl call106 (pimpl_wordReader__next_ok _ bC r_ bp0 v1p hm1 ) ?_
    rintro aF bP bQ w ⟨aR, rfl, hB⟩
    replace hm := bD _ _ hB; clear hB
    refine gAl hm zeroValue56 rfl fun ak w hm => gSN hm 0 sizeOf56 (one_cons rfl (one_cons rfl one_nil)) rfl fun w hm => gE (gS (gR (gF fo_56_1 rfl (gL hm 0 isAgg9 rfl (gY (yG rfl (y_build (vs := [(0, (nV 2)), (1, (.string ⟨(aF.1.text).b.toArray⟩))]) (cs := #[(nV 2), (.string ⟨(aF.1.text).b.toArray⟩), (.slice none 0 0), (.slice none 0 0), (.slice none 0 0)]) rfl rfl (by kernel_rfl))) (gAl hm zeroValue105 rfl fun aC w hm => gSN hm 0 sizeOf105 (one_cons rfl (one_cons rfl (one_cons rfl (one_cons rfl (one_cons rfl one_nil))))) rfl fun w hm => gE (gS (gS (gR ?_)))))))))
    obtain ⟨ah, bY, bZ⟩ := glob_map hG2 rfl
    refine gY (yl isAgg184 ((CellsAt.mono hm.lez (bY)).cell (j := 0) rfl) rfl) (gF fo_56_1 rfl (gL hm 1 isAgg9 rfl (gY (yG rfl (y_lookT (key := aF.1.text) (m := (glob_impl_stmtKeys : MapT Int)) (z := 0) underlying9 underlying184 zeroValue3 (hm.now bZ) rfl rfl rfl rfl)) (gA rfl (gE (gJge (fun aA a w => ∃ (aT : Value), St 82 [(0, (pV bp0)), (2, (pV aB)), (4, (pV aC))] w0 hz [blk bp0 [aT, (.bool (aA.2.1))] 63, ow [aT] aA.1, blk aB [(nV 0), (.string ⟨((mkS [])).b.toArray⟩), (.slice none 0 0), (.slice none 0 0), (.slice none 0 0)] 105, blk aC [(nV aA.2.2.1), (.string ⟨(aA.2.2.2).b.toArray⟩), (.slice none 0 0), (.slice none 0 0), (.slice none 0 0)] 105] a w) (fun bN b4 => ?_) ?_))))))
    ·
     refine gBk (gS (gJ hm (fun ap => [(0, (pV bp0)), (2, (pV aB)), (3, (pV ak)), (4, (pV aC)), (5, (nV (((MapT.get glob_impl_stmtKeys aF.1.text).getD 0)))), (19, (.bool (ap)))]) (fun ap => [blk bp0 [aR, (.bool (aF.2.bad))] 63, ow [aR] aF.2.list, blk aB [(nV 0), (.string ⟨((mkS [])).b.toArray⟩), (.slice none 0 0), (.slice none 0 0), (.slice none 0 0)] 105, blk ak [(nV aF.1.kind), (.string ⟨(aF.1.text).b.toArray⟩)] 56, blk aC [(nV 2), (.string ⟨(aF.1.text).b.toArray⟩), (.slice none 0 0), (.slice none 0 0), (.slice none 0 0)] 105]) (fun ap => ?_) ?_))
     ·
      refine gR (gF fo_56_0 rfl (gL hm 1 isAgg3 rfl (gB rfl (gM rfl (gsd 23 rfl (fun bH => ?_) fun bH => ?_)))))
      ·
       exact gM rfl (gB rfl (gKt rfl (gA rfl (gE (gz hm [2, 3, 4, 1, 0] rfl)))))
      exact gO rfl (gO rfl (gKf rfl (gA rfl (gE (gz hm [2, 3, 4, 1, 0] rfl)))))
     repeat clear hm
     intro ap w hm
     refine gJge (fun al a w => ∃ (aq : Value), St 82 [(0, (pV bp0)), (2, (pV aB)), (4, (pV aC))] w0 hz [blk bp0 [aq, (.bool (al.2.1))] 63, ow [aq] al.1, blk aB [(nV 0), (.string ⟨((mkS [])).b.toArray⟩), (.slice none 0 0), (.slice none 0 0), (.slice none 0 0)] 105, blk aC [(nV al.2.2.1), (.string ⟨(al.2.2.2).b.toArray⟩), (.slice none 0 0), (.slice none 0 0), (.slice none 0 0)] 105] a w) (fun cL b5 => ?_) ?_
     ·
      refine gs 19 rfl (fun bL => ?_) fun bL => ?_
      ·
       refine gct rfl (gS (gR (gM rfl (gY (yG rfl (y_build (vs := [(0, (nV (((MapT.get glob_impl_stmtKeys aF.1.text).getD 0))))]) (cs := #[(nV (((MapT.get glob_impl_stmtKeys aF.1.text).getD 0))), (.string ⟨((mkS [])).b.toArray⟩), (.slice none 0 0), (.slice none 0 0), (.slice none 0 0)]) rfl rfl (by kernel_rfl))) (gSN hm 4 sizeOf105 (one_cons rfl (one_cons rfl (one_cons rfl (one_cons rfl (one_cons rfl one_nil))))) rfl fun w hm => gE (gS (gR (gM rfl (gB rfl (gE (gJg (fun aK a w => ∃ (aP : Value), St 82 [(0, (pV bp0)), (2, (pV aB)), (4, (pV aC))] w0 hz [blk bp0 [aP, (.bool (aK.2.1))] 63, ow [aP] aK.1, blk aB [(nV 0), (.string ⟨((mkS [])).b.toArray⟩), (.slice none 0 0), (.slice none 0 0), (.slice none 0 0)] 105, blk aC [(nV (((MapT.get glob_impl_stmtKeys aF.1.text).getD 0))), (.string ⟨(aK.2.2).b.toArray⟩), (.slice none 0 0), (.slice none 0 0), (.slice none 0 0)] 105] a w) (fun aK => ?_) ?_)))))))))))
       ·
        refine gsd 30 rfl (fun bE => ?_) fun bE => ?_
        ·
         refine gct rfl (gS (gR (gM rfl ?_)))
         obtain ⟨bF, hle, hm1, hsub, bG⟩ := hm.take2 (L1 := [blk bp0 [aR, (.bool (aF.2.bad))] 63, ow [aR] aF.2.list]) (L2 := [blk aB [(nV 0), (.string ⟨((mkS [])).b.toArray⟩), (.slice none 0 0), (.slice none 0 0), (.slice none 0 0)] 105, blk ak [(nV aF.1.kind), (.string ⟨(aF.1.text).b.toArray⟩)] 56, blk aC [(nV (((MapT.get glob_impl_stmtKeys aF.1.text).getD 0))), (.string ⟨((mkS [])).b.toArray⟩), (.slice none 0 0), (.slice none 0 0), (.slice none 0 0)] 105]) [0, 1] [2, 3, 4] (by decide) rfl rfl
         refine gCg rfl call130 (pimpl_wordReader__name_ok _ bF aF.2 bp0 aR hm1 ) ?_
         rintro ai bU bV w ⟨aj, rfl, hB⟩
         replace hm := bG _ _ hB; clear hB
         refine gF fo_105_1 rfl (gS1 hm 4 sizeOf9 rfl rfl fun w hm => gE (gR (gM rfl ?_)))
         obtain ⟨b6, hle, hm1, hsub, b7⟩ := hm.take2 (L1 := [blk bp0 [aj, (.bool (ai.2.bad))] 63, ow [aj] ai.2.list]) (L2 := [blk aB [(nV 0), (.string ⟨((mkS [])).b.toArray⟩), (.slice none 0 0), (.slice none 0 0), (.slice none 0 0)] 105, blk ak [(nV aF.1.kind), (.string ⟨(aF.1.text).b.toArray⟩)] 56, blk aC [(nV (((MapT.get glob_impl_stmtKeys aF.1.text).getD 0))), (.string ⟨(ai.1).b.toArray⟩), (.slice none 0 0), (.slice none 0 0), (.slice none 0 0)] 105]) [0, 1] [2, 3, 4] (by decide) rfl rfl
         refine gCg rfl call129 (pimpl_wordReader__want_ok _ b6 ai.2 bp0 aj 3 (mkS [61]) hm1 ) ?_
         rintro cM cN cO w ⟨b8, rfl, hB⟩
         replace hm := b7 _ _ hB; clear hB
         exact gE (gZ fun a hf => ⟨b8, hf.sb rfl, hm.pk [0, 1, 2, 4] rfl rfl⟩)
        exact gcf rfl (gSk (gZ fun a hf => ⟨aR, hf.sb rfl, hm.pk [0, 1, 2, 4] rfl rfl⟩))
       repeat clear hm
       rintro aK a w ⟨aP, hf, hm⟩
       exact gv hf (gZe fun a hf => ⟨aP, hf.sb rfl, hm.pk [0, 1, 2, 3] rfl rfl⟩)
      refine gcf rfl (gS (gR (gF fo_56_0 rfl (gL hm 3 isAgg3 rfl (gB rfl (gA rfl (gE (gsd 36 rfl (fun b9 => ?_) fun b9 => ?_))))))))
      ·
       refine gct rfl (gR (gM rfl ?_))
       obtain ⟨bJ, hle, hm1, hsub, bK⟩ := hm.take2 (L1 := [blk bp0 [aR, (.bool (aF.2.bad))] 63, ow [aR] aF.2.list]) (L2 := [blk aB [(nV 0), (.string ⟨((mkS [])).b.toArray⟩), (.slice none 0 0), (.slice none 0 0), (.slice none 0 0)] 105, blk ak [(nV aF.1.kind), (.string ⟨(aF.1.text).b.toArray⟩)] 56, blk aC [(nV 2), (.string ⟨(aF.1.text).b.toArray⟩), (.slice none 0 0), (.slice none 0 0), (.slice none 0 0)] 105]) [0, 1] [2, 3, 4] (by decide) rfl rfl
       refine gCg rfl call129 (pimpl_wordReader__want_ok _ bJ aF.2 bp0 aR 3 (mkS [61]) hm1 ) ?_
       rintro aG bW aO w ⟨aX, rfl, hB⟩
       replace hm := bK _ _ hB; clear hB
       exact gE (gZe fun a hf => ⟨aX, hf.sb rfl, hm.pk [0, 1, 2, 4] rfl rfl⟩)
      refine gcf rfl (gS (gR (gM rfl (gY (yG rfl (y_nilptr rfl rfl)) (gF fo_63_1 rfl (gS1 hm 0 sizeOf4 rfl rfl fun w hm => gE (gS (gR (gY (yn (hm.blk_at 4 rfl) isAgg105 sizeOf105 rfl) (gSN hm 2 sizeOf105 (one_cons rfl (one_cons rfl (one_cons rfl (one_cons rfl (one_cons rfl one_nil))))) rfl fun w hm => gE (gRt (gEr b5 (gEr b4 ?_)))))))))))))
      replace hm := hm.nilow (α := Expr_)
      replace hm := hm.nilow (α := Stmt_)
      replace hm := hm.nilow (α := Stmt_)
      exact grc 5 results169 hm rfl isAgg105 sizeOf105 ⟨(.slice none 0 0), (.slice none 0 0), (.slice none 0 0), aR, rfl, hm.pk [3, 2, 1, 0, 4] rfl rfl⟩
     repeat clear hm
     rintro al a w ⟨aq, hf, hm⟩
     exact gv hf (gZe fun a hf => ⟨aq, hf.sb rfl, hm.pk [0, 1, 2, 3] rfl rfl⟩)
    repeat clear hm
    rintro aA a w ⟨aT, hf, hm⟩
    refine gv hf (gS (gW (.p 0 (.p 2 (.q 1 (.e 3 (.e 4 (.e 5 (.p 6 (.e 7 .fin .nil)) .nil) .nil) .nil)))) [3, 4] [0, 2, 6] hm [2, 3] [blk aB [(nV 0), (.string ⟨((mkS [])).b.toArray⟩), (.slice none 0 0), (.slice none 0 0), (.slice none 0 0)] 105, blk aC [(nV aA.2.2.1), (.string ⟨(aA.2.2.2).b.toArray⟩), (.slice none 0 0), (.slice none 0 0), (.slice none 0 0)] 105] rfl mxo (by kernel_rfl) (fun _ _ _ h => h.2) fun w hm hS => tP rfl (fun w => yF fo_105_2 rfl) (tP rfl (fun w => yM rfl) (tQ rfl hS (fun w hm => yL hm 1 isAgg22 rfl) (tO (gb fun aD ba => ?_))))))
    obtain ⟨bb, hle, hm1, hsub, bc⟩ := hm.take2 (L1 := [blk bp0 [aT, (.bool (aA.2.1))] 63, ow [aT] aA.1]) (L2 := [blk aB [(nV 0), (.string ⟨((mkS [])).b.toArray⟩), (.slice none 0 0), (.slice none 0 0), (.slice none 0 0)] 105, blk aC [(nV aA.2.2.1), (.string ⟨(aA.2.2.2).b.toArray⟩), (.slice none 0 0), (.slice none 0 0), (.slice none 0 0)] 105]) [0, 1] [2, 3] (by decide) rfl rfl
    refine tf rfl rfl (fun a hf => e_call hf rfl call46 rfl (pimpl_wordReader__expr_ok _ bb (⟨aA.1, aA.2.1⟩ : wordReader) bp0 aT 1 hm1 (GT.mono hle hG0) _ ba)) ?_
    rintro cP w ⟨ac, aQ, rfl, hB⟩
    replace hm := bc _ _ hB; clear hB
    refine tAk hm [3, 4] rfl fun hS => tO (tf rfl rfl (fun a hf => e_build (vs := #[(0, (.agg #[(nV aD.1.op), (nV aD.1.n_), (.string ⟨(aD.1.name).b.toArray⟩), ac]))]) (cs := [(nV aD.1.op), (nV aD.1.n_), (.string ⟨(aD.1.name).b.toArray⟩), ac]) et_22 hf hm rfl rfl (by kernel_rfl) rfl rfl) ?_)
    rintro _ w ⟨ar, rfl, hm⟩
    replace hm := hm.els_nil (α := Expr_)
    replace hm : Mem w0 hz _ [els [] ([] : List Expr_), blk ar [(nV aD.1.op), (nV aD.1.n_), (.string ⟨(aD.1.name).b.toArray⟩), ac] 24, blk bp0 [aQ, (.bool (aD.2.bad))] 63, ow [(nV aD.1.op), (nV aD.1.n_), (.string ⟨(aD.1.name).b.toArray⟩), ac] (aD.1 : Expr_), ow [aQ] aD.2.list, blk aB [(nV 0), (.string ⟨((mkS [])).b.toArray⟩), (.slice none 0 0), (.slice none 0 0), (.slice none 0 0)] 105, blk aC [(nV aA.2.2.1), (.string ⟨(aA.2.2.2).b.toArray⟩), (.slice none 0 0), (.slice none 0 0), (.slice none 0 0)] 105] := mkx_Expr_ aD.1 hm 3 rfl
    replace hm := (hm.els_cons 0 3 (by decide) rfl rfl).pk (L' := [els [(nV aD.1.op), (nV aD.1.n_), (.string ⟨(aD.1.name).b.toArray⟩), ac] ([aD.1] : List Expr_), blk ar [(nV aD.1.op), (nV aD.1.n_), (.string ⟨(aD.1.name).b.toArray⟩), ac] 24, blk bp0 [aQ, (.bool (aD.2.bad))] 63, ow [aQ] aD.2.list, blk aB [(nV 0), (.string ⟨((mkS [])).b.toArray⟩), (.slice none 0 0), (.slice none 0 0), (.slice none 0 0)] 105, blk aC [(nV aA.2.2.1), (.string ⟨(aA.2.2.2).b.toArray⟩), (.slice none 0 0), (.slice none 0 0), (.slice none 0 0)] 105]) [0, 1, 2, 4, 5, 6] rfl rfl
    replace hm := (hm.lit_els 1 0 (by decide) rfl rfl rfl rfl).pk (L' := [ow [(sV ar 0 1 1)] ([aD.1] : List Expr_), blk bp0 [aQ, (.bool (aD.2.bad))] 63, ow [aQ] aD.2.list, blk aB [(nV 0), (.string ⟨((mkS [])).b.toArray⟩), (.slice none 0 0), (.slice none 0 0), (.slice none 0 0)] 105, blk aC [(nV aA.2.2.1), (.string ⟨(aA.2.2.2).b.toArray⟩), (.slice none 0 0), (.slice none 0 0), (.slice none 0 0)] 105]) [1, 2, 3, 4, 5] rfl rfl
    refine tAk hm [3, 4] rfl fun hS => tO ?_
    replace hm := hm.nilow (α := Expr_)
    refine gb fun a7 bd => ?_
    obtain ⟨be, bf⟩ := appM_some.1 bd
    replace hm := (hm.both 0 1 (by decide) rfl rfl).pk (L' := [both (ow [(.slice none 0 0)] ([] : List Expr_)) (ow [(sV ar 0 1 1)] ([aD.1] : List Expr_)), blk bp0 [aQ, (.bool (aD.2.bad))] 63, ow [aQ] aD.2.list, blk aB [(nV 0), (.string ⟨((mkS [])).b.toArray⟩), (.slice none 0 0), (.slice none 0 0), (.slice none 0 0)] 105, blk aC [(nV aA.2.2.1), (.string ⟨(aA.2.2.2).b.toArray⟩), (.slice none 0 0), (.slice none 0 0), (.slice none 0 0)] 105]) [0, 2, 3, 4, 5] rfl rfl
    refine tf rfl rfl (fun a hf => e_appendD (xs := ([] : List Expr_)) (ys := ([aD.1] : List Expr_)) 0 et_22 hf hm rfl rfl rfl rfl be) ?_
    rintro aL w hm
    rw [bf] at hm
    refine tAn rfl (tP rfl (fun w => yF fo_105_2 rfl) (tO (tf0 rfl rfl (fun a hf => e_store1 4 hf hm rfl sizeOf22 rfl rfl rfl (rep_one (hm.ow_rep 0 rfl)) rfl) ?_)))
    rintro _ w hm
    refine tAn rfl (tE (gS (gS (gR (gF fo_105_0 rfl (gL hm 4 isAgg3 rfl (gB rfl (gE (gJg (fun aH a w => ∃ (aV aI : Value), St 82 [(0, (pV bp0)), (2, (pV aB)), (4, (pV aC))] w0 hz [blk bp0 [aV, (.bool (aH.2.1))] 63, ow [aV] aH.1, blk aB [(nV 0), (.string ⟨((mkS [])).b.toArray⟩), (.slice none 0 0), (.slice none 0 0), (.slice none 0 0)] 105, blk aC [(nV aA.2.2.1), (.string ⟨(aA.2.2.2).b.toArray⟩), aI, (.slice none 0 0), (.slice none 0 0)] 105, ow [aI] aH.2.2] a w) (fun aH => ?_) ?_)))))))))
    ·
     refine gsd 51 rfl (fun bg => ?_) fun bg => ?_
     ·
      refine gct rfl (gS (gR (gM rfl ?_)))
      obtain ⟨bh, hle, hm1, hsub, bi⟩ := hm.take2 (L1 := [blk bp0 [aQ, (.bool (aD.2.bad))] 63, ow [aQ] aD.2.list]) (L2 := [ow [aL] a7, blk aB [(nV 0), (.string ⟨((mkS [])).b.toArray⟩), (.slice none 0 0), (.slice none 0 0), (.slice none 0 0)] 105, blk aC [(nV aA.2.2.1), (.string ⟨(aA.2.2.2).b.toArray⟩), aL, (.slice none 0 0), (.slice none 0 0)] 105]) [1, 2] [0, 3, 4] (by decide) rfl rfl
      refine gCg rfl call129 (pimpl_wordReader__want_ok _ bh aD.2 bp0 aQ 3 (mkS [44]) hm1 ) ?_
      rintro an cQ cR w ⟨bM, rfl, hB⟩
      replace hm := bi _ _ hB; clear hB
      refine gE (gW (.p 0 (.p 2 (.q 1 (.e 3 (.e 4 (.e 5 (.p 6 (.e 7 .fin .nil)) .nil) .nil) .nil)))) [3, 4] [0, 2, 6] hm [2, 3, 4] [ow [aL] a7, blk aB [(nV 0), (.string ⟨((mkS [])).b.toArray⟩), (.slice none 0 0), (.slice none 0 0), (.slice none 0 0)] 105, blk aC [(nV aA.2.2.1), (.string ⟨(aA.2.2.2).b.toArray⟩), aL, (.slice none 0 0), (.slice none 0 0)] 105] rfl mxo (by kernel_rfl) (fun _ _ _ h => h.2) fun w hm hS => tP rfl (fun w => yF fo_105_2 rfl) (tP rfl (fun w => yM rfl) (tQ rfl hS (fun w hm => yL hm 2 isAgg22 rfl) (tO (gb fun aE bj => ?_)))))
      obtain ⟨bk, hle, hm1, hsub, bl⟩ := hm.take2 (L1 := [blk bp0 [bM, (.bool (an.bad))] 63, ow [bM] an.list]) (L2 := [ow [aL] a7, blk aB [(nV 0), (.string ⟨((mkS [])).b.toArray⟩), (.slice none 0 0), (.slice none 0 0), (.slice none 0 0)] 105, blk aC [(nV aA.2.2.1), (.string ⟨(aA.2.2.2).b.toArray⟩), aL, (.slice none 0 0), (.slice none 0 0)] 105]) [0, 1] [2, 3, 4] (by decide) rfl rfl
      refine tf rfl rfl (fun a hf => e_call hf rfl call46 rfl (pimpl_wordReader__expr_ok _ bk an bp0 bM 1 hm1 (GT.mono hle hG0) _ bj)) ?_
      rintro cS w ⟨ae, aY, rfl, hB⟩
      replace hm := bl _ _ hB; clear hB
      refine tAk hm [3, 4, 5] rfl fun hS => tO (tf rfl rfl (fun a hf => e_build (vs := #[(0, (.agg #[(nV aE.1.op), (nV aE.1.n_), (.string ⟨(aE.1.name).b.toArray⟩), ae]))]) (cs := [(nV aE.1.op), (nV aE.1.n_), (.string ⟨(aE.1.name).b.toArray⟩), ae]) et_22 hf hm rfl rfl (by kernel_rfl) rfl rfl) ?_)
      rintro _ w ⟨au, rfl, hm⟩
      replace hm := hm.els_nil (α := Expr_)
      replace hm : Mem w0 hz _ [els [] ([] : List Expr_), blk au [(nV aE.1.op), (nV aE.1.n_), (.string ⟨(aE.1.name).b.toArray⟩), ae] 24, blk bp0 [aY, (.bool (aE.2.bad))] 63, ow [(nV aE.1.op), (nV aE.1.n_), (.string ⟨(aE.1.name).b.toArray⟩), ae] (aE.1 : Expr_), ow [aY] aE.2.list, ow [aL] a7, blk aB [(nV 0), (.string ⟨((mkS [])).b.toArray⟩), (.slice none 0 0), (.slice none 0 0), (.slice none 0 0)] 105, blk aC [(nV aA.2.2.1), (.string ⟨(aA.2.2.2).b.toArray⟩), aL, (.slice none 0 0), (.slice none 0 0)] 105] := mkx_Expr_ aE.1 hm 3 rfl
      replace hm := (hm.els_cons 0 3 (by decide) rfl rfl).pk (L' := [els [(nV aE.1.op), (nV aE.1.n_), (.string ⟨(aE.1.name).b.toArray⟩), ae] ([aE.1] : List Expr_), blk au [(nV aE.1.op), (nV aE.1.n_), (.string ⟨(aE.1.name).b.toArray⟩), ae] 24, blk bp0 [aY, (.bool (aE.2.bad))] 63, ow [aY] aE.2.list, ow [aL] a7, blk aB [(nV 0), (.string ⟨((mkS [])).b.toArray⟩), (.slice none 0 0), (.slice none 0 0), (.slice none 0 0)] 105, blk aC [(nV aA.2.2.1), (.string ⟨(aA.2.2.2).b.toArray⟩), aL, (.slice none 0 0), (.slice none 0 0)] 105]) [0, 1, 2, 4, 5, 6, 7] rfl rfl
      replace hm := (hm.lit_els 1 0 (by decide) rfl rfl rfl rfl).pk (L' := [ow [(sV au 0 1 1)] ([aE.1] : List Expr_), blk bp0 [aY, (.bool (aE.2.bad))] 63, ow [aY] aE.2.list, ow [aL] a7, blk aB [(nV 0), (.string ⟨((mkS [])).b.toArray⟩), (.slice none 0 0), (.slice none 0 0), (.slice none 0 0)] 105, blk aC [(nV aA.2.2.1), (.string ⟨(aA.2.2.2).b.toArray⟩), aL, (.slice none 0 0), (.slice none 0 0)] 105]) [1, 2, 3, 4, 5, 6] rfl rfl
      refine tAk hm [3, 4, 5] rfl fun hS => tO (gb fun cT bm => ?_)
      obtain ⟨bo, bp⟩ := appM_some.1 bm
      replace hm := (hm.both 3 0 (by decide) rfl rfl).pk (L' := [blk bp0 [aY, (.bool (aE.2.bad))] 63, ow [aY] aE.2.list, both (ow [aL] a7) (ow [(sV au 0 1 1)] ([aE.1] : List Expr_)), blk aB [(nV 0), (.string ⟨((mkS [])).b.toArray⟩), (.slice none 0 0), (.slice none 0 0), (.slice none 0 0)] 105, blk aC [(nV aA.2.2.1), (.string ⟨(aA.2.2.2).b.toArray⟩), aL, (.slice none 0 0), (.slice none 0 0)] 105]) [1, 2, 3, 4, 5] rfl rfl
      refine tf rfl rfl (fun a hf => e_appendD (xs := a7) (ys := ([aE.1] : List Expr_)) 2 et_22 hf hm rfl rfl rfl rfl bo) ?_
      rintro bq w hm
      rw [bp] at hm
      refine tAn rfl (tP rfl (fun w => yF fo_105_2 rfl) (tO (tf0 rfl rfl (fun a hf => e_store1 4 hf hm rfl sizeOf22 rfl rfl rfl (rep_one (hm.ow_rep 2 rfl)) rfl) ?_)))
      rintro _ w hm
      exact tAn rfl (tE (gZ fun a hf => ⟨aY, bq, hf.sb rfl, hm.pk [0, 1, 3, 4, 2] rfl rfl⟩))
     exact gcf rfl (gSk (gZ fun a hf => ⟨aQ, aL, hf.sb rfl, hm.pk [1, 2, 3, 4, 0] rfl rfl⟩))
    repeat clear hm
    rintro aH a w ⟨aV, aI, hf, hm⟩
    refine gv hf (gS (gS (gR (gF fo_105_0 rfl (gL hm 3 isAgg3 rfl (gE (gJg (fun af a w => ∃ (av aw ax : Value), St 82 [(2, (pV aB)), (4, (pV aC))] w0 hz [blk aB [(nV 0), (.string ⟨((mkS [])).b.toArray⟩), (.slice none 0 0), (.slice none 0 0), (.slice none 0 0)] 105, blk aC [(nV aA.2.2.1), (.string ⟨(aA.2.2.2).b.toArray⟩), aI, av, aw] 105, ow [aI] aH.2.2, ow [av] af.1, ow [aw] af.2.1, blk bp0 [ax, (.bool (af.2.2.2))] 63, ow [ax] af.2.2.1] a w) (fun af => ?_) ?_)))))))
    ·
     refine gBk (gS (gS (gR (gB rfl (gA rfl (gE (gJ hm (fun ay => [(0, (pV bp0)), (2, (pV aB)), (4, (pV aC)), (65, (.bool (ay)))]) (fun ay => [blk bp0 [aV, (.bool (aH.2.1))] 63, ow [aV] aH.1, blk aB [(nV 0), (.string ⟨((mkS [])).b.toArray⟩), (.slice none 0 0), (.slice none 0 0), (.slice none 0 0)] 105, blk aC [(nV aA.2.2.1), (.string ⟨(aA.2.2.2).b.toArray⟩), aI, (.slice none 0 0), (.slice none 0 0)] 105, ow [aI] aH.2.2]) (fun ay => ?_) ?_)))))))
     ·
      refine gsd 65 rfl (fun br => ?_) fun br => ?_
      ·
       exact gct rfl (gSk (gz hm [0, 1, 2, 3, 4] rfl))
      exact gcf rfl (gR (gB rfl (gA rfl (gE (gz hm [0, 1, 2, 3, 4] rfl)))))
     repeat clear hm
     intro ay w hm
     refine gJg (fun ag a w => ∃ (az bA bB : Value), St 82 [(2, (pV aB)), (4, (pV aC))] w0 hz [blk aB [(nV 0), (.string ⟨((mkS [])).b.toArray⟩), (.slice none 0 0), (.slice none 0 0), (.slice none 0 0)] 105, blk aC [(nV aA.2.2.1), (.string ⟨(aA.2.2.2).b.toArray⟩), aI, az, bA] 105, ow [aI] aH.2.2, ow [az] ag.1, ow [bA] ag.2.1, blk bp0 [bB, (.bool (ag.2.2.2))] 63, ow [bB] ag.2.2.1] a w) (fun ag => ?_) ?_
     ·
      refine gs 65 rfl (fun bs => ?_) fun bs => ?_
      ·
       refine gct rfl (gS (gR (gM rfl ?_)))
       obtain ⟨bt, hle, hm1, hsub, bu⟩ := hm.take2 (L1 := [blk bp0 [aV, (.bool (aH.2.1))] 63, ow [aV] aH.1]) (L2 := [blk aB [(nV 0), (.string ⟨((mkS [])).b.toArray⟩), (.slice none 0 0), (.slice none 0 0), (.slice none 0 0)] 105, blk aC [(nV aA.2.2.1), (.string ⟨(aA.2.2.2).b.toArray⟩), aI, (.slice none 0 0), (.slice none 0 0)] 105, ow [aI] aH.2.2]) [0, 1] [2, 3, 4] (by decide) rfl rfl
       refine gCg rfl call132 (pimpl_wordReader__block_rec _ bt (⟨aH.1, aH.2.1⟩ : wordReader) bp0 aV hm1 (GT.mono hle hG0) (GT.mono hle hG2)) ?_
       rintro a8 bO aW w ⟨_, aU, rfl, hB⟩
       replace hm := bu _ _ hB; clear hB
       refine gF fo_105_3 rfl (gS1 hm 4 sizeOf92 (rep_one (hm.ow_rep 1 rfl)) rfl fun w hm => gE (gS (gJg (fun aZ a w => ∃ (aM : Value), St 82 [(0, (pV bp0)), (2, (pV aB)), (4, (pV aC)), (77, (.bool (aZ.2.2)))] w0 hz [blk bp0 [aM, (.bool (aZ.2.1))] 63, ow [aM] aZ.1, blk aB [(nV 0), (.string ⟨((mkS [])).b.toArray⟩), (.slice none 0 0), (.slice none 0 0), (.slice none 0 0)] 105, blk aC [(nV aA.2.2.1), (.string ⟨(aA.2.2.2).b.toArray⟩), aI, aW, (.slice none 0 0)] 105, ow [aI] aH.2.2, ow [aW] a8.1] a w) (fun aZ => ?_) ?_)))
       ·
        refine gR (gF fo_105_0 rfl (gL hm 4 isAgg3 rfl (gB rfl (gM rfl (gsd 74 rfl (fun bv => ?_) fun bv => ?_)))))
        ·
         refine gM rfl ?_
         obtain ⟨bw, hle, hm1, hsub, bx⟩ := hm.take2 (L1 := [blk bp0 [aU, (.bool (a8.2.bad))] 63, ow [aU] a8.2.list]) (L2 := [ow [aW] a8.1, blk aB [(nV 0), (.string ⟨((mkS [])).b.toArray⟩), (.slice none 0 0), (.slice none 0 0), (.slice none 0 0)] 105, blk aC [(nV aA.2.2.1), (.string ⟨(aA.2.2.2).b.toArray⟩), aI, aW, (.slice none 0 0)] 105, ow [aI] aH.2.2]) [0, 2] [1, 3, 4, 5] (by decide) rfl rfl
         refine gCg rfl call131 (pimpl_wordReader__take_ok _ bw a8.2 bp0 aU 4 (mkS [101, 108, 115, 101]) hm1 ) ?_
         rintro cU cV cW w ⟨bz, rfl, hB⟩
         replace hm := bx _ _ hB; clear hB
         exact gKt rfl (gE (gZ fun a hf => ⟨bz, hf.sb rfl, hm.pk [0, 1, 3, 4, 5, 2] rfl rfl⟩))
        exact gO rfl (gO rfl (gKf rfl (gE (gZ fun a hf => ⟨aU, hf.sb rfl, hm.pk [0, 2, 3, 4, 5, 1] rfl rfl⟩))))
       repeat clear hm
       rintro aZ a w ⟨aM, hf, hm⟩
       refine gv hf (gJg (fun am a w => ∃ (aN ab : Value), St 82 [(2, (pV aB)), (4, (pV aC))] w0 hz [blk aB [(nV 0), (.string ⟨((mkS [])).b.toArray⟩), (.slice none 0 0), (.slice none 0 0), (.slice none 0 0)] 105, blk aC [(nV aA.2.2.1), (.string ⟨(aA.2.2.2).b.toArray⟩), aI, aW, aN] 105, ow [aI] aH.2.2, ow [aW] a8.1, ow [aN] am.1, blk bp0 [ab, (.bool (am.2.2))] 63, ow [ab] am.2.1] a w) (fun am => ?_) ?_)
       ·
        refine gs 77 rfl (fun cA => ?_) fun cA => ?_
        ·
         refine gct rfl (gR (gM rfl ?_))
         obtain ⟨cB, hle, hm1, hsub, cC⟩ := hm.take2 (L1 := [blk bp0 [aM, (.bool (aZ.2.1))] 63, ow [aM] aZ.1]) (L2 := [blk aB [(nV 0), (.string ⟨((mkS [])).b.toArray⟩), (.slice none 0 0), (.slice none 0 0), (.slice none 0 0)] 105, blk aC [(nV aA.2.2.1), (.string ⟨(aA.2.2.2).b.toArray⟩), aI, aW, (.slice none 0 0)] 105, ow [aI] aH.2.2, ow [aW] a8.1]) [0, 1] [2, 3, 4, 5] (by decide) rfl rfl
         refine gCg rfl call132 (pimpl_wordReader__block_rec _ cB (⟨aZ.1, aZ.2.1⟩ : wordReader) bp0 aM hm1 (GT.mono hle hG0) (GT.mono hle hG2)) ?_
         rintro cX cY cD w ⟨_, cE, rfl, hB⟩
         replace hm := cC _ _ hB; clear hB
         exact gF fo_105_4 rfl (gS1 hm 4 sizeOf92 (rep_one (hm.ow_rep 1 rfl)) rfl fun w hm => gE (gZ fun a hf => ⟨cD, cE, hf.sb rfl, hm.pk [3, 4, 5, 6, 1, 0, 2] rfl rfl⟩))
        refine gcf rfl (gSk ?_)
        replace hm := hm.nilow (α := Stmt_)
        exact gZ fun a hf => ⟨(.slice none 0 0), aM, hf.sb rfl, hm.pk [3, 4, 5, 6, 0, 1, 2] rfl rfl⟩
       repeat clear hm
       rintro am a w ⟨aN, ab, hf, hm⟩
       exact gv hf (gZ fun a hf => ⟨aW, aN, ab, hf.sb rfl, hm.pk [0, 1, 2, 3, 4, 5, 6] rfl rfl⟩)
      refine gcf rfl (gR (gM rfl ?_))
      obtain ⟨cF, hle, hm1, hsub, cG⟩ := hm.take2 (L1 := [blk bp0 [aV, (.bool (aH.2.1))] 63, ow [aV] aH.1]) (L2 := [blk aB [(nV 0), (.string ⟨((mkS [])).b.toArray⟩), (.slice none 0 0), (.slice none 0 0), (.slice none 0 0)] 105, blk aC [(nV aA.2.2.1), (.string ⟨(aA.2.2.2).b.toArray⟩), aI, (.slice none 0 0), (.slice none 0 0)] 105, ow [aI] aH.2.2]) [0, 1] [2, 3, 4] (by decide) rfl rfl
      refine gCg rfl call129 (pimpl_wordReader__want_ok _ cF (⟨aH.1, aH.2.1⟩ : wordReader) bp0 aV 3 (mkS [59]) hm1 ) ?_
      rintro cZ c8 c9 w ⟨cH, rfl, hB⟩
      replace hm := cG _ _ hB; clear hB
      refine gE ?_
      replace hm := hm.nilow (α := Stmt_)
      replace hm := hm.nilow (α := Stmt_)
      exact gZ fun a hf => ⟨(.slice none 0 0), (.slice none 0 0), cH, hf.sb rfl, hm.pk [4, 5, 6, 1, 0, 2, 3] rfl rfl⟩
     repeat clear hm
     rintro ag a w ⟨az, bA, bB, hf, hm⟩
     exact gv hf (gZ fun a hf => ⟨az, bA, bB, hf.sb rfl, hm.pk [0, 1, 2, 3, 4, 5, 6] rfl rfl⟩)
    repeat clear hm
    rintro af a w ⟨av, aw, ax, hf, hm⟩
    exact gv hf (gS (gR (gY (yn (hm.blk_at 1 rfl) isAgg105 sizeOf105 rfl) (gSN hm 0 sizeOf105 (one_cons rfl (one_cons rfl (one_cons (rep_one (hm.ow_rep 2 rfl)) (one_cons (rep_one (hm.ow_rep 3 rfl)) (one_cons (rep_one (hm.ow_rep 4 rfl)) one_nil))))) rfl fun w hm => gE (gRt (grc 0 results169 hm rfl isAgg105 sizeOf105 ⟨aI, av, aw, ax, rfl, hm.pk [5, 2, 3, 4, 6] rfl rfl⟩))))))
theorem pimpl_wordReader__block_ok (w0 : World) (hz : Heap) (r_ : wordReader) (bp0 : Nat) (v1p : Value) (hm0 : Mem w0 hz w0 [blk bp0 [v1p, (.bool (r_.bad))] 63, ow [v1p] r_.list]) (hG0 : GT.rep hz [.slice (some ⟨0, 0, none⟩) 1 1] [glob_impl_opSign]) (hG2 : GT.rep hz [.slice (some ⟨2, 0, none⟩) 1 1] [glob_impl_stmtKeys]) (r : (List Stmt_) × wordReader) (hq : pimpl_wordReader__block r_ = some r) : Con Tryz.prog 132 [(pV bp0)] w0 (fun v w' => ∃ (x1 : Value) (x2 : Value), v = x1 ∧ Mem w0 hz w' [blk bp0 [x2, (.bool (r.2.bad))] 63, ow [x1] r.1, ow [x2] r.2.list]) := (pimpl_wordReader__block_all ).1 r_ r hq w0 hz bp0 v1p hm0 hG0 hG2
theorem pimpl_wordReader__fn_ok (w0 : World) (hz : Heap) (r_ : wordReader) (bp0 : Nat) (v1p : Value) (hm0 : Mem w0 hz w0 [blk bp0 [v1p, (.bool (r_.bad))] 63, ow [v1p] r_.list]) (hG0 : GT.rep hz [.slice (some ⟨0, 0, none⟩) 1 1] [glob_impl_opSign]) (hG2 : GT.rep hz [.slice (some ⟨2, 0, none⟩) 1 1] [glob_impl_stmtKeys]) :
    ConM Tryz.prog 73 [(pV bp0)] w0 (pimpl_wordReader__fn r_) fun r v w' => ∃ (x1 : Value) (x2 : Value) (x3 : Value), v = (.agg #[(.string ⟨(r.1.name).b.toArray⟩), x1, x2]) ∧ Mem w0 hz w' [blk bp0 [x3, (.bool (r.2.bad))] 63, ow [x1] r.1.params, ow [x2] r.1.body, ow [x3] r.2.list] := by
  unfold pimpl_wordReader__fn
  refine gcon func73 rfl fun r => ?_
  have hm := hm0
  refine gS (gR (gAl hm zeroValue94 rfl fun aB w hm => gE (gS (gR (gM rfl ?_)))))
  obtain ⟨aU, hle, hm1, hsub, aV⟩ := hm.take2 (L1 := [blk bp0 [v1p, (.bool (r_.bad))] 63, ow [v1p] r_.list]) (L2 := [blk aB [(.string ⟨((mkS [])).b.toArray⟩), (.slice none 0 0), (.slice none 0 0)] 94]) [1, 2] [0] (by decide) rfl rfl
  refine gCg rfl call129 (pimpl_wordReader__want_ok _ aU r_ bp0 v1p 4 (mkS [102, 110]) hm1 ) ?_
  rintro aP bB bC w ⟨aQ, rfl, hB⟩
  replace hm := aV _ _ hB; clear hB
  refine gE (gS (gR (gM rfl ?_)))
  obtain ⟨aW, hle, hm1, hsub, aX⟩ := hm.take2 (L1 := [blk bp0 [aQ, (.bool (aP.bad))] 63, ow [aQ] aP.list]) (L2 := [blk aB [(.string ⟨((mkS [])).b.toArray⟩), (.slice none 0 0), (.slice none 0 0)] 94]) [0, 1] [2] (by decide) rfl rfl
  refine gCg rfl call130 (pimpl_wordReader__name_ok _ aW aP bp0 aQ hm1 ) ?_
  rintro aC bD bE w ⟨aR, rfl, hB⟩
  replace hm := aX _ _ hB; clear hB
  refine gY (yG rfl (y_build (vs := [(0, (.string ⟨(aC.1).b.toArray⟩))]) (cs := #[(.string ⟨(aC.1).b.toArray⟩), (.slice none 0 0), (.slice none 0 0)]) rfl rfl (by kernel_rfl))) (gAl hm zeroValue94 rfl fun aD w hm => gSN hm 0 sizeOf94 (one_cons rfl (one_cons rfl (one_cons rfl one_nil))) rfl fun w hm => gE (gS (gR (gM rfl ?_))))
  obtain ⟨aY, hle, hm1, hsub, aZ⟩ := hm.take2 (L1 := [blk bp0 [aR, (.bool (aC.2.bad))] 63, ow [aR] aC.2.list]) (L2 := [blk aD [(.string ⟨(aC.1).b.toArray⟩), (.slice none 0 0), (.slice none 0 0)] 94, blk aB [(.string ⟨((mkS [])).b.toArray⟩), (.slice none 0 0), (.slice none 0 0)] 94]) [1, 2] [0, 3] (by decide) rfl rfl
  refine gCg rfl call129 (pimpl_wordReader__want_ok _ aY aC.2 bp0 aR 3 (mkS [40]) hm1 ) ?_
  rintro a7 bF bG w ⟨bH, rfl, hB⟩
  replace hm := aZ _ _ hB; clear hB
  refine gE (gS ?_)
  obtain ⟨a8, aa, rfl, bJ⟩ := ro_slice (hm.ow_rep 1 rfl)
  refine gJg (fun aE a w => ∃ (aM aN : Value), St 38 [(0, (pV bp0)), (2, (pV aB)), (3, (pV aD))] w0 hz [blk bp0 [aM, (.bool (aE.2.1))] 63, ow [aM] aE.1, blk aB [(.string ⟨((mkS [])).b.toArray⟩), (.slice none 0 0), (.slice none 0 0)] 94, blk aD [(.string ⟨(aC.1).b.toArray⟩), aN, (.slice none 0 0)] 94, ow [aN] aE.2.2] a w) (fun aE => ?_) ?_
  ·
   refine gBk ?_
   replace hm := hm.nilow (α := Str)
   refine gMg (fun aA a w => ∃ (aL aG : Value), St 38 [(0, (pV bp0)), (2, (pV aB)), (3, (pV aD))] w0 hz [blk bp0 [aL, (.bool (aA.2.1))] 63, ow [aL] aA.1, blk aB [(.string ⟨((mkS [])).b.toArray⟩), (.slice none 0 0), (.slice none 0 0)] 94, blk aD [(.string ⟨(aC.1).b.toArray⟩), aG, (.slice none 0 0)] 94, ow [aG] aA.2.2] a w) (fun a hf => ⟨(.slice a8 a7.list.length aa), (.slice none 0 0), hf.sb rfl, hm.pk [1, 2, 4, 3, 0] rfl rfl⟩) ?_
   repeat clear hm
   rintro bK ab aA a w ⟨aL, aG, hf, hm⟩ bL ac
   refine gv hf (gS (gS (gJg (fun aF a w => ∃ (aH : Value), St 38 [(0, (pV bp0)), (2, (pV aB)), (3, (pV aD)), (20, (.bool (aF.2.2)))] w0 hz [blk bp0 [aH, (.bool (aF.2.1))] 63, ow [aH] aF.1, blk aB [(.string ⟨((mkS [])).b.toArray⟩), (.slice none 0 0), (.slice none 0 0)] 94, blk aD [(.string ⟨(aC.1).b.toArray⟩), aG, (.slice none 0 0)] 94, ow [aG] aA.2.2] a w) (fun aF => ?_) ?_)))
   ·
    refine gR (gM rfl (gY (yG rfl (y_nilptr rfl rfl)) (gF fo_63_1 rfl (gL hm 0 isAgg4 rfl (gN rfl (gM rfl (gsn 16 rfl (fun ae => ?_) fun ae => ?_)))))))
    ·
     refine gM rfl ?_
     obtain ⟨af, hle, hm1, hsub, ag⟩ := hm.take2 (L1 := [blk bp0 [aL, (.bool (aA.2.1))] 63, ow [aL] aA.1]) (L2 := [blk aB [(.string ⟨((mkS [])).b.toArray⟩), (.slice none 0 0), (.slice none 0 0)] 94, blk aD [(.string ⟨(aC.1).b.toArray⟩), aG, (.slice none 0 0)] 94, ow [aG] aA.2.2]) [0, 1] [2, 3, 4] (by decide) rfl rfl
     refine gCg rfl call131 (pimpl_wordReader__take_ok _ af (⟨aA.1, aA.2.1⟩ : wordReader) bp0 aL 3 (mkS [41]) hm1 ) ?_
     rintro bM bN bO w ⟨ah, rfl, hB⟩
     replace hm := ag _ _ hB; clear hB
     exact gN rfl (gKt rfl (gE (gZ fun a hf => ⟨ah, hf.sb rfl, hm.pk [0, 1, 2, 3, 4] rfl rfl⟩)))
    exact gO rfl (gO rfl (gO rfl (gKf rfl (gE (gZ fun a hf => ⟨aL, hf.sb rfl, hm.pk [0, 1, 2, 3, 4] rfl rfl⟩)))))
   repeat clear hm
   rintro aF a w ⟨aH, hf, hm⟩
   refine gv hf (gs 20 rfl (fun ai => ?_) fun ai => ?_)
   ·
    refine gct rfl (gSk (gBk (gS (gS (gR (gF fo_94_1 rfl (gL hm 3 isAgg74 rfl ?_)))))))
    obtain ⟨aI, aJ, rfl, bP⟩ := ro_slice (hm.ow_rep 4 rfl)
    refine gY (yV st_74 rfl) (gB rfl (gE (gJg (fun aK a w => ∃ (aO : Value), St 38 [(0, (pV bp0)), (2, (pV aB)), (3, (pV aD))] w0 hz [blk bp0 [aO, (.bool (aK.2))] 63, ow [aO] aK.1, blk aB [(.string ⟨((mkS [])).b.toArray⟩), (.slice none 0 0), (.slice none 0 0)] 94, blk aD [(.string ⟨(aC.1).b.toArray⟩), (.slice aI aA.2.2.length aJ), (.slice none 0 0)] 94, ow [(.slice aI aA.2.2.length aJ)] aA.2.2] a w) (fun aK => ?_) ?_)))
    ·
     refine gsd 24 rfl (fun aj => ?_) fun aj => ?_
     ·
      refine gct rfl (gR (gM rfl ?_))
      obtain ⟨ak, hle, hm1, hsub, al⟩ := hm.take2 (L1 := [blk bp0 [aH, (.bool (aF.2.1))] 63, ow [aH] aF.1]) (L2 := [blk aB [(.string ⟨((mkS [])).b.toArray⟩), (.slice none 0 0), (.slice none 0 0)] 94, blk aD [(.string ⟨(aC.1).b.toArray⟩), (.slice aI aA.2.2.length aJ), (.slice none 0 0)] 94, ow [(.slice aI aA.2.2.length aJ)] aA.2.2]) [0, 1] [2, 3, 4] (by decide) rfl rfl
      refine gCg rfl call129 (pimpl_wordReader__want_ok _ ak (⟨aF.1, aF.2.1⟩ : wordReader) bp0 aH 3 (mkS [44]) hm1 ) ?_
      rintro bQ bR bS w ⟨am, rfl, hB⟩
      replace hm := al _ _ hB; clear hB
      exact gE (gZ fun a hf => ⟨am, hf.sb rfl, hm.pk [0, 1, 2, 3, 4] rfl rfl⟩)
     exact gcf rfl (gSk (gZ fun a hf => ⟨aH, hf.sb rfl, hm.pk [0, 1, 2, 3, 4] rfl rfl⟩))
    repeat clear hm
    rintro aK a w ⟨aO, hf, hm⟩
    refine gv hf (gW (.p 0 (.p 2 (.q 1 (.e 3 (.e 4 (.e 5 (.p 6 (.e 7 .fin .nil)) .nil) .nil) .nil)))) [3, 4] [0, 2, 6] hm [2, 3, 4] [blk aB [(.string ⟨((mkS [])).b.toArray⟩), (.slice none 0 0), (.slice none 0 0)] 94, blk aD [(.string ⟨(aC.1).b.toArray⟩), (.slice aI aA.2.2.length aJ), (.slice none 0 0)] 94, ow [(.slice aI aA.2.2.length aJ)] aA.2.2] rfl mxo (by kernel_rfl) (fun _ _ _ h => h.2) fun w hm hS => tP rfl (fun w => yF fo_94_1 rfl) (tP rfl (fun w => yM rfl) (tQ rfl hS (fun w hm => yL hm 1 isAgg74 rfl) (tO (gb fun aT an => ?_)))))
    obtain ⟨ao, hle, hm1, hsub, ap⟩ := hm.take2 (L1 := [blk bp0 [aO, (.bool (aK.2))] 63, ow [aO] aK.1]) (L2 := [blk aB [(.string ⟨((mkS [])).b.toArray⟩), (.slice none 0 0), (.slice none 0 0)] 94, blk aD [(.string ⟨(aC.1).b.toArray⟩), (.slice aI aA.2.2.length aJ), (.slice none 0 0)] 94, ow [(.slice aI aA.2.2.length aJ)] aA.2.2]) [0, 1] [2, 3, 4] (by decide) rfl rfl
    refine tf rfl rfl (fun a hf => e_call hf rfl call130 rfl (pimpl_wordReader__name_ok _ ao (⟨aK.1, aK.2⟩ : wordReader) bp0 aO hm1  _ an)) ?_
    rintro bT w ⟨aq, rfl, hB⟩
    replace hm := ap _ _ hB; clear hB
    refine tAk hm [2, 3, 4] rfl fun hS => tO (tf rfl rfl (fun a hf => e_build (vs := #[(0, (.string ⟨(aT.1).b.toArray⟩))]) (cs := [(.string ⟨(aT.1).b.toArray⟩)]) et_74 hf hm rfl rfl (by kernel_rfl) rfl rfl) ?_)
    rintro _ w ⟨bU, rfl, hm⟩
    replace hm := hm.lit (xs := ([aT.1] : List Str)) 0 rfl rfl rfl rfl
    refine tAk hm [3, 4, 5] rfl fun hS => tO (gb fun bV ar => ?_)
    obtain ⟨au, av⟩ := appM_some.1 ar
    refine tf rfl rfl (fun a hf => e_append 5 et_74 hf hm rfl (hm.ow_rep 0 rfl) rfl rfl rfl au) ?_
    rintro aw w hm
    rw [av] at hm
    refine tAn rfl (tP rfl (fun w => yF fo_94_1 rfl) (tO (tf0 rfl rfl (fun a hf => e_store1 4 hf hm rfl sizeOf74 rfl rfl rfl (rep_one (hm.ow_rep 5 rfl)) rfl) ?_)))
    rintro _ w hm
    exact tAn rfl (tE (gZe fun a hf => ⟨aq, aw, hf.sb rfl, hm.pk [1, 2, 3, 4, 5] rfl rfl⟩))
   exact gcf rfl (gXt (gHh (gLp ac ab (gZ fun a hf => ⟨aH, aG, hf.sb rfl, hm.pk [0, 1, 2, 3, 4] rfl rfl⟩))))
  repeat clear hm
  rintro aE a w ⟨aM, aN, hf, hm⟩
  refine gv hf (gS (gR (gM rfl ?_)))
  obtain ⟨ax, hle, hm1, hsub, ay⟩ := hm.take2 (L1 := [blk bp0 [aM, (.bool (aE.2.1))] 63, ow [aM] aE.1]) (L2 := [blk aB [(.string ⟨((mkS [])).b.toArray⟩), (.slice none 0 0), (.slice none 0 0)] 94, blk aD [(.string ⟨(aC.1).b.toArray⟩), aN, (.slice none 0 0)] 94, ow [aN] aE.2.2]) [0, 1] [2, 3, 4] (by decide) rfl rfl
  refine gCg rfl call132 (pimpl_wordReader__block_ok _ ax (⟨aE.1, aE.2.1⟩ : wordReader) bp0 aM hm1 (GT.mono hle hG0) (GT.mono hle hG2)) ?_
  rintro bW bX az w ⟨_, bA, rfl, hB⟩
  replace hm := ay _ _ hB; clear hB
  exact gF fo_94_2 rfl (gS1 hm 4 sizeOf92 (rep_one (hm.ow_rep 1 rfl)) rfl fun w hm => gE (gS (gR (gY (yn (hm.blk_at 4 rfl) isAgg94 sizeOf94 rfl) (gSN hm 3 sizeOf94 (one_cons rfl (one_cons (rep_one (hm.ow_rep 5 rfl)) (one_cons (rep_one (hm.ow_rep 1 rfl)) one_nil))) rfl fun w hm => gE (gRt (grc 3 results73 hm rfl isAgg94 sizeOf94 ⟨aN, az, bA, rfl, hm.pk [0, 5, 1, 2] rfl rfl⟩)))))))
theorem slices_IndexFunc_S_string_string_ok (w0 : World) (s_ : List Str) (v1 : Value) (h1 : GT.rep (hp w0) [v1] s_) (f : Str → Option Bool) (fv1 : Value) (hfn1 : ∀ (w : World) (y0 : Str) (r : Bool), Below w0.heap.size w0 w → f y0 = some r → FnOk Tryz.prog fv1 [(.string ⟨(y0).b.toArray⟩)] w (fun v w' => v = (.bool (r)) ∧ Below w.heap.size w w')) :
    ConM Tryz.prog 143 [v1, fv1] w0 (slices_IndexFunc_S_string_string s_ f) fun r v w' => v = (nV r) ∧ Below w0.heap.size w0 w' := by
  unfold slices_IndexFunc_S_string_string
  refine gcon func143 rfl fun r => ?_
  have hm := Mem.start w0
  refine gS (gR (gA rfl (gE (gS (gS (gR (gM rfl ?_)))))))
  obtain ⟨aE, aF, rfl, aL⟩ := ro_slice h1
  refine gY (yV st_74 rfl) (gM rfl (gE (gBk (gNf hm (fun aA aC => [(0, (.slice aE s_.length aF)), (1, fv1), (7, (nV ((s_.length : Int)))), (8, (nV aA))]) (fun aA aC => []) [] rfl ?_ ?_))))
  ·
   repeat clear hm
   intro aM aG aA aC w hm aN aO aP aH
   refine gS (gR (gB rfl (gE (gS (go _ 9 rfl (decide_eq_true (by omega)) (gct rfl (gSk (gS (gBk (gS (gR (gM rfl (gA rfl (gE (gS (gR (gM rfl (gM rfl (gM rfl (gg fun aD aI aB => ?_))))))))))))))))))))
   obtain ⟨aQ, aR, aT, he⟩ := idx_form h1 aB
   obtain ⟨rfl, _, rfl⟩ := sl3 he
   refine gI st_74 aI (idx_lt aB) rfl (gY (yl isAgg9 ((flat_cells (cs := [(.string ⟨(aD).b.toArray⟩)]) (hm.now h1) aB rfl).cell (j := 0) rfl) rfl) (gb fun aU aJ => gf rfl (fun a hf => e_callv hf rfl rfl rfl (hfn1 _ aD _ hm.below aJ)) ?_))
   rintro aV w ⟨rfl, hB⟩
   replace hm := hm.below' hB; clear hB
   refine gE (gs 16 rfl (fun aK => ?_) fun aK => ?_)
   ·
    exact gct rfl (gS (gR (gM rfl (gA rfl (gE (gRt (gLr aH aG (gr1 results143 rfl ⟨rfl, hm.below⟩))))))))
   exact gcf rfl (gSk (gR (gP (by omega) (by omega) rfl (gM rfl (gE (gze hm [] rfl))))))
  repeat clear hm
  intro aW aX w hm aY aZ
  exact gS (gR (gB rfl (gE (gS (go _ 9 rfl (decide_eq_false (by omega)) (gcf rfl (gXt (gHh (gS (gR (gA rfl (gE (gRt (gr1 results143 rfl ⟨rfl, hm.below⟩))))))))))))))
theorem slices_ContainsFunc_S_string_string_ok (w0 : World) (s_ : List Str) (v1 : Value) (h1 : GT.rep (hp w0) [v1] s_) (f : Str → Option Bool) (fv1 : Value) (hfn1 : ∀ (w : World) (y0 : Str) (r : Bool), Below w0.heap.size w0 w → f y0 = some r → FnOk Tryz.prog fv1 [(.string ⟨(y0).b.toArray⟩)] w (fun v w' => v = (.bool (r)) ∧ Below w.heap.size w w')) :
    ConM Tryz.prog 91 [v1, fv1] w0 (slices_ContainsFunc_S_string_string s_ f) fun r v w' => v = (.bool (r)) ∧ Below w0.heap.size w0 w' := by
  unfold slices_ContainsFunc_S_string_string
  refine gcon func91 rfl fun r => ?_
  have hm := Mem.start w0
  exact gS (gR (gA rfl (gE (gS (gR (gM rfl (gM rfl (gC hm rfl call143 (slices_IndexFunc_S_string_string_ok _ s_ v1 (hm.now h1) f fv1 (fun w y0 r hB hq => hfn1 w y0 r (hm.below.trans (hB.mono hm.below.size)) hq)) fun aA aB w hm => gB rfl (gA rfl (gE (gRt (gr1 results91 rfl ⟨rfl, hm.below⟩))))))))))))
theorem impl_ProgramValid_1_ok (w0 : World) (s_ : Str) (hG1 : GT.rep (hp w0) [.slice (some ⟨1, 0, none⟩) 9 9] glob_impl_keys) :
    ConM Tryz.prog 92 [(.string ⟨(s_).b.toArray⟩)] w0 (impl_ProgramValid_1 s_) fun r v w' => v = (.bool (r)) ∧ Below w0.heap.size w0 w' := by
  unfold impl_ProgramValid_1
  refine gcon func92 rfl fun r => ?_
  have hm := Mem.start w0
  exact gS (gR (gA rfl (gE (gS (gR (gM rfl (gC hm rfl call90 (impl_IsName_ok _ s_ (hm.now hG1)) fun aA aB w hm => gN rfl (gA rfl (gE (gRt (gr1 results92 rfl ⟨rfl, hm.below⟩)))))))))))
theorem slices_IndexFunc_S_impl_Stmt_impl_Stmt_ok (w0 : World) (s_ : List Stmt_) (v1 : Value) (h1 : GT.rep (hp w0) [v1] s_) (f : Stmt_ → Option Bool) (fv1 : Value) (hfn1 : ∀ (w : World) (y0 : Stmt_) (z1 : Value) (_ : GT.rep (hp w) [z1] y0.args) (z2 : Value) (_ : GT.rep (hp w) [z2] y0.body) (z3 : Value) (_ : GT.rep (hp w) [z3] y0.else_) (r : Bool), Below w0.heap.size w0 w → f y0 = some r → FnOk Tryz.prog fv1 [(.agg #[(nV y0.op), (.string ⟨(y0.name).b.toArray⟩), z1, z2, z3])] w (fun v w' => v = (.bool (r)) ∧ Below w.heap.size w w')) :
    ConM Tryz.prog 174 [v1, fv1] w0 (slices_IndexFunc_S_impl_Stmt_impl_Stmt s_ f) fun r v w' => v = (nV r) ∧ Below w0.heap.size w0 w' := by
  unfold slices_IndexFunc_S_impl_Stmt_impl_Stmt
  refine gcon func174 rfl fun r => ?_
  have hm := Mem.start w0
  refine gS (gR (gA rfl (gE (gS (gS (gR (gM rfl ?_)))))))
  obtain ⟨aD, aE, rfl, aT⟩ := ro_slice h1
  refine gY (yV st_92 rfl) (gM rfl (gE (gBk (gNf hm (fun aA aC => [(0, (.slice aD s_.length aE)), (1, fv1), (7, (nV ((s_.length : Int)))), (8, (nV aA))]) (fun aA aC => []) [] rfl ?_ ?_))))
  ·
   repeat clear hm
   intro aU aF aA aC w hm aV aW aX aG
   refine gS (gR (gB rfl (gE (gS (go _ 9 rfl (decide_eq_true (by omega)) (gct rfl (gSk (gS (gBk (gS (gR (gM rfl (gA rfl (gE (gS (gR (gM rfl (gM rfl (gM rfl (gg fun aH aI aB => ?_))))))))))))))))))))
   obtain ⟨aY, aZ, a7, he⟩ := idx_form' h1 aB
   obtain ⟨rfl, _, rfl⟩ := sl3 he
   obtain ⟨aJ, aK, aL, aM, aN, aO, aP⟩ := rk_Stmt_ h1 aB
   refine gI st_92 aI (idx_lt aB) rfl (gY (yn (aM.mono hm.lez) isAgg105 sizeOf105 rfl) (gb fun a8 aQ => gf rfl (fun a hf => e_callv hf rfl rfl rfl (hfn1 _ aH aJ (hm.now aN) aK (hm.now aO) aL (hm.now aP) _ hm.below aQ)) ?_))
   rintro aa w ⟨rfl, hB⟩
   replace hm := hm.below' hB; clear hB
   refine gE (gs 16 rfl (fun aR => ?_) fun aR => ?_)
   ·
    exact gct rfl (gS (gR (gM rfl (gA rfl (gE (gRt (gLr aG aF (gr1 results174 rfl ⟨rfl, hm.below⟩))))))))
   exact gcf rfl (gSk (gR (gP (by omega) (by omega) rfl (gM rfl (gE (gze hm [] rfl))))))
  repeat clear hm
  intro ab ac w hm ae af
  exact gS (gR (gB rfl (gE (gS (go _ 9 rfl (decide_eq_false (by omega)) (gcf rfl (gXt (gHh (gS (gR (gA rfl (gE (gRt (gr1 results174 rfl ⟨rfl, hm.below⟩))))))))))))))
theorem slices_ContainsFunc_S_impl_Stmt_impl_Stmt_ok (w0 : World) (s_ : List Stmt_) (v1 : Value) (h1 : GT.rep (hp w0) [v1] s_) (f : Stmt_ → Option Bool) (fv1 : Value) (hfn1 : ∀ (w : World) (y0 : Stmt_) (z1 : Value) (_ : GT.rep (hp w) [z1] y0.args) (z2 : Value) (_ : GT.rep (hp w) [z2] y0.body) (z3 : Value) (_ : GT.rep (hp w) [z3] y0.else_) (r : Bool), Below w0.heap.size w0 w → f y0 = some r → FnOk Tryz.prog fv1 [(.agg #[(nV y0.op), (.string ⟨(y0.name).b.toArray⟩), z1, z2, z3])] w (fun v w' => v = (.bool (r)) ∧ Below w.heap.size w w')) :
    ConM Tryz.prog 144 [v1, fv1] w0 (slices_ContainsFunc_S_impl_Stmt_impl_Stmt s_ f) fun r v w' => v = (.bool (r)) ∧ Below w0.heap.size w0 w' := by
  unfold slices_ContainsFunc_S_impl_Stmt_impl_Stmt
  refine gcon func144 rfl fun r => ?_
  have hm := Mem.start w0
  exact gS (gR (gA rfl (gE (gS (gR (gM rfl (gM rfl (gC hm rfl call174 (slices_IndexFunc_S_impl_Stmt_impl_Stmt_ok _ s_ v1 (hm.now h1) f fv1 (fun w y0 aA aB aC aD aE aF r hB hq => hfn1 w y0 aA aB aC aD aE aF r (hm.below.trans (hB.mono hm.below.size)) hq)) fun aG aH w hm => gB rfl (gA rfl (gE (gRt (gr1 results144 rfl ⟨rfl, hm.below⟩))))))))))))
theorem impl_argCount_ok (w0 : World) (op : Int) :
    ConM Tryz.prog 175 [(nV op)] w0 (impl_argCount op) fun r v w' => v = (.tuple #[(nV r.1), (.bool (r.2.1)), (.bool (r.2.2.1)), (.bool (r.2.2.2))]) ∧ Below w0.heap.size w0 w' := by
  unfold impl_argCount
  refine gcon func175 rfl fun r => ?_
  have hm := Mem.start w0
  refine gS (gR (gA rfl (gA rfl (gA rfl (gA rfl (gE (gS (gS (gR (gM rfl (gE (gBk (gS (gS (gR (gB rfl (gA rfl (gE (gJ hm (fun aA => [(6, (nV op)), (7, (.bool (aA)))]) (fun aA => []) (fun aA => ?_) ?_)))))))))))))))))))
  ·
   refine gsd 7 rfl (fun aD => ?_) fun aD => ?_
   ·
    exact gct rfl (gSk (gz hm [] rfl))
   exact gcf rfl (gR (gB rfl (gA rfl (gE (gz hm [] rfl)))))
  repeat clear hm
  intro aA w hm
  refine gs 7 rfl (fun aE => ?_) fun aE => ?_
  ·
   exact gct rfl (gS (gR (gA rfl (gA rfl (gA rfl (gA rfl (gE (gRt (gr4 results175 rfl ⟨rfl, hm.below⟩)))))))))
  refine gcf rfl (gS (gS (gR (gB rfl (gA rfl (gE (gJ hm (fun aB => [(6, (nV op)), (10, (.bool (aB)))]) (fun aB => []) (fun aB => ?_) ?_)))))))
  ·
   refine gsd 10 rfl (fun aF => ?_) fun aF => ?_
   ·
    exact gct rfl (gSk (gz hm [] rfl))
   refine gcf rfl (gS (gR (gB rfl (gA rfl (gE (gJ hm (fun aC => [(6, (nV op)), (10, (.bool (aC)))]) (fun aC => []) (fun aC => ?_) ?_))))))
   ·
    refine gsd 10 rfl (fun aG => ?_) fun aG => ?_
    ·
     exact gct rfl (gSk (gz hm [] rfl))
    exact gcf rfl (gR (gB rfl (gA rfl (gE (gz hm [] rfl)))))
   repeat clear hm
   intro aC w hm
   exact gz hm [] rfl
  repeat clear hm
  intro aB w hm
  refine gs 10 rfl (fun aH => ?_) fun aH => ?_
  ·
   exact gct rfl (gS (gR (gA rfl (gA rfl (gA rfl (gA rfl (gE (gRt (gr4 results175 rfl ⟨rfl, hm.below⟩)))))))))
  refine gcf rfl (gS (gR (gB rfl (gA rfl (gE (gsd 14 rfl (fun aI => ?_) fun aI => ?_))))))
  ·
   exact gct rfl (gS (gR (gA rfl (gA rfl (gA rfl (gA rfl (gE (gRt (gr4 results175 rfl ⟨rfl, hm.below⟩)))))))))
  refine gcf rfl (gS (gR (gB rfl (gA rfl (gE (gsd 16 rfl (fun aJ => ?_) fun aJ => ?_))))))
  ·
   exact gct rfl (gS (gR (gA rfl (gA rfl (gA rfl (gA rfl (gE (gRt (gr4 results175 rfl ⟨rfl, hm.below⟩)))))))))
  refine gcf rfl (gS (gR (gB rfl (gA rfl (gE (gsd 18 rfl (fun aK => ?_) fun aK => ?_))))))
  ·
   exact gct rfl (gS (gR (gA rfl (gA rfl (gA rfl (gA rfl (gE (gRt (gr4 results175 rfl ⟨rfl, hm.below⟩)))))))))
  exact gcf rfl (gSk (gS (gR (gA rfl (gA rfl (gA rfl (gA rfl (gE (gRt (gr4 results175 rfl ⟨rfl, hm.below⟩))))))))))
theorem impl_isByte_ok (w0 : World) (n_ : Int) :
    ConM Tryz.prog 109 [(nV n_)] w0 (impl_isByte n_) fun r v w' => v = (.bool (r)) ∧ Below w0.heap.size w0 w' := by
  unfold impl_isByte
  refine gcon func109 rfl fun r => ?_
  have hm := Mem.start w0
  exact gS (gR (gA rfl (gE (gS (gR (gM rfl (gC hm rfl call89 (impl_within_ok _ n_ 0 255) fun aA aB w hm => gA rfl (gE (gRt (gr1 results109 rfl ⟨rfl, hm.below⟩))))))))))
theorem impl_levelOf_ok (w0 : World) (op : Int) (hG0 : GT.rep (hp w0) [.slice (some ⟨0, 0, none⟩) 1 1] [glob_impl_opSign]) :
    ConM Tryz.prog 110 [(nV op)] w0 (impl_levelOf op) fun r v w' => v = (nV r) ∧ Below w0.heap.size w0 w' := by
  unfold impl_levelOf
  refine gcon func110 rfl fun r => ?_
  have hm := Mem.start w0
  refine gS (gR (gA rfl (gE (gS (gBk (gS (gR ?_)))))))
  obtain ⟨aI, aB, aC⟩ := glob_map hG0 rfl
  refine gY (yl isAgg119 ((CellsAt.mono hm.lez (aB)).cell (j := 0) rfl) rfl) (gM rfl (gY (yG rfl (y_lookA (key := op) (m := (glob_impl_opSign : MapS St_sign_level)) (z := (⟨(mkS []), 0⟩ : St_sign_level)) (v2 := (.agg #[(.string ⟨(((MapS.get glob_impl_opSign op).getD (⟨(mkS []), 0⟩ : St_sign_level)).sign).b.toArray⟩), (nV (((MapS.get glob_impl_opSign op).getD (⟨(mkS []), 0⟩ : St_sign_level)).level))])) underlying3 underlying119 zeroValue120 (hm.now aC) rfl rfl rfl rfl rfl)) (gY (yG rfl (y_field1 underlying120 rfl rfl isAgg3 rfl rfl rfl)) (gB rfl (gA rfl (gE (gsd 3 rfl (fun aD => ?_) fun aD => ?_)))))))
  ·
   refine gct rfl (gS (gR ?_))
   obtain ⟨aJ, aE, aF⟩ := glob_map hG0 rfl
   exact gY (yl isAgg119 ((CellsAt.mono hm.lez (aE)).cell (j := 0) rfl) rfl) (gM rfl (gY (yG rfl (y_lookA (key := op) (m := (glob_impl_opSign : MapS St_sign_level)) (z := (⟨(mkS []), 0⟩ : St_sign_level)) (v2 := (.agg #[(.string ⟨(((MapS.get glob_impl_opSign op).getD (⟨(mkS []), 0⟩ : St_sign_level)).sign).b.toArray⟩), (nV (((MapS.get glob_impl_opSign op).getD (⟨(mkS []), 0⟩ : St_sign_level)).level))])) underlying3 underlying119 zeroValue120 (hm.now aF) rfl rfl rfl rfl rfl)) (gY (yG rfl (y_field1 underlying120 rfl rfl isAgg3 rfl rfl rfl)) (gA rfl (gE (gRt (gr1 results110 rfl ⟨rfl, hm.below⟩)))))))
  refine gcf rfl (gS (gJ hm (fun aA => [(13, (.bool (aA)))]) (fun aA => []) (fun aA => ?_) ?_))
  ·
   refine gR (gM rfl (gB rfl (gM rfl (gsd 16 rfl (fun aG => ?_) fun aG => ?_))))
   ·
    exact gO rfl (gO rfl (gKt rfl (gA rfl (gE (gz hm [] rfl)))))
   exact gM rfl (gB rfl (gKf rfl (gA rfl (gE (gz hm [] rfl)))))
  repeat clear hm
  intro aA w hm
  refine gs 13 rfl (fun aH => ?_) fun aH => ?_
  ·
   exact gct rfl (gS (gR (gA rfl (gE (gRt (gr1 results110 rfl ⟨rfl, hm.below⟩))))))
  exact gcf rfl (gSk (gS (gR (gA rfl (gE (gRt (gr1 results110 rfl ⟨rfl, hm.below⟩)))))))
theorem impl_exprSize_all  : ∀ (e : Expr_) (most : Int) (r : Int × Int × Bool), impl_exprSize e most = some r → ∀ (w0 : World) (v1 : Value) (h1 : GT.rep (hp w0) [v1] e.kids) (hG0 : GT.rep (hp w0) [.slice (some ⟨0, 0, none⟩) 1 1] [glob_impl_opSign]) (hG1 : GT.rep (hp w0) [.slice (some ⟨1, 0, none⟩) 9 9] glob_impl_keys), Con Tryz.prog 57 [(.agg #[(nV e.op), (nV e.n_), (.string ⟨(e.name).b.toArray⟩), v1]), (nV most)] w0 (fun v w' => v = (.tuple #[(nV r.1), (nV r.2.1), (.bool (r.2.2))]) ∧ Below w0.heap.size w0 w') := by
  refine impl_exprSize.partial_correctness  (motive := fun e most r => ∀ (w0 : World) (v1 : Value) (h1 : GT.rep (hp w0) [v1] e.kids) (hG0 : GT.rep (hp w0) [.slice (some ⟨0, 0, none⟩) 1 1] [glob_impl_opSign]) (hG1 : GT.rep (hp w0) [.slice (some ⟨1, 0, none⟩) 9 9] glob_impl_keys), Con Tryz.prog 57 [(.agg #[(nV e.op), (nV e.n_), (.string ⟨(e.name).b.toArray⟩), v1]), (nV most)] w0 (fun v w' => v = (.tuple #[(nV r.1), (nV r.2.1), (.bool (r.2.2))]) ∧ Below w0.heap.size w0 w')) ?_
  intro rec_ ih_ e most r hq w0 v1 h1 hG0 hG1
  have impl_exprSize_rec : ∀ (w0 : World) (e : Expr_) (v1 : Value) (h1 : GT.rep (hp w0) [v1] e.kids) (most : Int) (hG0 : GT.rep (hp w0) [.slice (some ⟨0, 0, none⟩) 1 1] [glob_impl_opSign]) (hG1 : GT.rep (hp w0) [.slice (some ⟨1, 0, none⟩) 9 9] glob_impl_keys) (r : Int × Int × Bool) (hq : rec_ e most = some r), Con Tryz.prog 57 [(.agg #[(nV e.op), (nV e.n_), (.string ⟨(e.name).b.toArray⟩), v1]), (nV most)] w0 (fun v w' => v = (.tuple #[(nV r.1), (nV r.2.1), (.bool (r.2.2))]) ∧ Below w0.heap.size w0 w') := fun w0 e v1 h1 most hG0 hG1 r hq => ih_ e most r hq w0 v1 h1 hG0 hG1
  refine gconr (ρ := Int × Int × Bool) (R := fun r v w' => v = (.tuple #[(nV r.1), (nV r.2.1), (.bool (r.2.2))]) ∧ Below w0.heap.size w0 w') func57 rfl hq ?_
  have hm := Mem.start w0
  refine gS (gR (gBx hm rfl fun aA w hm => gA rfl (gA rfl (gA rfl (gE (gS (gR (gA rfl (gA rfl (gE (gS (gJge (fun aB a w => 0 ≤ aB.1 ∧ aB.1 ≤ 2 ∧ 0 ≤ aB.2 ∧ aB.2 ≤ 3 ∧ St 127 [(1, (nV most)), (2, (pV aA)), (7, (nV aB.1)), (8, (nV aB.2))] w0 (hp w0) [blk aA [(nV e.op), (nV e.n_), (.string ⟨(e.name).b.toArray⟩), v1] 24] a w) (fun bA aH => ?_) ?_))))))))))))
  ·
   refine gBk (gS (gR (gF fo_24_0 rfl (gL hm 0 isAgg3 rfl (gB rfl (gA rfl (gE (gJge (fun aC a w => 0 ≤ aC.1 ∧ aC.1 ≤ 2 ∧ 0 ≤ aC.2 ∧ aC.2 ≤ 3 ∧ St 127 [(1, (nV most)), (2, (pV aA)), (7, (nV aC.1)), (8, (nV aC.2))] w0 (hp w0) [blk aA [(nV e.op), (nV e.n_), (.string ⟨(e.name).b.toArray⟩), v1] 24] a w) (fun bB aI => ?_) ?_))))))))
   ·
    refine gsd 16 rfl (fun aV => ?_) fun aV => ?_
    ·
     refine gct rfl (gS (gJ hm (fun aJ => [(1, (nV most)), (2, (pV aA)), (7, (nV 0)), (8, (nV 0)), (28, (.bool (aJ)))]) (fun aJ => [blk aA [(nV e.op), (nV e.n_), (.string ⟨(e.name).b.toArray⟩), v1] 24]) (fun aJ => ?_) ?_))
     ·
      refine gR (gF fo_24_1 rfl (gL hm 0 isAgg3 rfl (gC hm rfl call109 (impl_isByte_ok _ e.n_) fun bC bD w hm => gN rfl (gM rfl (gsn 24 rfl (fun aW => ?_) fun aW => ?_)))))
      ·
       exact gO rfl (gO rfl (gO rfl (gKt rfl (gE (gz hm [0] rfl)))))
      exact gF fo_24_2 rfl (gL hm 0 isAgg9 rfl (gY (yG rfl (y_neqs (p := e.name) (q := (mkS [])) rfl rfl rfl)) (gKf rfl (gE (gz hm [0] rfl)))))
     repeat clear hm
     intro aJ w hm
     refine gs 28 rfl (fun aX => ?_) fun aX => ?_
     ·
      exact gct rfl (gS (gR (gA rfl (gA rfl (gA rfl (gE (gRt (gEr aI (gEr aH (gr3 results57 rfl ⟨rfl, hm.below⟩))))))))))
     exact gcf rfl (gSk (gZe fun a hf => ⟨(by first | omega | (dsimp only; omega)), (by first | omega | (dsimp only; omega)), (by first | omega | (dsimp only; omega)), (by first | omega | (dsimp only; omega)), hf.sb rfl, hm.pk [0] rfl rfl⟩))
    refine gcf rfl (gS (gR (gF fo_24_0 rfl (gL hm 0 isAgg3 rfl (gB rfl (gA rfl (gE (gJge (fun aD a w => 0 ≤ aD.1 ∧ aD.1 ≤ 2 ∧ 0 ≤ aD.2 ∧ aD.2 ≤ 3 ∧ St 127 [(1, (nV most)), (2, (pV aA)), (7, (nV aD.1)), (8, (nV aD.2))] w0 (hp w0) [blk aA [(nV e.op), (nV e.n_), (.string ⟨(e.name).b.toArray⟩), v1] 24] a w) (fun bE aO => ?_) ?_))))))))
    ·
     refine gsd 29 rfl (fun aY => ?_) fun aY => ?_
     ·
      refine gct rfl (gS (gJ hm (fun aK => [(1, (nV most)), (2, (pV aA)), (7, (nV 0)), (8, (nV 0)), (41, (.bool (aK)))]) (fun aK => [blk aA [(nV e.op), (nV e.n_), (.string ⟨(e.name).b.toArray⟩), v1] 24]) (fun aK => ?_) ?_))
      ·
       refine gR (gF fo_24_2 rfl (gL hm 0 isAgg9 rfl (gC hm rfl call90 (impl_IsName_ok _ e.name (hm.now hG1)) fun bF bG w hm => gN rfl (gM rfl (gsn 37 rfl (fun aZ => ?_) fun aZ => ?_)))))
       ·
        exact gO rfl (gO rfl (gO rfl (gKt rfl (gE (gz hm [0] rfl)))))
       exact gF fo_24_1 rfl (gL hm 0 isAgg3 rfl (gB rfl (gKf rfl (gE (gz hm [0] rfl)))))
      repeat clear hm
      intro aK w hm
      refine gs 41 rfl (fun a7 => ?_) fun a7 => ?_
      ·
       exact gct rfl (gS (gR (gA rfl (gA rfl (gA rfl (gE (gRt (gEr aO (gEr aI (gEr aH (gr3 results57 rfl ⟨rfl, hm.below⟩)))))))))))
      exact gcf rfl (gSk (gZe fun a hf => ⟨(by first | omega | (dsimp only; omega)), (by first | omega | (dsimp only; omega)), (by first | omega | (dsimp only; omega)), (by first | omega | (dsimp only; omega)), hf.sb rfl, hm.pk [0] rfl rfl⟩))
     refine gcf rfl (gS (gR (gF fo_24_0 rfl (gL hm 0 isAgg3 rfl (gB rfl (gA rfl (gE (gJge (fun aE a w => 0 ≤ aE.1 ∧ aE.1 ≤ 2 ∧ 0 ≤ aE.2 ∧ aE.2 ≤ 3 ∧ St 127 [(1, (nV most)), (2, (pV aA)), (7, (nV aE.1)), (8, (nV aE.2))] w0 (hp w0) [blk aA [(nV e.op), (nV e.n_), (.string ⟨(e.name).b.toArray⟩), v1] 24] a w) (fun bH aQ => ?_) ?_))))))))
     ·
      refine gsd 42 rfl (fun a8 => ?_) fun a8 => ?_
      ·
       refine gct rfl (gS (gR (gA rfl (gE (gS (gJ hm (fun aL => [(1, (nV most)), (2, (pV aA)), (7, (nV 0)), (8, (nV 3)), (54, (.bool (aL)))]) (fun aL => [blk aA [(nV e.op), (nV e.n_), (.string ⟨(e.name).b.toArray⟩), v1] 24]) (fun aL => ?_) ?_))))))
       ·
        refine gR (gF fo_24_2 rfl (gL hm 0 isAgg9 rfl (gC hm rfl call90 (impl_IsName_ok _ e.name (hm.now hG1)) fun bJ bK w hm => gN rfl (gM rfl (gsn 50 rfl (fun aa => ?_) fun aa => ?_)))))
        ·
         exact gO rfl (gO rfl (gO rfl (gKt rfl (gE (gz hm [0] rfl)))))
        exact gF fo_24_1 rfl (gL hm 0 isAgg3 rfl (gB rfl (gKf rfl (gE (gz hm [0] rfl)))))
       repeat clear hm
       intro aL w hm
       refine gs 54 rfl (fun ab => ?_) fun ab => ?_
       ·
        exact gct rfl (gS (gR (gA rfl (gA rfl (gA rfl (gE (gRt (gEr aQ (gEr aO (gEr aI (gEr aH (gr3 results57 rfl ⟨rfl, hm.below⟩))))))))))))
       exact gcf rfl (gSk (gZe fun a hf => ⟨(by first | omega | (dsimp only; omega)), (by first | omega | (dsimp only; omega)), (by first | omega | (dsimp only; omega)), (by first | omega | (dsimp only; omega)), hf.sb rfl, hm.pk [0] rfl rfl⟩))
      refine gcf rfl (gS (gR ?_))
      obtain ⟨bL, ac, ae⟩ := glob_map hG0 rfl
      refine gY (yl isAgg119 ((CellsAt.mono hm.lez (ac)).cell (j := 0) rfl) rfl) (gF fo_24_0 rfl (gL hm 0 isAgg3 rfl (gY (yG rfl (y_lookA (key := e.op) (m := (glob_impl_opSign : MapS St_sign_level)) (z := (⟨(mkS []), 0⟩ : St_sign_level)) (v2 := (.agg #[(.string ⟨(((MapS.get glob_impl_opSign e.op).getD (⟨(mkS []), 0⟩ : St_sign_level)).sign).b.toArray⟩), (nV (((MapS.get glob_impl_opSign e.op).getD (⟨(mkS []), 0⟩ : St_sign_level)).level))])) underlying3 underlying119 zeroValue120 (hm.now ae) rfl rfl rfl rfl rfl)) (gY (yG rfl (y_field1 underlying120 rfl rfl isAgg3 rfl rfl rfl)) (gB rfl (gA rfl (gE (gJge (fun aF a w => 0 ≤ aF.1 ∧ aF.1 ≤ 2 ∧ 0 ≤ aF.2 ∧ aF.2 ≤ 2 ∧ St 127 [(1, (nV most)), (2, (pV aA)), (7, (nV aF.1)), (8, (nV aF.2))] w0 (hp w0) [blk aA [(nV e.op), (nV e.n_), (.string ⟨(e.name).b.toArray⟩), v1] 24] a w) (fun bM af => ?_) ?_))))))))
      ·
       refine gsd 55 rfl (fun ag => ?_) fun ag => ?_
       ·
        exact gct rfl (gR (gA rfl (gA rfl (gE (gZe fun a hf => ⟨(by first | omega | (dsimp only; omega)), (by first | omega | (dsimp only; omega)), (by first | omega | (dsimp only; omega)), (by first | omega | (dsimp only; omega)), hf.sb rfl, hm.pk [0] rfl rfl⟩)))))
       refine gcf rfl (gS (gJ hm (fun aM => [(1, (nV most)), (2, (pV aA)), (62, (.bool (aM)))]) (fun aM => [blk aA [(nV e.op), (nV e.n_), (.string ⟨(e.name).b.toArray⟩), v1] 24]) (fun aM => ?_) ?_))
       ·
        refine gR (gF fo_24_0 rfl (gL hm 0 isAgg3 rfl (gB rfl (gM rfl (gsd 66 rfl (fun ah => ?_) fun ah => ?_)))))
        ·
         exact gO rfl (gO rfl (gO rfl (gKt rfl (gA rfl (gE (gz hm [0] rfl))))))
        exact gF fo_24_0 rfl (gL hm 0 isAgg3 rfl (gB rfl (gKf rfl (gA rfl (gE (gz hm [0] rfl))))))
       repeat clear hm
       intro aM w hm
       refine gs 62 rfl (fun ai => ?_) fun ai => ?_
       ·
        exact gct rfl (gR (gA rfl (gA rfl (gE (gZe fun a hf => ⟨(by first | omega | (dsimp only; omega)), (by first | omega | (dsimp only; omega)), (by first | omega | (dsimp only; omega)), (by first | omega | (dsimp only; omega)), hf.sb rfl, hm.pk [0] rfl rfl⟩)))))
       exact gcf rfl (gS (gR (gA rfl (gA rfl (gA rfl (gE (gRt (gEr af (gEr aQ (gEr aO (gEr aI (gEr aH (gr3 results57 rfl ⟨rfl, hm.below⟩)))))))))))))
      repeat clear hm
      rintro aF a w ⟨bN, bO, bP, bQ, hf, hm⟩
      exact gv hf (gZe fun a hf => ⟨(by first | omega | (dsimp only; omega)), (by first | omega | (dsimp only; omega)), (by first | omega | (dsimp only; omega)), (by first | omega | (dsimp only; omega)), hf.sb rfl, hm.pk [0] rfl rfl⟩)
     repeat clear hm
     rintro aE a w ⟨bR, bS, bT, bU, hf, hm⟩
     exact gv hf (gZe fun a hf => ⟨(by first | omega | (dsimp only; omega)), (by first | omega | (dsimp only; omega)), (by first | omega | (dsimp only; omega)), (by first | omega | (dsimp only; omega)), hf.sb rfl, hm.pk [0] rfl rfl⟩)
    repeat clear hm
    rintro aD a w ⟨bV, bW, bX, bY, hf, hm⟩
    exact gv hf (gZe fun a hf => ⟨(by first | omega | (dsimp only; omega)), (by first | omega | (dsimp only; omega)), (by first | omega | (dsimp only; omega)), (by first | omega | (dsimp only; omega)), hf.sb rfl, hm.pk [0] rfl rfl⟩)
   repeat clear hm
   rintro aC a w ⟨bZ, b4, b5, b6, hf, hm⟩
   exact gv hf (gZe fun a hf => ⟨(by first | omega | (dsimp only; omega)), (by first | omega | (dsimp only; omega)), (by first | omega | (dsimp only; omega)), (by first | omega | (dsimp only; omega)), hf.sb rfl, hm.pk [0] rfl rfl⟩)
  repeat clear hm
  rintro aB a w ⟨b7, b8, b9, ba, hf, hm⟩
  refine gv hf (gS (gS (gJ hm (fun aN => [(1, (nV most)), (2, (pV aA)), (97, (.bool (aN)))]) (fun aN => [blk aA [(nV e.op), (nV e.n_), (.string ⟨(e.name).b.toArray⟩), v1] 24]) (fun aN => ?_) ?_)))
  ·
   refine gR (gF fo_24_0 rfl (gL hm 0 isAgg3 rfl (gC hm rfl call110 (impl_levelOf_ok _ e.op (hm.now hG0)) fun bb bc w hm => gB rfl (gM rfl (gsd 75 rfl (fun aj => ?_) fun aj => ?_)))))
   ·
    refine gF fo_24_1 rfl (gL hm 0 isAgg3 rfl (gB rfl (gM rfl (gsd 79 rfl (fun ak => ?_) fun ak => ?_))))
    ·
     exact gO rfl (gO rfl (gO rfl (gKt rfl (gKt rfl (gM rfl (gO rfl (gO rfl (gO rfl (gO rfl (gO rfl (gO rfl (gO rfl (gKt rfl (gM rfl (gO rfl (gO rfl (gKt rfl (gE (gz hm [0] rfl)))))))))))))))))))
    refine gF fo_24_2 rfl (gL hm 0 isAgg9 rfl (gY (yG rfl (y_neqs (p := e.name) (q := (mkS [])) rfl rfl rfl)) (gKf rfl (gKt rfl (gM rfl (gsd 85 rfl (fun al => ?_) fun al => ?_))))))
    ·
     exact gO rfl (gO rfl (gO rfl (gO rfl (gO rfl (gO rfl (gO rfl (gKt rfl (gM rfl (gO rfl (gO rfl (gKt rfl (gE (gz hm [0] rfl)))))))))))))
    refine gF fo_24_3 rfl (gL hm 0 isAgg22 rfl ?_)
    obtain ⟨bd, be, rfl, bf⟩ := ro_slice h1
    refine gY (yV st_22 rfl) (gM rfl (gM rfl (gC hm rfl call89 (impl_within_ok _ (e.kids.length : Int) aB.1 aB.2) fun bg bh w hm => gN rfl (gKf rfl (gM rfl (gsn 94 rfl (fun am => ?_) fun am => ?_))))))
    ·
     exact gO rfl (gO rfl (gKt rfl (gE (gz hm [0] rfl))))
    exact gM rfl (gB rfl (gKf rfl (gE (gz hm [0] rfl))))
   refine gO rfl (gO rfl (gO rfl (gO rfl (gO rfl (gO rfl (gO rfl (gO rfl (gKf rfl (gM rfl (gF fo_24_3 rfl (gL hm 0 isAgg22 rfl ?_)))))))))))
   obtain ⟨bi, bj, rfl, bk⟩ := ro_slice h1
   refine gY (yV st_22 rfl) (gM rfl (gM rfl (gC hm rfl call89 (impl_within_ok _ (e.kids.length : Int) aB.1 aB.2) fun bl bm w hm => gN rfl (gKf rfl (gM rfl (gsn 94 rfl (fun an => ?_) fun an => ?_))))))
   ·
    exact gO rfl (gO rfl (gKt rfl (gE (gz hm [0] rfl))))
   exact gM rfl (gB rfl (gKf rfl (gE (gz hm [0] rfl))))
  repeat clear hm
  intro aN w hm
  refine gs 97 rfl (fun ao => ?_) fun ao => ?_
  ·
   exact gct rfl (gS (gR (gA rfl (gA rfl (gA rfl (gE (gRt (gr3 results57 rfl ⟨rfl, hm.below⟩))))))))
  refine gcf rfl (gSk (gS (gR (gA rfl (gA rfl (gE (gS (gS (gR (gF fo_24_3 rfl (gL hm 0 isAgg22 rfl ?_)))))))))))
  obtain ⟨ap, aq, rfl, bo⟩ := ro_slice h1
  refine gY (yV st_22 rfl) (gM rfl (gE (gBk (gNg (fun aR aG a w => 0 ≤ aG.2 ∧ St 127 [(1, (nV most)), (9, (nV aG.1)), (10, (nV aG.2)), (99, (.slice ap e.kids.length aq)), (100, (nV ((e.kids.length : Int)))), (101, (nV aR))] w0 (hp w0) [] a w) (fun a hf => ⟨(by first | omega | (dsimp only; omega)), hf.sb rfl, hm.pk [] rfl rfl⟩) ?_ ?_))))
  ·
   repeat clear hm
   rintro bp ar aR aG a w ⟨bq, hf, hm⟩ br bs bt au
   refine gv hf (gS (gR (gB rfl (gE (gS (go _ 102 rfl (decide_eq_true (by omega)) (gct rfl (gSk (gS (gBk (gS (gR (gg fun av aw aP => ?_)))))))))))))
   obtain ⟨bu, bv, bw, he⟩ := idx_form' h1 aP
   obtain ⟨rfl, _, rfl⟩ := sl3 he
   obtain ⟨ax, ay, aT⟩ := rk_Expr_ h1 aP
   refine gI st_22 aw (idx_lt aP) rfl (gY (yn (ay.mono hm.lez) isAgg24 sizeOf24 rfl) (gAl hm zeroValue24 rfl fun bx w hm => gSN hm 0 sizeOf24 (one_cons rfl (one_cons rfl (one_cons rfl (one_cons (rep_one aT) one_nil)))) rfl fun w hm => gE (gS (gR (gY (yn (hm.blk_at 0 rfl) isAgg24 sizeOf24 rfl) (gM rfl (gB rfl (gC hm rfl call57 (impl_exprSize_rec _ av ax (hm.now aT) (w64 (most - 1)) (hm.now hG0) (hm.now hG1)) fun aU bz w hm => gM rfl (gX rfl (gX rfl (gX rfl (gA rfl (gA rfl (gA rfl (gE (gS (gS (gR (gM rfl (gN rfl (gE (gsn 114 rfl (fun az => ?_) fun az => ?_))))))))))))))))))))))
   ·
    exact gct rfl (gS (gR (gA rfl (gA rfl (gA rfl (gE (gRt (gLr au ar (gr3 results57 rfl ⟨rfl, hm.below⟩)))))))))
   refine gcf rfl (gSk (gS (gR (gM rfl (gM rfl (gB rfl (gA rfl (gE (gR (gM rfl (gM rfl (gB rfl (gY (yG rfl (y_max rfl rfl rfl)) ?_)))))))))))))
   have cA : maxI aG.2 (w64 (aU.2.1 + 1)) = max aG.2 (w64 (aU.2.1 + 1)) := maxI_eq _ _
   exact gA rfl (gE (gR (gP (by omega) (by omega) rfl (gM rfl (gE (gZe fun a hf => ⟨(by first | omega | (dsimp only; omega)), hf.sb rfl, hm.pk [] rfl rfl⟩))))))
  repeat clear hm
  rintro cB cC a w ⟨cD, hf, hm⟩ cE cF
  exact gv hf (gS (gR (gB rfl (gE (gS (go _ 102 rfl (decide_eq_false (by omega)) (gcf rfl (gXt (gHh (gS (gR (gM rfl (gM rfl (gM rfl (gB rfl (gA rfl (gA rfl (gA rfl (gE (gRt (gr3 results57 rfl ⟨rfl, hm.below⟩)))))))))))))))))))))
theorem impl_exprSize_ok (w0 : World) (e : Expr_) (v1 : Value) (h1 : GT.rep (hp w0) [v1] e.kids) (most : Int) (hG0 : GT.rep (hp w0) [.slice (some ⟨0, 0, none⟩) 1 1] [glob_impl_opSign]) (hG1 : GT.rep (hp w0) [.slice (some ⟨1, 0, none⟩) 9 9] glob_impl_keys) (r : Int × Int × Bool) (hq : impl_exprSize e most = some r) : Con Tryz.prog 57 [(.agg #[(nV e.op), (nV e.n_), (.string ⟨(e.name).b.toArray⟩), v1]), (nV most)] w0 (fun v w' => v = (.tuple #[(nV r.1), (nV r.2.1), (.bool (r.2.2))]) ∧ Below w0.heap.size w0 w') := impl_exprSize_all e most r hq w0 v1 h1 hG0 hG1
theorem impl_ExprValid_ok (w0 : World) (e : Expr_) (v1 : Value) (h1 : GT.rep (hp w0) [v1] e.kids) (hG0 : GT.rep (hp w0) [.slice (some ⟨0, 0, none⟩) 1 1] [glob_impl_opSign]) (hG1 : GT.rep (hp w0) [.slice (some ⟨1, 0, none⟩) 9 9] glob_impl_keys) :
    ConM Tryz.prog 21 [(.agg #[(nV e.op), (nV e.n_), (.string ⟨(e.name).b.toArray⟩), v1])] w0 (impl_ExprValid e) fun r v w' => v = (.bool (r)) ∧ Below w0.heap.size w0 w' := by
  unfold impl_ExprValid
  refine gcon func21 rfl fun r => ?_
  have hm := Mem.start w0
  exact gS (gR (gBx hm rfl fun aA w hm => gA rfl (gE (gS (gR (gY (yn (hm.blk_at 0 rfl) isAgg24 sizeOf24 rfl) (gC hm rfl call57 (impl_exprSize_ok _ e v1 (hm.now h1) 6 (hm.now hG0) (hm.now hG1)) fun aB aC w hm => gM rfl (gX rfl (gX rfl (gX rfl (gA rfl (gA rfl (gA rfl (gE (gS (gR (gM rfl (gA rfl (gE (gRt (gr1 results21 rfl ⟨rfl, hm.below⟩)))))))))))))))))))))
theorem impl_blockOk_all  : (∀ (list : List Stmt_) (nest : Int) (r : Bool), impl_blockOk list nest = some r → ∀ (w0 : World) (v1 : Value) (h1 : GT.rep (hp w0) [v1] list) (hG0 : GT.rep (hp w0) [.slice (some ⟨0, 0, none⟩) 1 1] [glob_impl_opSign]) (hG1 : GT.rep (hp w0) [.slice (some ⟨1, 0, none⟩) 9 9] glob_impl_keys), Con Tryz.prog 93 [v1, (nV nest)] w0 (fun v w' => v = (.bool (r)) ∧ Below w0.heap.size w0 w')) ∧
    (∀ (s_ : Stmt_) (c0_ : Int) (r : Bool), impl_blockOk_1 s_ c0_ = some r → ∀ (w0 : World) (v1 : Value) (h1 : GT.rep (hp w0) [v1] s_.args) (v2 : Value) (h2 : GT.rep (hp w0) [v2] s_.body) (v3 : Value) (h3 : GT.rep (hp w0) [v3] s_.else_) (bf0 : Nat) (hbf0 : w0.heap[bf0]? = some (.cells ([(nV c0_)] : List Value).toArray 3 (0, 0))) (hG0 : GT.rep (hp w0) [.slice (some ⟨0, 0, none⟩) 1 1] [glob_impl_opSign]) (hG1 : GT.rep (hp w0) [.slice (some ⟨1, 0, none⟩) 9 9] glob_impl_keys), Con Tryz.prog 145 [(.agg #[(nV s_.op), (.string ⟨(s_.name).b.toArray⟩), v1, v2, v3]), (pV bf0)] w0 (fun v w' => v = (.bool (r)) ∧ Below w0.heap.size w0 w')) ∧
    (∀ (s_ : Stmt_) (nest : Int) (r : Bool), impl_stmtOk s_ nest = some r → ∀ (w0 : World) (v1 : Value) (h1 : GT.rep (hp w0) [v1] s_.args) (v2 : Value) (h2 : GT.rep (hp w0) [v2] s_.body) (v3 : Value) (h3 : GT.rep (hp w0) [v3] s_.else_) (hG0 : GT.rep (hp w0) [.slice (some ⟨0, 0, none⟩) 1 1] [glob_impl_opSign]) (hG1 : GT.rep (hp w0) [.slice (some ⟨1, 0, none⟩) 9 9] glob_impl_keys), Con Tryz.prog 146 [(.agg #[(nV s_.op), (.string ⟨(s_.name).b.toArray⟩), v1, v2, v3]), (nV nest)] w0 (fun v w' => v = (.bool (r)) ∧ Below w0.heap.size w0 w')) := by
  refine impl_blockOk.mutual_partial_correctness  (motive_1 := fun list nest r => ∀ (w0 : World) (v1 : Value) (h1 : GT.rep (hp w0) [v1] list) (hG0 : GT.rep (hp w0) [.slice (some ⟨0, 0, none⟩) 1 1] [glob_impl_opSign]) (hG1 : GT.rep (hp w0) [.slice (some ⟨1, 0, none⟩) 9 9] glob_impl_keys), Con Tryz.prog 93 [v1, (nV nest)] w0 (fun v w' => v = (.bool (r)) ∧ Below w0.heap.size w0 w')) (motive_2 := fun s_ c0_ r => ∀ (w0 : World) (v1 : Value) (h1 : GT.rep (hp w0) [v1] s_.args) (v2 : Value) (h2 : GT.rep (hp w0) [v2] s_.body) (v3 : Value) (h3 : GT.rep (hp w0) [v3] s_.else_) (bf0 : Nat) (hbf0 : w0.heap[bf0]? = some (.cells ([(nV c0_)] : List Value).toArray 3 (0, 0))) (hG0 : GT.rep (hp w0) [.slice (some ⟨0, 0, none⟩) 1 1] [glob_impl_opSign]) (hG1 : GT.rep (hp w0) [.slice (some ⟨1, 0, none⟩) 9 9] glob_impl_keys), Con Tryz.prog 145 [(.agg #[(nV s_.op), (.string ⟨(s_.name).b.toArray⟩), v1, v2, v3]), (pV bf0)] w0 (fun v w' => v = (.bool (r)) ∧ Below w0.heap.size w0 w')) (motive_3 := fun s_ nest r => ∀ (w0 : World) (v1 : Value) (h1 : GT.rep (hp w0) [v1] s_.args) (v2 : Value) (h2 : GT.rep (hp w0) [v2] s_.body) (v3 : Value) (h3 : GT.rep (hp w0) [v3] s_.else_) (hG0 : GT.rep (hp w0) [.slice (some ⟨0, 0, none⟩) 1 1] [glob_impl_opSign]) (hG1 : GT.rep (hp w0) [.slice (some ⟨1, 0, none⟩) 9 9] glob_impl_keys), Con Tryz.prog 146 [(.agg #[(nV s_.op), (.string ⟨(s_.name).b.toArray⟩), v1, v2, v3]), (nV nest)] w0 (fun v w' => v = (.bool (r)) ∧ Below w0.heap.size w0 w')) ?_ ?_ ?_
  · intro rec_ ih_ list nest r hq w0 v1 h1 hG0 hG1
    have impl_blockOk_1_rec : ∀ (w0 : World) (s_ : Stmt_) (v1 : Value) (h1 : GT.rep (hp w0) [v1] s_.args) (v2 : Value) (h2 : GT.rep (hp w0) [v2] s_.body) (v3 : Value) (h3 : GT.rep (hp w0) [v3] s_.else_) (c0_ : Int) (bf0 : Nat) (hbf0 : w0.heap[bf0]? = some (.cells ([(nV c0_)] : List Value).toArray 3 (0, 0))) (hG0 : GT.rep (hp w0) [.slice (some ⟨0, 0, none⟩) 1 1] [glob_impl_opSign]) (hG1 : GT.rep (hp w0) [.slice (some ⟨1, 0, none⟩) 9 9] glob_impl_keys) (r : Bool) (hq : rec_ s_ c0_ = some r), Con Tryz.prog 145 [(.agg #[(nV s_.op), (.string ⟨(s_.name).b.toArray⟩), v1, v2, v3]), (pV bf0)] w0 (fun v w' => v = (.bool (r)) ∧ Below w0.heap.size w0 w') := fun w0 s_ v1 h1 v2 h2 v3 h3 c0_ bf0 hbf0 hG0 hG1 r hq => ih_ s_ c0_ r hq w0 v1 h1 v2 h2 v3 h3 bf0 hbf0 hG0 hG1
    refine gconr (ρ := Bool) (R := fun r v w' => v = (.bool (r)) ∧ Below w0.heap.size w0 w') func93 rfl hq ?_
    have hm := Mem.start w0
    exact gS (gR (gBx hm rfl fun aA w hm => gA rfl (gE (gS (gR (gM rfl (gY (yU rfl) (gC hm rfl call144 (slices_ContainsFunc_S_impl_Stmt_impl_Stmt_ok _ list v1 (hm.now h1) (fun y0 => rec_ y0 nest) (.func (.func 145) #[] #[(pV aA)]) (fun w y0 aZ a7 a8 aa ab ac r hB hq => ⟨145, [(pV aA)], rfl, call145, impl_blockOk_1_rec w y0 aZ a7 a8 aa ab ac nest aA (hm.blk_later 0 rfl hB) (rep_later (hm.now hG0) hB) (rep_later (hm.now hG1) hB) r hq⟩)) fun aD aU w hm => gN rfl (gA rfl (gE (gRt (gr1 results93 rfl ⟨rfl, hm.below⟩))))))))))))
  · intro rec_ ih_ s_ c0_ r hq w0 v1 h1 v2 h2 v3 h3 bf0 hbf0 hG0 hG1
    have impl_stmtOk_rec : ∀ (w0 : World) (s_ : Stmt_) (v1 : Value) (h1 : GT.rep (hp w0) [v1] s_.args) (v2 : Value) (h2 : GT.rep (hp w0) [v2] s_.body) (v3 : Value) (h3 : GT.rep (hp w0) [v3] s_.else_) (nest : Int) (hG0 : GT.rep (hp w0) [.slice (some ⟨0, 0, none⟩) 1 1] [glob_impl_opSign]) (hG1 : GT.rep (hp w0) [.slice (some ⟨1, 0, none⟩) 9 9] glob_impl_keys) (r : Bool) (hq : rec_ s_ nest = some r), Con Tryz.prog 146 [(.agg #[(nV s_.op), (.string ⟨(s_.name).b.toArray⟩), v1, v2, v3]), (nV nest)] w0 (fun v w' => v = (.bool (r)) ∧ Below w0.heap.size w0 w') := fun w0 s_ v1 h1 v2 h2 v3 h3 nest hG0 hG1 r hq => ih_ s_ nest r hq w0 v1 h1 v2 h2 v3 h3 hG0 hG1
    refine gconr (ρ := Bool) (R := fun r v w' => v = (.bool (r)) ∧ Below w0.heap.size w0 w') func145 rfl hq ?_
    have hm := Mem.start w0
    exact gS (gR (gBx hm rfl fun aA w hm => gA rfl (gE (gS (gR (gY (yn (hm.blk_at 0 rfl) isAgg105 sizeOf105 rfl) (gY (yl isAgg3 (hm.old_cell hbf0 rfl) rfl) (gC hm rfl call146 (impl_stmtOk_rec _ s_ v1 (hm.now h1) v2 (hm.now h2) v3 (hm.now h3) c0_ (hm.now hG0) (hm.now hG1)) fun aD aU w hm => gN rfl (gA rfl (gE (gRt (gr1 results145 rfl ⟨rfl, hm.below⟩))))))))))))
  · intro rec_ ih_ s_ nest r hq w0 v1 h1 v2 h2 v3 h3 hG0 hG1
    have impl_blockOk_rec : ∀ (w0 : World) (list : List Stmt_) (v1 : Value) (h1 : GT.rep (hp w0) [v1] list) (nest : Int) (hG0 : GT.rep (hp w0) [.slice (some ⟨0, 0, none⟩) 1 1] [glob_impl_opSign]) (hG1 : GT.rep (hp w0) [.slice (some ⟨1, 0, none⟩) 9 9] glob_impl_keys) (r : Bool) (hq : rec_ list nest = some r), Con Tryz.prog 93 [v1, (nV nest)] w0 (fun v w' => v = (.bool (r)) ∧ Below w0.heap.size w0 w') := fun w0 list v1 h1 nest hG0 hG1 r hq => ih_ list nest r hq w0 v1 h1 hG0 hG1
    refine gconr (ρ := Bool) (R := fun r v w' => v = (.bool (r)) ∧ Below w0.heap.size w0 w') func146 rfl hq ?_
    have hm := Mem.start w0
    refine gS (gR (gBx hm rfl fun aA w hm => gA rfl (gE (gS (gR (gF fo_105_0 rfl (gL hm 0 isAgg3 rfl (gC hm rfl call175 (impl_argCount_ok _ s_.op) fun aD aU w hm => gM rfl (gX rfl (gX rfl (gX rfl (gX rfl (gA rfl (gA rfl (gA rfl (gA rfl (gE (gS (gBk (gS (gS (gR (gM rfl (gB rfl (gA rfl (gE (gJ hm (fun aE => [(1, (nV nest)), (2, (pV aA)), (19, (.bool (aE)))]) (fun aE => [blk aA [(nV s_.op), (.string ⟨(s_.name).b.toArray⟩), v1, v2, v3] 105]) (fun aE => ?_) ?_)))))))))))))))))))))))))))
    ·
     refine gsd 19 rfl (fun ae => ?_) fun ae => ?_
     ·
      exact gct rfl (gSk (gz hm [0] rfl))
     refine gcf rfl (gS (gR (gF fo_105_2 rfl (gL hm 0 isAgg22 rfl ?_))))
     obtain ⟨aB, aC, rfl, bC⟩ := ro_slice h1
     refine gY (yV st_22 rfl) (gM rfl (gB rfl (gA rfl (gE (gJ hm (fun aF => [(1, (nV nest)), (2, (pV aA)), (19, (.bool (aF)))]) (fun aF => [blk aA [(nV s_.op), (.string ⟨(s_.name).b.toArray⟩), (.slice aB s_.args.length aC), v2, v3] 105]) (fun aF => ?_) ?_)))))
     ·
      refine gsd 19 rfl (fun af => ?_) fun af => ?_
      ·
       exact gct rfl (gSk (gz hm [0] rfl))
      refine gcf rfl (gS (gJ hm (fun aG => [(1, (nV nest)), (2, (pV aA)), (6, (.bool (aD.2.1))), (7, (.bool (aD.2.2.1))), (8, (.bool (aD.2.2.2))), (19, (.bool (aG)))]) (fun aG => [blk aA [(nV s_.op), (.string ⟨(s_.name).b.toArray⟩), (.slice aB s_.args.length aC), v2, v3] 105]) (fun aG => ?_) ?_))
      ·
       refine gR (gM rfl (gM rfl (gs 28 rfl (fun ag => ?_) fun ag => ?_)))
       ·
        exact gF fo_105_1 rfl (gL hm 0 isAgg9 rfl (gC hm rfl call90 (impl_IsName_ok _ s_.name (hm.now hG1)) fun bD bE w hm => gN rfl (gKt rfl (gA rfl (gE (gz hm [0] rfl))))))
       exact gO rfl (gO rfl (gO rfl (gO rfl (gKf rfl (gA rfl (gE (gz hm [0] rfl)))))))
      repeat clear hm
      intro aG w hm
      refine gJ hm (fun aH => [(1, (nV nest)), (2, (pV aA)), (19, (.bool (aH)))]) (fun aH => [blk aA [(nV s_.op), (.string ⟨(s_.name).b.toArray⟩), (.slice aB s_.args.length aC), v2, v3] 105]) (fun aH => ?_) ?_
      ·
       refine gs 19 rfl (fun ah => ?_) fun ah => ?_
       ·
        exact gct rfl (gSk (gz hm [0] rfl))
       refine gcf rfl (gS (gJ hm (fun aI => [(1, (nV nest)), (2, (pV aA)), (7, (.bool (aD.2.2.1))), (8, (.bool (aD.2.2.2))), (19, (.bool (aI)))]) (fun aI => [blk aA [(nV s_.op), (.string ⟨(s_.name).b.toArray⟩), (.slice aB s_.args.length aC), v2, v3] 105]) (fun aI => ?_) ?_))
       ·
        refine gR (gM rfl (gN rfl (gM rfl (gsn 36 rfl (fun ai => ?_) fun ai => ?_))))
        ·
         exact gF fo_105_1 rfl (gL hm 0 isAgg9 rfl (gY (yG rfl (y_neqs (p := s_.name) (q := (mkS [])) rfl rfl rfl)) (gKt rfl (gA rfl (gE (gz hm [0] rfl))))))
        exact gO rfl (gO rfl (gO rfl (gKf rfl (gA rfl (gE (gz hm [0] rfl))))))
       repeat clear hm
       intro aI w hm
       refine gJ hm (fun aJ => [(1, (nV nest)), (2, (pV aA)), (19, (.bool (aJ)))]) (fun aJ => [blk aA [(nV s_.op), (.string ⟨(s_.name).b.toArray⟩), (.slice aB s_.args.length aC), v2, v3] 105]) (fun aJ => ?_) ?_
       ·
        refine gs 19 rfl (fun aj => ?_) fun aj => ?_
        ·
         exact gct rfl (gSk (gz hm [0] rfl))
        refine gcf rfl (gS (gJ hm (fun aK => [(1, (nV nest)), (2, (pV aA)), (8, (.bool (aD.2.2.2))), (19, (.bool (aK)))]) (fun aK => [blk aA [(nV s_.op), (.string ⟨(s_.name).b.toArray⟩), (.slice aB s_.args.length aC), v2, v3] 105]) (fun aK => ?_) ?_))
        ·
         refine gR (gM rfl (gN rfl (gM rfl (gsn 43 rfl (fun ak => ?_) fun ak => ?_))))
         ·
          refine gF fo_105_3 rfl (gL hm 0 isAgg92 rfl ?_)
          obtain ⟨bF, bG, rfl, bH⟩ := ro_slice h2
          exact gY (yV st_92 rfl) (gB rfl (gKt rfl (gA rfl (gE (gz hm [0] rfl)))))
         exact gO rfl (gO rfl (gO rfl (gO rfl (gKf rfl (gA rfl (gE (gz hm [0] rfl)))))))
        repeat clear hm
        intro aK w hm
        refine gJ hm (fun aL => [(1, (nV nest)), (2, (pV aA)), (19, (.bool (aL)))]) (fun aL => [blk aA [(nV s_.op), (.string ⟨(s_.name).b.toArray⟩), (.slice aB s_.args.length aC), v2, v3] 105]) (fun aL => ?_) ?_
        ·
         refine gs 19 rfl (fun al => ?_) fun al => ?_
         ·
          exact gct rfl (gSk (gz hm [0] rfl))
         refine gcf rfl (gS (gJ hm (fun aM => [(1, (nV nest)), (2, (pV aA)), (19, (.bool (aM)))]) (fun aM => [blk aA [(nV s_.op), (.string ⟨(s_.name).b.toArray⟩), (.slice aB s_.args.length aC), v2, v3] 105]) (fun aM => ?_) ?_))
         ·
          refine gR (gM rfl (gN rfl (gM rfl (gsn 51 rfl (fun am => ?_) fun am => ?_))))
          ·
           refine gF fo_105_4 rfl (gL hm 0 isAgg92 rfl ?_)
           obtain ⟨bJ, bK, rfl, bL⟩ := ro_slice h3
           exact gY (yV st_92 rfl) (gB rfl (gKt rfl (gA rfl (gE (gz hm [0] rfl)))))
          exact gO rfl (gO rfl (gO rfl (gO rfl (gKf rfl (gA rfl (gE (gz hm [0] rfl)))))))
         repeat clear hm
         intro aM w hm
         refine gJ hm (fun aN => [(1, (nV nest)), (2, (pV aA)), (19, (.bool (aN)))]) (fun aN => [blk aA [(nV s_.op), (.string ⟨(s_.name).b.toArray⟩), (.slice aB s_.args.length aC), v2, v3] 105]) (fun aN => ?_) ?_
         ·
          refine gs 19 rfl (fun an => ?_) fun an => ?_
          ·
           exact gct rfl (gSk (gz hm [0] rfl))
          refine gcf rfl (gJ hm (fun aO => [(1, (nV nest)), (2, (pV aA)), (19, (.bool (aO)))]) (fun aO => [blk aA [(nV s_.op), (.string ⟨(s_.name).b.toArray⟩), (.slice aB s_.args.length aC), v2, v3] 105]) (fun aO => ?_) ?_)
          ·
           refine gR (gF fo_105_0 rfl (gL hm 0 isAgg3 rfl (gB rfl (gM rfl (gsd 60 rfl (fun ao => ?_) fun ao => ?_)))))
           ·
            refine gF fo_105_2 rfl (gL hm 0 isAgg22 rfl (gg fun bM ap aQ => ?_))
            obtain ⟨bN, bO, bP, he⟩ := idx_form' h1 aQ
            obtain ⟨rfl, _, rfl⟩ := sl3 he
            obtain ⟨bQ, aq, bR⟩ := rk_Expr_ h1 aQ
            exact gI st_22 ap (idx_lt aQ) rfl (gF fo_24_0 rfl (gY (yl isAgg3 ((aq.mono hm.lez).cell (j := 0) rfl) rfl) (gB rfl (gKt rfl (gA rfl (gE (gz hm [0] rfl)))))))
           exact gO rfl (gO rfl (gO rfl (gO rfl (gO rfl (gO rfl (gKf rfl (gA rfl (gE (gz hm [0] rfl)))))))))
          repeat clear hm
          intro aO w hm
          exact gz hm [0] rfl
         repeat clear hm
         intro aN w hm
         exact gz hm [0] rfl
        repeat clear hm
        intro aL w hm
        exact gz hm [0] rfl
       repeat clear hm
       intro aJ w hm
       exact gz hm [0] rfl
      repeat clear hm
      intro aH w hm
      exact gz hm [0] rfl
     repeat clear hm
     intro aF w hm
     exact gz hm [0] rfl
    repeat clear hm
    intro aE w hm
    refine gs 19 rfl (fun ar => ?_) fun ar => ?_
    ·
     exact gct rfl (gS (gR (gA rfl (gE (gRt (gr1 results146 rfl ⟨rfl, hm.below⟩))))))
    refine gcf rfl (gSk (gS (gS (gR (gF fo_105_2 rfl (gL hm 0 isAgg22 rfl ?_))))))
    obtain ⟨aV, aW, rfl, bS⟩ := ro_slice h1
    refine gY (yV st_22 rfl) (gM rfl (gE (gBk (gNf hm (fun aR aX => [(1, (nV nest)), (2, (pV aA)), (69, (.slice aV s_.args.length aW)), (70, (nV ((s_.args.length : Int)))), (71, (nV aR))]) (fun aR aX => [blk aA [(nV s_.op), (.string ⟨(s_.name).b.toArray⟩), (.slice aV s_.args.length aW), v2, v3] 105]) [0] rfl ?_ ?_))))
    ·
     repeat clear hm
     intro bT au aR aX w hm bU bV bW av
     refine gS (gR (gB rfl (gE (gS (go _ 72 rfl (decide_eq_true (by omega)) (gct rfl (gSk (gS (gBk (gS (gR (gg fun aw ax aT => ?_))))))))))))
     obtain ⟨bX, bY, bZ, he⟩ := idx_form' h1 aT
     obtain ⟨rfl, _, rfl⟩ := sl3 he
     obtain ⟨ay, az, aY⟩ := rk_Expr_ h1 aT
     refine gI st_22 ax (idx_lt aT) rfl (gY (yn (az.mono hm.lez) isAgg24 sizeOf24 rfl) (gAl hm zeroValue24 rfl fun b4 w hm => gSN hm 0 sizeOf24 (one_cons rfl (one_cons rfl (one_cons rfl (one_cons (rep_one aY) one_nil)))) rfl fun w hm => gE (gS (gR (gY (yn (hm.blk_at 0 rfl) isAgg24 sizeOf24 rfl) (gC hm rfl call21 (impl_ExprValid_ok _ aw ay (hm.now aY) (hm.now hG0) (hm.now hG1)) fun b5 b6 w hm => gN rfl (gE (gsn 77 rfl (fun bA => ?_) fun bA => ?_))))))))
     ·
      exact gct rfl (gS (gR (gA rfl (gE (gRt (gLr av au (gr1 results146 rfl ⟨rfl, hm.below⟩)))))))
     exact gcf rfl (gSk (gR (gP (by omega) (by omega) rfl (gM rfl (gE (gze hm [1] rfl))))))
    repeat clear hm
    intro b7 b8 w hm b9 ba
    refine gS (gR (gB rfl (gE (gS (go _ 72 rfl (decide_eq_false (by omega)) (gcf rfl (gXt (gHh (gS (gJ hm (fun aP => [(4, (.bool (aP)))]) (fun aP => []) (fun aP => ?_) ?_))))))))))
    ·
     refine gR (gF fo_105_3 rfl (gL hm 0 isAgg92 rfl (gM rfl (gB rfl (gC hm rfl call93 (impl_blockOk_rec _ s_.body v2 (hm.now h2) (w64 (nest + 1)) (hm.now hG0) (hm.now hG1)) fun bb bc w hm => gM rfl (gs 84 rfl (fun bB => ?_) fun bB => ?_))))))
     ·
      exact gF fo_105_4 rfl (gL hm 0 isAgg92 rfl (gM rfl (gB rfl (gC hm rfl call93 (impl_blockOk_rec _ s_.else_ v3 (hm.now h3) (w64 (nest + 1)) (hm.now hG0) (hm.now hG1)) fun bd be w hm => gKt rfl (gA rfl (gE (gz hm [] rfl)))))))
     exact gO rfl (gO rfl (gO rfl (gO rfl (gO rfl (gKf rfl (gA rfl (gE (gz hm [] rfl))))))))
    repeat clear hm
    intro aP w hm
    exact gRt (gr1 results146 rfl ⟨rfl, hm.below⟩)
theorem impl_blockOk_ok (w0 : World) (list : List Stmt_) (v1 : Value) (h1 : GT.rep (hp w0) [v1] list) (nest : Int) (hG0 : GT.rep (hp w0) [.slice (some ⟨0, 0, none⟩) 1 1] [glob_impl_opSign]) (hG1 : GT.rep (hp w0) [.slice (some ⟨1, 0, none⟩) 9 9] glob_impl_keys) (r : Bool) (hq : impl_blockOk list nest = some r) : Con Tryz.prog 93 [v1, (nV nest)] w0 (fun v w' => v = (.bool (r)) ∧ Below w0.heap.size w0 w') := (impl_blockOk_all ).1 list nest r hq w0 v1 h1 hG0 hG1
theorem impl_measure_1_ok (w0 : World) (hz : Heap) (p0 : Stmt_) (v1 : Value) (h1 : GT.rep hz [v1] p0.args) (v2 : Value) (h2 : GT.rep hz [v2] p0.body) (v3 : Value) (h3 : GT.rep hz [v3] p0.else_) (nest : Int) (c0_ : Int) (bpc0 : Nat) (c1_ : Int) (bpc1 : Nat) (hm0 : Mem w0 hz w0 [blk bpc0 [(nV c0_)] 3, blk bpc1 [(nV c1_)] 3]) :
    ConM Tryz.prog 148 [(.agg #[(nV p0.op), (.string ⟨(p0.name).b.toArray⟩), v1, v2, v3]), (nV nest), (pV bpc0), (pV bpc1)] w0 (impl_measure_1 p0 nest c0_ c1_) fun r v w' => v = (.tuple #[]) ∧ Mem w0 hz w' [blk bpc0 [(nV r.1)] 3, blk bpc1 [(nV r.2)] 3] := by
  unfold impl_measure_1
  refine gcon func148 rfl fun r => ?_
  have hm := hm0
  exact gS (gR (gBx hm rfl fun aA w hm => gE (gS (gR (gL hm 1 isAgg3 rfl (gB rfl (gS1 hm 1 sizeOf3 rfl rfl fun w hm => gE (gR (gL hm 2 isAgg3 rfl (gM rfl (gY (yG rfl (y_max rfl rfl rfl)) (gS1 hm 2 sizeOf3 rfl rfl fun w hm => gE (gre results148 ⟨rfl, hm.pk [1, 2] rfl rfl⟩)))))))))))))
theorem impl_stmts_all : ∀ (list : List Stmt_) (nest : Int) (s0 r : Int × Int), impl_stmts list nest s0 = some r → ∀ (w0 : World) (hz : Heap) (v1 : Value) (h1 : GT.rep hz [v1] list) (bpc0 bpc1 : Nat) (hm0 : Mem w0 hz w0 [blk bpc0 [(nV s0.1)] 3, blk bpc1 [(nV s0.2)] 3]), Con Tryz.prog 147 [v1, (nV nest), .func (.func 148) #[] #[(pV bpc0), (pV bpc1)]] w0 (fun v w' => v = (.tuple #[]) ∧ Mem w0 hz w' [blk bpc0 [(nV r.1)] 3, blk bpc1 [(nV r.2)] 3]) := by
  refine impl_stmts.partial_correctness (motive := fun list nest s0 r => ∀ (w0 : World) (hz : Heap) (v1 : Value) (h1 : GT.rep hz [v1] list) (bpc0 bpc1 : Nat) (hm0 : Mem w0 hz w0 [blk bpc0 [(nV s0.1)] 3, blk bpc1 [(nV s0.2)] 3]), Con Tryz.prog 147 [v1, (nV nest), .func (.func 148) #[] #[(pV bpc0), (pV bpc1)]] w0 (fun v w' => v = (.tuple #[]) ∧ Mem w0 hz w' [blk bpc0 [(nV r.1)] 3, blk bpc1 [(nV r.2)] 3])) ?_
  intro rec_ ih_ list nest s0 r hq w0 hz v1 h1 bpc0 bpc1 hm0
  refine gconr (ρ := Int × Int) (R := fun r v w' => v = (.tuple #[]) ∧ Mem w0 hz w' [blk bpc0 [(nV r.1)] 3, blk bpc1 [(nV r.2)] 3]) func147 rfl hq ?_
  have hm := hm0
  refine gS (gR (gM rfl ?_))
  obtain ⟨aP, aQ, rfl, aX⟩ := ro_slice h1
  refine gY (yV st_92 rfl) (gM rfl (gE (gBk (gNf hm (fun aF aA => [(1, (nV nest)), (2, .func (.func 148) #[] #[(pV bpc0), (pV bpc1)]), (8, (.slice aP list.length aQ)), (9, (nV ((list.length : Int)))), (10, (nV aF))]) (fun aF aA => [blk bpc0 [(nV aA.1)] 3, blk bpc1 [(nV aA.2)] 3]) [0, 1] rfl ?_ ?_))))
  ·
   repeat clear hm
   intro _ _ aF aA w hm aY aZ a7 _
   refine gS (gR (gB rfl (gE (gS (go _ 11 rfl (decide_eq_true (by omega)) (gct rfl (gSk (gS (gBk (gS (gR (gg fun aB aR aG => ?_))))))))))))
   obtain ⟨a8, aa, ab, he⟩ := idx_form' h1 aG
   obtain ⟨rfl, _, rfl⟩ := sl3 he
   obtain ⟨aE, aC, aD, aT, aK, aH, aI⟩ := rk_Stmt_ h1 aG
   refine gI st_92 aR (idx_lt aG) rfl (gY (yn (aT.mono hm.lez) isAgg105 sizeOf105 rfl) (gAl hm zeroValue105 rfl fun aJ w hm => gSN hm 0 sizeOf105 (one_cons rfl (one_cons rfl (one_cons (rep_one aK) (one_cons (rep_one aH) (one_cons (rep_one aI) one_nil))))) rfl fun w hm => gE (gS (gR (gM rfl (gY (yn (hm.blk_at 0 rfl) isAgg105 sizeOf105 rfl) (gM rfl ?_)))))))
   obtain ⟨aU, hle1, hm1, hsub, aL⟩ := hm.take2 (L1 := [blk bpc0 [(nV aA.1)] 3, blk bpc1 [(nV aA.2)] 3]) (L2 := [blk aJ [(nV aB.op), (.string ⟨(aB.name).b.toArray⟩), aE, aC, aD] 105]) [1, 2] [0] (by decide) rfl rfl
   refine gf rfl (fun a hf => e_callv hf rfl rfl rfl ⟨148, [(pV bpc0), (pV bpc1)], rfl, call148, impl_measure_1_ok _ aU aB aE (GT.mono hle1 aK) aC (GT.mono hle1 aH) aD (GT.mono hle1 aI) nest aA.1 bpc0 aA.2 bpc1 hm1 _ rfl⟩) ?_
   rintro ac w ⟨rfl, hB⟩
   replace hm := aL _ _ hB; clear hB aL hsub hm1
   refine gE (gS (gR (gF fo_105_3 rfl (gL hm 2 isAgg92 rfl (gM rfl (gB rfl (gM rfl ?_)))))))
   obtain ⟨aV, hle2, hm1, hsub, aM⟩ := hm.take2 (L1 := [blk bpc0 [(nV (w64 (aA.1 + 1)))] 3, blk bpc1 [(nV (maxI aA.2 nest))] 3]) (L2 := [blk aJ [(nV aB.op), (.string ⟨(aB.name).b.toArray⟩), aE, aC, aD] 105]) [0, 1] [2] (by decide) rfl rfl
   refine gCg rfl call147 (fun r hq => ih_ _ _ _ r hq _ aV aC (GT.mono hle2 aH) bpc0 bpc1 hm1) ?_
   rintro aN ae af w ⟨rfl, hB⟩
   replace hm := aM _ _ hB; clear hB aM hsub hm1
   refine gE (gR (gF fo_105_4 rfl (gL hm 2 isAgg92 rfl (gM rfl (gB rfl (gM rfl ?_))))))
   obtain ⟨aW, hle3, hm1, hsub, aO⟩ := hm.take2 (L1 := [blk bpc0 [(nV aN.1)] 3, blk bpc1 [(nV aN.2)] 3]) (L2 := [blk aJ [(nV aB.op), (.string ⟨(aB.name).b.toArray⟩), aE, aC, aD] 105]) [0, 1] [2] (by decide) rfl rfl
   refine gCg rfl call147 (fun r hq => ih_ _ _ _ r hq _ aW aD (GT.mono hle3 aI) bpc0 bpc1 hm1) ?_
   rintro ag ah ai w ⟨rfl, hB⟩
   replace hm := aO _ _ hB; clear hB aO hsub hm1
   exact gE (gR (gP (by omega) (by omega) rfl (gM rfl (gE (gze hm [0, 1] rfl)))))
  repeat clear hm
  intro aj ak w hm al am
  exact gS (gR (gB rfl (gE (gS (go _ 11 rfl (decide_eq_false (by omega)) (gcf rfl (gXt (gHh (gre results147 ⟨rfl, hm⟩)))))))))
theorem impl_stmts_ok (w0 : World) (hz : Heap) (list : List Stmt_) (v1 : Value) (h1 : GT.rep hz [v1] list) (nest : Int) (c0 : Int) (bpc0 : Nat) (c1 : Int) (bpc1 : Nat) (hm0 : Mem w0 hz w0 [blk bpc0 [(nV c0)] 3, blk bpc1 [(nV c1)] 3]) (r : Int × Int) (hq : impl_stmts list nest (c0, c1) = some r) :
    Con Tryz.prog 147 [v1, (nV nest), .func (.func 148) #[] #[(pV bpc0), (pV bpc1)]] w0 (fun v w' => v = (.tuple #[]) ∧ Mem w0 hz w' [blk bpc0 [(nV r.1)] 3, blk bpc1 [(nV r.2)] 3]) := impl_stmts_all list nest (c0, c1) r hq w0 hz v1 h1 bpc0 bpc1 hm0
theorem impl_measure_ok (w0 : World) (p_ : Program_) (v1 : Value) (h1 : GT.rep (hp w0) [v1] p_.fns) :
    ConM Tryz.prog 94 [(.agg #[v1])] w0 (impl_measure p_) fun r v w' => v = (.tuple #[(nV r.1), (nV r.2)]) ∧ Below w0.heap.size w0 w' := by
  unfold impl_measure
  refine gcon func94 rfl fun r => ?_
  have hm := Mem.start w0
  refine gS (gR (gBx hm rfl fun aU w hm => gAl hm zeroValue3 rfl fun aB w hm => gAl hm zeroValue3 rfl fun aC w hm => gE (gS (gS (gR (gF fo_46_0 rfl (gL hm 2 isAgg44 rfl ?_)))))))
  obtain ⟨aK, aL, rfl, aV⟩ := ro_slice h1
  refine gY (yV st_44 rfl) (gM rfl (gE (gBk (gNf hm (fun aE aA => [(2, (pV aB)), (3, (pV aC)), (7, (.slice aK p_.fns.length aL)), (8, (nV ((p_.fns.length : Int)))), (9, (nV aE))]) (fun aE aA => [blk aB [(nV aA.1)] 3, blk aC [(nV aA.2)] 3]) [1, 0] rfl ?_ ?_))))
  ·
   repeat clear hm
   intro _ _ aE aA w hm aW aX aY _
   refine gS (gR (gB rfl (gE (gS (go _ 10 rfl (decide_eq_true (by omega)) (gct rfl (gSk (gS (gBk (gS (gR (gg fun aH aM aF => ?_))))))))))))
   obtain ⟨aZ, a7, a8, he⟩ := idx_form' h1 aF
   obtain ⟨rfl, _, rfl⟩ := sl3 he
   obtain ⟨aN, aI, aO, aP, aJ⟩ := rk_Fn_ h1 aF
   refine gI st_44 aM (idx_lt aF) rfl (gY (yn (aO.mono hm.lez) isAgg94 sizeOf94 rfl) (gAl hm zeroValue94 rfl fun aQ w hm => gSN hm 0 sizeOf94 (one_cons rfl (one_cons (rep_one aP) (one_cons (rep_one aJ) one_nil))) rfl fun w hm => gE (gR (gF fo_94_2 rfl (gL hm 0 isAgg92 rfl (gY (yU rfl) ?_))))))
   obtain ⟨aR, hle, hm1, hsub, aT⟩ := hm.take2 (L1 := [blk aB [(nV aA.1)] 3, blk aC [(nV aA.2)] 3]) (L2 := [blk aQ [(.string ⟨(aH.name).b.toArray⟩), aN, aI] 94]) [1, 2] [0] (by decide) rfl rfl
   refine gCg rfl call147 (impl_stmts_ok _ aR aH.body aI (GT.mono hle aJ) 1 aA.1 aB aA.2 aC hm1) ?_
   rintro aa ab ac w ⟨rfl, hB⟩
   replace hm := aT _ _ hB; clear hB
   exact gE (gR (gP (by omega) (by omega) rfl (gM rfl (gE (gze hm [0, 1] rfl)))))
  repeat clear hm
  intro ae aD w hm af ag
  refine gS (gR (gB rfl (gE (gS (go _ 10 rfl (decide_eq_false (by omega)) (gcf rfl (gXt (gHh (gS (gJ hm (fun aG => [(2, (pV aB)), (3, (pV aC))]) (fun aG => [blk aB [(nV aD.1)] 3, blk aC [(nV aD.2)] 3]) (fun aG => ?_) ?_))))))))))
  ·
   refine gW (.e 0 (.e 1 (.e 2 (.e 3 .fin .nil) .nil) (.e 2 (.e 1 (.e 3 .fin .nil) .nil) .nil)) (.e 1 (.e 0 (.e 2 (.e 3 .fin .nil) .nil) .nil) .nil)) [] [] hm [0, 1] [blk aB [(nV aD.1)] 3, blk aC [(nV aD.2)] 3] rfl mxo (by kernel_rfl) (fun _ _ _ h => h.2) fun w hm hS => tMo ?_ ?_
   ·
    refine tY rfl (yL hm 0 isAgg3 rfl) (tAn rfl (tMo ?_ ?_))
    ·
     refine tY rfl (yL hm 1 isAgg3 rfl) (tAn rfl (tO (tf0 rfl rfl (fun a hf => e_store1 0 hf hm rfl sizeOf3 rfl rfl rfl rfl rfl) ?_)))
     rintro _ w hm
     refine tAn rfl (tO (tf0 rfl rfl (fun a hf => e_store1 1 hf hm rfl sizeOf3 rfl rfl rfl rfl rfl) ?_))
     rintro _ w hm
     exact tAn rfl (tE (gz hm [0, 1] rfl))
    refine tO (tf0 rfl rfl (fun a hf => e_store1 0 hf hm rfl sizeOf3 rfl rfl rfl rfl rfl) ?_)
    rintro _ w hm
    refine tAn rfl (tO (tY rfl (yL hm 1 isAgg3 rfl) (tAn rfl (tO (tf0 rfl rfl (fun a hf => e_store1 1 hf hm rfl sizeOf3 rfl rfl rfl rfl rfl) ?_)))))
    rintro _ w hm
    exact tAn rfl (tE (gz hm [0, 1] rfl))
   refine tO (tY rfl (yL hm 1 isAgg3 rfl) (tAn rfl (tO (tY rfl (yL hm 0 isAgg3 rfl) (tAn rfl (tO (tf0 rfl rfl (fun a hf => e_store1 0 hf hm rfl sizeOf3 rfl rfl rfl rfl rfl) ?_)))))))
   rintro _ w hm
   refine tAn rfl (tO (tf0 rfl rfl (fun a hf => e_store1 1 hf hm rfl sizeOf3 rfl rfl rfl rfl rfl) ?_))
   rintro _ w hm
   exact tAn rfl (tE (gz hm [0, 1] rfl))
  repeat clear hm
  intro aG w hm
  exact gRt (grcc1 0 1 results94 hm rfl isAgg3 isAgg3 ⟨rfl, hm.below⟩)
theorem impl_ProgramValid_ok (w0 : World) (p_ : Program_) (v1 : Value) (h1 : GT.rep (hp w0) [v1] p_.fns) (hG0 : GT.rep (hp w0) [.slice (some ⟨0, 0, none⟩) 1 1] [glob_impl_opSign]) (hG1 : GT.rep (hp w0) [.slice (some ⟨1, 0, none⟩) 9 9] glob_impl_keys) :
    ConM Tryz.prog 39 [(.agg #[v1])] w0 (impl_ProgramValid p_) fun r v w' => v = (.bool (r)) ∧ Below w0.heap.size w0 w' := by
  unfold impl_ProgramValid
  refine gcon func39 rfl fun r => ?_
  have hm := Mem.start w0
  refine gS (gR (gBx hm rfl fun aB w hm => gA rfl (gE (gS (gS (gR (gF fo_46_0 rfl (gL hm 0 isAgg44 rfl ?_))))))))
  obtain ⟨aF, aA, rfl, aZ⟩ := ro_slice h1
  refine gY (yV st_44 rfl) (gC hm rfl call89 (impl_within_ok _ (p_.fns.length : Int) 1 4) fun a7 a8 w hm => gN rfl (gE (gsn 11 rfl (fun aM => ?_) fun aM => ?_)))
  ·
   exact gct rfl (gS (gR (gA rfl (gE (gRt (gr1 results39 rfl ⟨rfl, hm.below⟩))))))
  refine gcf rfl (gSk (gS (gS (gR (gF fo_46_0 rfl (gL hm 0 isAgg44 rfl (gY (yV st_44 rfl) (gM rfl (gE (gBk (gNf hm (fun aC aI => [(1, (pV aB)), (13, (.slice aF p_.fns.length aA)), (14, (nV ((p_.fns.length : Int)))), (15, (nV aC))]) (fun aC aI => [blk aB [(.slice aF p_.fns.length aA)] 46]) [0] rfl ?_ ?_)))))))))))
  ·
   repeat clear hm
   intro aa aN aC aI w hm ab ac ae aO
   refine gS (gR (gB rfl (gE (gS (go _ 16 rfl (decide_eq_true (by omega)) (gct rfl (gSk (gS (gBk (gS (gR (gg fun aD aP aG => ?_))))))))))))
   obtain ⟨aJ, aK, af, he⟩ := idx_form' h1 aG
   obtain ⟨rfl, _, rfl⟩ := sl3 he
   obtain ⟨ag, aQ, aR, aH, aL⟩ := rk_Fn_ h1 aG
   refine gI st_44 aP (idx_lt aG) rfl (gY (yn (aR.mono hm.lez) isAgg94 sizeOf94 rfl) (gAl hm zeroValue94 rfl fun ah w hm => gSN hm 0 sizeOf94 (one_cons rfl (one_cons (rep_one aH) (one_cons (rep_one aL) one_nil))) rfl fun w hm => gE (gS (gJ hm (fun aE => [(1, (pV aB)), (13, (sV aJ aK p_.fns.length aA)), (14, (nV ((p_.fns.length : Int)))), (15, (nV aC)), (39, (.bool (aE)))]) (fun aE => [blk aB [(sV aJ aK p_.fns.length aA)] 46]) (fun aE => ?_) ?_))))
   ·
    refine gR (gF fo_94_0 rfl (gL hm 0 isAgg9 rfl (gC hm rfl call90 (impl_IsName_ok _ aD.name (hm.now hG1)) fun ai aj w hm => gN rfl (gM rfl (gsn 23 rfl (fun aT => ?_) fun aT => ?_)))))
    ·
     exact gO rfl (gO rfl (gO rfl (gO rfl (gKt rfl (gM rfl (gO rfl (gO rfl (gO rfl (gKt rfl (gM rfl (gO rfl (gO rfl (gO rfl (gO rfl (gKt rfl (gE (gz hm [1] rfl)))))))))))))))))
    refine gF fo_94_1 rfl (gL hm 0 isAgg74 rfl ?_)
    obtain ⟨aU, aV, rfl, ak⟩ := ro_slice aH
    refine gY (yV st_74 rfl) (gB rfl (gKf rfl (gM rfl (gsd 29 rfl (fun aW => ?_) fun aW => ?_))))
    ·
     exact gO rfl (gO rfl (gO rfl (gKt rfl (gM rfl (gO rfl (gO rfl (gO rfl (gO rfl (gKt rfl (gE (gz hm [1] rfl)))))))))))
    refine gF fo_94_1 rfl (gL hm 0 isAgg74 rfl (gC hm rfl call91 (slices_ContainsFunc_S_string_string_ok _ aD.params (.slice aU aD.params.length aV) (hm.now aH) (fun y0 => impl_ProgramValid_1 y0) (.func (.func 92) #[] #[]) (fun w y0 r hB hq => ⟨92, [], rfl, call92, impl_ProgramValid_1_ok w y0 (rep_later (hm.now hG1) hB) r hq⟩)) fun al am w hm => gKf rfl (gM rfl (gs 34 rfl (fun aX => ?_) fun aX => ?_))))
    ·
     exact gO rfl (gO rfl (gO rfl (gO rfl (gKt rfl (gE (gz hm [1] rfl))))))
    exact gF fo_94_2 rfl (gL hm 0 isAgg92 rfl (gC hm rfl call93 (impl_blockOk_ok _ aD.body aQ (hm.now aL) 1 (hm.now hG0) (hm.now hG1)) fun an ao w hm => gN rfl (gKf rfl (gE (gz hm [1] rfl)))))
   repeat clear hm
   intro aE w hm
   refine gs 39 rfl (fun aY => ?_) fun aY => ?_
   ·
    exact gct rfl (gS (gR (gA rfl (gE (gRt (gLr aO aN (gr1 results39 rfl ⟨rfl, hm.below⟩)))))))
   exact gcf rfl (gSk (gR (gP (by omega) (by omega) rfl (gM rfl (gE (gze hm [0] rfl))))))
  repeat clear hm
  intro ap aq w hm ar au
  exact gS (gR (gB rfl (gE (gS (go _ 16 rfl (decide_eq_false (by omega)) (gcf rfl (gXt (gHh (gS (gR (gY (yn (hm.blk_at 0 rfl) isAgg46 sizeOf46 rfl) (gC hm rfl call94 (impl_measure_ok _ p_ (.slice aF p_.fns.length aA) (hm.now h1)) fun av aw w hm => gM rfl (gX rfl (gX rfl (gA rfl (gA rfl (gE (gS (gR (gM rfl (gB rfl (gA rfl (gE (gRt (gr1 results39 rfl ⟨rfl, hm.below⟩)))))))))))))))))))))))))
theorem impl_ReadProgram_ok (w0 : World) (s_ : Str) (hG0 : GT.rep (hp w0) [.slice (some ⟨0, 0, none⟩) 1 1] [glob_impl_opSign]) (hG1 : GT.rep (hp w0) [.slice (some ⟨1, 0, none⟩) 9 9] glob_impl_keys) (hG2 : GT.rep (hp w0) [.slice (some ⟨2, 0, none⟩) 1 1] [glob_impl_stmtKeys]) :
    ConM Tryz.prog 31 [(.string ⟨(s_).b.toArray⟩)] w0 (impl_ReadProgram s_) fun r v w' => ∃ (x1 : Value), v = (.tuple #[(.agg #[x1]), (.bool (r.2))]) ∧ Mem w0 (hp w0) w' [ow [x1] r.1.fns] := by
  unfold impl_ReadProgram
  refine gcon func31 rfl fun r => ?_
  have hm := Mem.start w0
  refine gS (gR (gAl hm zeroValue46 rfl fun aD w hm => gA rfl (gE (gS (gR (gM rfl (gCg rfl call29 (impl_CutWords_ok _ s_ (hm.now hG1)) ?_)))))))
  rintro aM ag ah w ⟨ai, rfl, hB⟩
  replace hm := hm.give hB; clear hB
  refine gM rfl (gX rfl (gX rfl (gA rfl (gA rfl (gE (gS (gR (gM rfl (gM rfl (gN rfl ?_))))))))))
  obtain ⟨aQ, aR, rfl, aj⟩ := ro_slice (hm.ow_rep 0 rfl)
  refine gY (yG rfl (y_build (vs := [(0, (.slice aQ aM.1.length aR)), (1, (.bool (!(aM.2))))]) (cs := #[(.slice aQ aM.1.length aR), (.bool (!(aM.2)))]) rfl rfl (by kernel_rfl))) (gBx hm rfl fun aF w hm => gA rfl (gE (gS (gR (gAl hm zeroValue46 rfl fun aE w hm => gE (gS (gJg (fun aI a w => ∃ (aT aJ : Value), St 49 [(2, (pV aD)), (6, (pV aF)), (7, (pV aE))] w0 (hp w0) [blk aD [(.slice none 0 0)] 46, blk aF [aT, (.bool (aI.2.1))] 63, ow [aT] aI.1, blk aE [aJ] 46, ow [aJ] aI.2.2] a w) (fun aI => ?_) ?_)))))))
  ·
   refine gBk ?_
   replace hm := hm.nilow (α := Fn_)
   refine gMg (fun aB a w => ∃ (aG aC : Value), St 49 [(2, (pV aD)), (6, (pV aF)), (7, (pV aE))] w0 (hp w0) [blk aD [(.slice none 0 0)] 46, blk aF [aG, (.bool (aB.2.1))] 63, ow [aG] aB.1, blk aE [aC] 46, ow [aC] aB.2.2] a w) (fun a hf => ⟨(.slice aQ aM.1.length aR), (.slice none 0 0), hf.sb rfl, hm.pk [4, 2, 3, 1, 0] rfl rfl⟩) ?_
   repeat clear hm
   rintro ak aU aB a w ⟨aG, aC, hf, hm⟩ al aV
   refine gv hf (gS (gS (gJ hm (fun aN => [(2, (pV aD)), (6, (pV aF)), (7, (pV aE)), (30, (.bool (aN)))]) (fun aN => [blk aD [(.slice none 0 0)] 46, blk aF [aG, (.bool (aB.2.1))] 63, ow [aG] aB.1, blk aE [aC] 46, ow [aC] aB.2.2]) (fun aN => ?_) ?_)))
   ·
    refine gR (gM rfl (gY (yG rfl (y_nilptr rfl rfl)) (gF fo_63_1 rfl (gL hm 1 isAgg4 rfl (gN rfl (gM rfl (gsn 23 rfl (fun aW => ?_) fun aW => ?_)))))))
    ·
     refine gM rfl (gY (yG rfl (y_nilptr rfl rfl)) (gF fo_63_0 rfl (gL hm 1 isAgg41 rfl ?_)))
     obtain ⟨am, an, rfl, ao⟩ := ro_slice (hm.ow_rep 2 rfl)
     exact gY (yV st_41 rfl) (gB rfl (gKt rfl (gE (gz hm [0, 1, 2, 3, 4] rfl))))
    exact gO rfl (gO rfl (gO rfl (gO rfl (gO rfl (gO rfl (gKf rfl (gE (gz hm [0, 1, 2, 3, 4] rfl))))))))
   repeat clear hm
   intro aN w hm
   refine gs 30 rfl (fun aX => ?_) fun aX => ?_
   ·
    refine gct rfl (gSk (gBk (gW (.p 0 (.p 2 (.q 1 (.e 3 (.e 4 (.e 5 (.p 6 (.e 7 .fin .nil)) .nil) .nil) .nil)))) [3, 4] [0, 2, 6] hm [0, 3, 4] [blk aD [(.slice none 0 0)] 46, blk aE [aC] 46, ow [aC] aB.2.2] rfl mxo (by kernel_rfl) (fun _ _ _ h => h.2) fun w hm hS => tP rfl (fun w => yF fo_46_0 rfl) (tP rfl (fun w => yM rfl) (tQ rfl hS (fun w hm => yL hm 1 isAgg44 rfl) (tO (gb fun aA aY => ?_)))))))
    obtain ⟨aZ, hle, hm1, hsub, a7⟩ := hm.take2 (L1 := [blk aF [aG, (.bool (aB.2.1))] 63, ow [aG] aB.1]) (L2 := [blk aD [(.slice none 0 0)] 46, blk aE [aC] 46, ow [aC] aB.2.2]) [1, 2] [0, 3, 4] (by decide) rfl rfl
    refine tf rfl rfl (fun a hf => e_call hf rfl call73 rfl (pimpl_wordReader__fn_ok _ aZ (⟨aB.1, aB.2.1⟩ : wordReader) aF aG hm1 (GT.mono hle hG0) (GT.mono hle hG2) _ aY)) ?_
    rintro ap w ⟨aK, aL, aH, rfl, hB⟩
    replace hm := a7 _ _ hB; clear hB
    refine tAk hm [4, 5, 6] rfl fun hS => tO (tf rfl rfl (fun a hf => e_build (vs := #[(0, (.agg #[(.string ⟨(aA.1.name).b.toArray⟩), aK, aL]))]) (cs := [(.string ⟨(aA.1.name).b.toArray⟩), aK, aL]) et_44 hf hm rfl rfl (by kernel_rfl) rfl rfl) ?_)
    rintro _ w ⟨aO, rfl, hm⟩
    replace hm := hm.els_nil (α := Fn_)
    replace hm := (mk_Fn_ aA.1.name hm 3 4 rfl).pk (L' := [els [] ([] : List Fn_), blk aO [(.string ⟨(aA.1.name).b.toArray⟩), aK, aL] 94, blk aF [aH, (.bool (aA.2.bad))] 63, ow [(.string ⟨(aA.1.name).b.toArray⟩), aK, aL] (aA.1 : Fn_), ow [aH] aA.2.list, blk aD [(.slice none 0 0)] 46, blk aE [aC] 46, ow [aC] aB.2.2]) [0, 1, 2, 3, 5, 6, 7, 8] rfl rfl
    replace hm := (hm.els_cons 0 3 (by decide) rfl rfl).pk (L' := [els [(.string ⟨(aA.1.name).b.toArray⟩), aK, aL] ([aA.1] : List Fn_), blk aO [(.string ⟨(aA.1.name).b.toArray⟩), aK, aL] 94, blk aF [aH, (.bool (aA.2.bad))] 63, ow [aH] aA.2.list, blk aD [(.slice none 0 0)] 46, blk aE [aC] 46, ow [aC] aB.2.2]) [0, 1, 2, 4, 5, 6, 7] rfl rfl
    replace hm := (hm.lit_els 1 0 (by decide) rfl rfl rfl rfl).pk (L' := [ow [(sV aO 0 1 1)] ([aA.1] : List Fn_), blk aF [aH, (.bool (aA.2.bad))] 63, ow [aH] aA.2.list, blk aD [(.slice none 0 0)] 46, blk aE [aC] 46, ow [aC] aB.2.2]) [1, 2, 3, 4, 5, 6] rfl rfl
    refine tAk hm [3, 4, 5] rfl fun hS => tO (gb fun aq a8 => ?_)
    obtain ⟨aa, ab⟩ := appM_some.1 a8
    replace hm := (hm.both 5 0 (by decide) rfl rfl).pk (L' := [blk aF [aH, (.bool (aA.2.bad))] 63, ow [aH] aA.2.list, blk aD [(.slice none 0 0)] 46, blk aE [aC] 46, both (ow [aC] aB.2.2) (ow [(sV aO 0 1 1)] ([aA.1] : List Fn_))]) [1, 2, 3, 4, 5] rfl rfl
    refine tf rfl rfl (fun a hf => e_appendD (xs := aB.2.2) (ys := ([aA.1] : List Fn_)) 4 et_44 hf hm rfl rfl rfl rfl aa) ?_
    rintro ac w hm
    rw [ab] at hm
    refine tAn rfl (tP rfl (fun w => yF fo_46_0 rfl) (tO (tf0 rfl rfl (fun a hf => e_store1 3 hf hm rfl sizeOf44 rfl rfl rfl (rep_one (hm.ow_rep 4 rfl)) rfl) ?_)))
    rintro _ w hm
    exact tAn rfl (tE (gZe fun a hf => ⟨aH, ac, hf.sb rfl, hm.pk [2, 0, 1, 3, 4] rfl rfl⟩))
   exact gcf rfl (gXt (gHh (gLp aV aU (gZ fun a hf => ⟨aG, aC, hf.sb rfl, hm.pk [0, 1, 2, 3, 4] rfl rfl⟩))))
  repeat clear hm
  rintro aI a w ⟨aT, aJ, hf, hm⟩
  refine gv hf (gS (gS (gJ hm (fun aP => [(2, (pV aD)), (7, (pV aE)), (46, (.bool (aP)))]) (fun aP => [blk aD [(.slice none 0 0)] 46, blk aE [aJ] 46, ow [aJ] aI.2.2]) (fun aP => ?_) ?_)))
  ·
   refine gR (gM rfl (gY (yG rfl (y_nilptr rfl rfl)) (gF fo_63_1 rfl (gL hm 1 isAgg4 rfl (gM rfl (gs 42 rfl (fun ae => ?_) fun ae => ?_))))))
   ·
    exact gO rfl (gO rfl (gO rfl (gKt rfl (gE (gz hm [0, 3, 4] rfl)))))
   exact gY (yn (hm.blk_at 3 rfl) isAgg46 sizeOf46 rfl) (gC hm rfl call39 (impl_ProgramValid_ok _ (⟨aI.2.2⟩ : Program_) aJ (hm.ow_rep 4 rfl) (hm.now hG0) (hm.now hG1)) fun ar au w hm => gN rfl (gKf rfl (gE (gz hm [0, 3, 4] rfl))))
  repeat clear hm
  intro aP w hm
  refine gs 46 rfl (fun af => ?_) fun af => ?_
  ·
   refine gct rfl (gS (gR (gY (yG rfl (y_build (vs := []) (cs := #[(.slice none 0 0)]) rfl rfl (by kernel_rfl))) (gSN hm 0 sizeOf46 (one_cons rfl one_nil) rfl fun w hm => gA rfl (gE (gRt ?_))))))
   replace hm := hm.nilow (α := Fn_)
   exact grct 1 results31 hm rfl isAgg46 sizeOf46 ⟨(.slice none 0 0), rfl, hm.pk [0] rfl rfl⟩
  exact gcf rfl (gSk (gS (gR (gY (yn (hm.blk_at 1 rfl) isAgg46 sizeOf46 rfl) (gSN hm 0 sizeOf46 (one_cons (rep_one (hm.ow_rep 2 rfl)) one_nil) rfl fun w hm => gA rfl (gE (gRt (grct 0 results31 hm rfl isAgg46 sizeOf46 ⟨aJ, rfl, hm.pk [2] rfl rfl⟩))))))))
theorem laws_eqStringS_ok (w0 : World) (a_ : List Str) (v1 : Value) (h1 : GT.rep (hp w0) [v1] a_) (b_ : List Str) (v2 : Value) (h2 : GT.rep (hp w0) [v2] b_) :
    ConM Tryz.prog 170 [v1, v2] w0 (laws_eqStringS a_ b_) fun r v w' => v = (.bool (r)) ∧ Below w0.heap.size w0 w' := by
  unfold laws_eqStringS
  refine gcon func170 rfl fun r => ?_
  have hm := Mem.start w0
  refine gS (gR (gA rfl (gE (gS (gS (gR (gM rfl ?_)))))))
  obtain ⟨aG, aH, rfl, aQ⟩ := ro_slice h1
  refine gY (yV st_74 rfl) (gM rfl ?_)
  obtain ⟨aI, aJ, rfl, aR⟩ := ro_slice h2
  refine gY (yV st_74 rfl) (gB rfl (gE (gsd 10 rfl (fun aK => ?_) fun aK => ?_)))
  ·
   exact gct rfl (gS (gR (gA rfl (gE (gRt (gr1 results170 rfl ⟨rfl, hm.below⟩))))))
  refine gcf rfl (gSk (gS (gS (gR (gA rfl (gE (gBk (gNf hm (fun aA aD => [(0, (.slice aG a_.length aH)), (1, (.slice aI b_.length aJ)), (5, (nV aA))]) (fun aA aD => []) [] rfl ?_ ?_))))))))
  ·
   repeat clear hm
   intro aT aL aA aD w hm aU aV aW aM
   refine gS (gS (gR (gM rfl (gM rfl (gY (yV st_74 rfl) (gB rfl (gE (go _ 14 rfl (decide_eq_true (by omega)) (gct rfl (gSk (gS (gBk (gS (gW (.p 0 (.p 1 (.p 2 (.p 4 (.p 5 (.p 6 (.q 3 (.e 7 (.p 8 .fin) .nil)))))))) [7] [0, 1, 2, 4, 5, 6, 8] hm [] [] rfl mxo (by kernel_rfl) (fun _ _ _ h => h.2) fun w hm hS => tP rfl (fun w => yM rfl) (tP rfl (fun w => yM rfl) (gg fun aE aN aB => ?_))))))))))))))))
   obtain ⟨aX, aY, aZ, he⟩ := idx_form h1 aB
   obtain ⟨rfl, _, rfl⟩ := sl3 he
   refine tP rfl (fun w => yI st_74 aN (idx_lt aB) rfl) (tP rfl (fun w => yM rfl) (tP rfl (fun w => yM rfl) (gg fun aF aO aC => ?_)))
   obtain ⟨a7, a8, aa, he⟩ := idx_form h2 aC
   obtain ⟨rfl, _, rfl⟩ := sl3 he
   refine tP rfl (fun w => yI st_74 aO (idx_lt aC) rfl) (tQ rfl hS (fun w hm => yl isAgg9 ((flat_cells (cs := [(.string ⟨(aE).b.toArray⟩)]) (hm.now h1) aB rfl).cell (j := 0) rfl) rfl) (tO (tY rfl (yl isAgg9 ((flat_cells (cs := [(.string ⟨(aF).b.toArray⟩)]) (hm.now h2) aC rfl).cell (j := 0) rfl) rfl) (tAs hS (tP rfl (fun w => yG rfl (y_neqs (p := aE) (q := aF) rfl rfl rfl)) (tE (gsd 25 rfl (fun aP => ?_) fun aP => ?_)))))))
   ·
    exact gct rfl (gS (gR (gA rfl (gE (gRt (gLr aM aL (gr1 results170 rfl ⟨rfl, hm.below⟩)))))))
   exact gcf rfl (gSk (gR (gM rfl (gP (by omega) (by omega) rfl (gA rfl (gE (gze hm [] rfl)))))))
  repeat clear hm
  intro ab ac w hm ae af
  exact gS (gS (gR (gM rfl (gM rfl (gY (yV st_74 rfl) (gB rfl (gE (go _ 14 rfl (decide_eq_false (by omega)) (gcf rfl (gXt (gHh (gS (gR (gA rfl (gE (gRt (gr1 results170 rfl ⟨rfl, hm.below⟩)))))))))))))))))
theorem laws_eqExprS_all  : (∀ (a_ : List Expr_) (b_ : List Expr_) (r : Bool), laws_eqExprS a_ b_ = some r → ∀ (w0 : World) (v1 : Value) (h1 : GT.rep (hp w0) [v1] a_) (v2 : Value) (h2 : GT.rep (hp w0) [v2] b_), Con Tryz.prog 47 [v1, v2] w0 (fun v w' => v = (.bool (r)) ∧ Below w0.heap.size w0 w')) ∧
    (∀ (a_ : Expr_) (b_ : Expr_) (r : Bool), laws_eqExpr a_ b_ = some r → ∀ (w0 : World) (v1 : Value) (h1 : GT.rep (hp w0) [v1] a_.kids) (v2 : Value) (h2 : GT.rep (hp w0) [v2] b_.kids), Con Tryz.prog 15 [(.agg #[(nV a_.op), (nV a_.n_), (.string ⟨(a_.name).b.toArray⟩), v1]), (.agg #[(nV b_.op), (nV b_.n_), (.string ⟨(b_.name).b.toArray⟩), v2])] w0 (fun v w' => v = (.bool (r)) ∧ Below w0.heap.size w0 w')) := by
  refine laws_eqExprS.mutual_partial_correctness  (motive_1 := fun a_ b_ r => ∀ (w0 : World) (v1 : Value) (h1 : GT.rep (hp w0) [v1] a_) (v2 : Value) (h2 : GT.rep (hp w0) [v2] b_), Con Tryz.prog 47 [v1, v2] w0 (fun v w' => v = (.bool (r)) ∧ Below w0.heap.size w0 w')) (motive_2 := fun a_ b_ r => ∀ (w0 : World) (v1 : Value) (h1 : GT.rep (hp w0) [v1] a_.kids) (v2 : Value) (h2 : GT.rep (hp w0) [v2] b_.kids), Con Tryz.prog 15 [(.agg #[(nV a_.op), (nV a_.n_), (.string ⟨(a_.name).b.toArray⟩), v1]), (.agg #[(nV b_.op), (nV b_.n_), (.string ⟨(b_.name).b.toArray⟩), v2])] w0 (fun v w' => v = (.bool (r)) ∧ Below w0.heap.size w0 w')) ?_ ?_
  · intro rec_ ih_ a_ b_ r hq w0 v1 h1 v2 h2
    have laws_eqExpr_rec : ∀ (w0 : World) (a_ : Expr_) (v1 : Value) (h1 : GT.rep (hp w0) [v1] a_.kids) (b_ : Expr_) (v2 : Value) (h2 : GT.rep (hp w0) [v2] b_.kids) (r : Bool) (hq : rec_ a_ b_ = some r), Con Tryz.prog 15 [(.agg #[(nV a_.op), (nV a_.n_), (.string ⟨(a_.name).b.toArray⟩), v1]), (.agg #[(nV b_.op), (nV b_.n_), (.string ⟨(b_.name).b.toArray⟩), v2])] w0 (fun v w' => v = (.bool (r)) ∧ Below w0.heap.size w0 w') := fun w0 a_ v1 h1 b_ v2 h2 r hq => ih_ a_ b_ r hq w0 v1 h1 v2 h2
    refine gconr (ρ := Bool) (R := fun r v w' => v = (.bool (r)) ∧ Below w0.heap.size w0 w') func47 rfl hq ?_
    have hm := Mem.start w0
    refine gS (gR (gA rfl (gE (gS (gS (gR (gM rfl ?_)))))))
    obtain ⟨aF, aG, rfl, aa⟩ := ro_slice h1
    refine gY (yV st_22 rfl) (gM rfl ?_)
    obtain ⟨aH, aI, rfl, ab⟩ := ro_slice h2
    refine gY (yV st_22 rfl) (gB rfl (gE (gsd 10 rfl (fun aA => ?_) fun aA => ?_)))
    ·
     exact gct rfl (gS (gR (gA rfl (gE (gRt (gr1 results47 rfl ⟨rfl, hm.below⟩))))))
    refine gcf rfl (gSk (gS (gS (gR (gA rfl (gE (gBk (gNf hm (fun aB aE => [(0, (.slice aF a_.length aG)), (1, (.slice aH b_.length aI)), (5, (nV aB))]) (fun aB aE => []) [] rfl ?_ ?_))))))))
    ·
     repeat clear hm
     intro aJ aK aB aE w hm ac ae af aL
     refine gS (gS (gR (gM rfl (gM rfl (gY (yV st_22 rfl) (gB rfl (gE (go _ 14 rfl (decide_eq_true (by omega)) (gct rfl (gSk (gS (gBk (gS (gW (.p 0 (.p 1 (.p 2 (.p 4 (.p 5 (.p 6 (.q 3 (.e 7 (.e 8 (.p 9 .fin) .nil) .nil)))))))) [7] [0, 1, 2, 4, 5, 6, 9] hm [] [] rfl mxo (by kernel_rfl) (fun _ _ _ h => h.2) fun w hm hS => tP rfl (fun w => yM rfl) (tP rfl (fun w => yM rfl) (gg fun aM aN aC => ?_))))))))))))))))
     obtain ⟨ag, ah, ai, he⟩ := idx_form' h1 aC
     obtain ⟨rfl, _, rfl⟩ := sl3 he
     obtain ⟨aO, aP, aQ⟩ := rk_Expr_ h1 aC
     refine tP rfl (fun w => yI st_22 aN (idx_lt aC) rfl) (tP rfl (fun w => yM rfl) (tP rfl (fun w => yM rfl) (gg fun aR aT aD => ?_)))
     obtain ⟨aj, ak, al, he⟩ := idx_form' h2 aD
     obtain ⟨rfl, _, rfl⟩ := sl3 he
     obtain ⟨aU, aV, aW⟩ := rk_Expr_ h2 aD
     refine tP rfl (fun w => yI st_22 aT (idx_lt aD) rfl) (tQ rfl hS (fun w hm => yn (aP.mono hm.lez) isAgg24 sizeOf24 rfl) (tO (tY rfl (yn (aV.mono hm.lez) isAgg24 sizeOf24 rfl) (tAs hS (tO (gb fun am aX => tf rfl rfl (fun a hf => e_call hf rfl call15 rfl (laws_eqExpr_rec _ aM aO (hm.now aQ) aR aU (hm.now aW) _ aX)) ?_))))))
     rintro an w ⟨rfl, hB⟩
     replace hm := hm.below' hB; clear hB
     refine tAn rfl (tP rfl (fun w => yN rfl) (tE (gsn 26 rfl (fun aY => ?_) fun aY => ?_)))
     ·
      exact gct rfl (gS (gR (gA rfl (gE (gRt (gLr aL aK (gr1 results47 rfl ⟨rfl, hm.below⟩)))))))
     exact gcf rfl (gSk (gR (gM rfl (gP (by omega) (by omega) rfl (gA rfl (gE (gze hm [] rfl)))))))
    repeat clear hm
    intro ao ap w hm aq ar
    exact gS (gS (gR (gM rfl (gM rfl (gY (yV st_22 rfl) (gB rfl (gE (go _ 14 rfl (decide_eq_false (by omega)) (gcf rfl (gXt (gHh (gS (gR (gA rfl (gE (gRt (gr1 results47 rfl ⟨rfl, hm.below⟩)))))))))))))))))
  · intro rec_ ih_ a_ b_ r hq w0 v1 h1 v2 h2
    have laws_eqExprS_rec : ∀ (w0 : World) (a_ : List Expr_) (v1 : Value) (h1 : GT.rep (hp w0) [v1] a_) (b_ : List Expr_) (v2 : Value) (h2 : GT.rep (hp w0) [v2] b_) (r : Bool) (hq : rec_ a_ b_ = some r), Con Tryz.prog 47 [v1, v2] w0 (fun v w' => v = (.bool (r)) ∧ Below w0.heap.size w0 w') := fun w0 a_ v1 h1 b_ v2 h2 r hq => ih_ a_ b_ r hq w0 v1 h1 v2 h2
    refine gconr (ρ := Bool) (R := fun r v w' => v = (.bool (r)) ∧ Below w0.heap.size w0 w') func15 rfl hq ?_
    have hm := Mem.start w0
    refine gS (gR (gBx hm rfl fun au w hm => gBx hm rfl fun av w hm => gA rfl (gE (gS (gS (gR (gF fo_24_0 rfl (gL hm 1 isAgg3 rfl (gF fo_24_0 rfl (gL hm 0 isAgg3 rfl (gB rfl (gE (gsd 9 rfl (fun aA => ?_) fun aA => ?_)))))))))))))
    ·
     exact gct rfl (gS (gR (gA rfl (gE (gRt (gr1 results15 rfl ⟨rfl, hm.below⟩))))))
    refine gcf rfl (gSk (gS (gS (gR (gF fo_24_1 rfl (gL hm 1 isAgg3 rfl (gF fo_24_1 rfl (gL hm 0 isAgg3 rfl (gB rfl (gE (gsd 14 rfl (fun aZ => ?_) fun aZ => ?_)))))))))))
    ·
     exact gct rfl (gS (gR (gA rfl (gE (gRt (gr1 results15 rfl ⟨rfl, hm.below⟩))))))
    refine gcf rfl (gSk (gS (gS (gR (gF fo_24_2 rfl (gL hm 1 isAgg9 rfl (gF fo_24_2 rfl (gL hm 0 isAgg9 rfl (gY (yG rfl (y_neqs (p := a_.name) (q := b_.name) rfl rfl rfl)) (gE (gsd 19 rfl (fun a7 => ?_) fun a7 => ?_)))))))))))
    ·
     exact gct rfl (gS (gR (gA rfl (gE (gRt (gr1 results15 rfl ⟨rfl, hm.below⟩))))))
    refine gcf rfl (gSk (gS (gS (gR (gF fo_24_3 rfl (gL hm 1 isAgg22 rfl (gF fo_24_3 rfl (gL hm 0 isAgg22 rfl (gC hm rfl call47 (laws_eqExprS_rec _ a_.kids v1 (hm.now h1) b_.kids v2 (hm.now h2)) fun aJ aw w hm => gN rfl (gE (gsn 25 rfl (fun a8 => ?_) fun a8 => ?_)))))))))))
    ·
     exact gct rfl (gS (gR (gA rfl (gE (gRt (gr1 results15 rfl ⟨rfl, hm.below⟩))))))
    exact gcf rfl (gSk (gS (gR (gA rfl (gE (gRt (gr1 results15 rfl ⟨rfl, hm.below⟩)))))))
theorem laws_eqExprS_ok (w0 : World) (a_ : List Expr_) (v1 : Value) (h1 : GT.rep (hp w0) [v1] a_) (b_ : List Expr_) (v2 : Value) (h2 : GT.rep (hp w0) [v2] b_) (r : Bool) (hq : laws_eqExprS a_ b_ = some r) : Con Tryz.prog 47 [v1, v2] w0 (fun v w' => v = (.bool (r)) ∧ Below w0.heap.size w0 w') := (laws_eqExprS_all ).1 a_ b_ r hq w0 v1 h1 v2 h2
theorem laws_eqStmtS_all  : (∀ (a_ : List Stmt_) (b_ : List Stmt_) (r : Bool), laws_eqStmtS a_ b_ = some r → ∀ (w0 : World) (v1 : Value) (h1 : GT.rep (hp w0) [v1] a_) (v2 : Value) (h2 : GT.rep (hp w0) [v2] b_), Con Tryz.prog 171 [v1, v2] w0 (fun v w' => v = (.bool (r)) ∧ Below w0.heap.size w0 w')) ∧
    (∀ (a_ : Stmt_) (b_ : Stmt_) (r : Bool), laws_eqStmt a_ b_ = some r → ∀ (w0 : World) (v1 : Value) (h1 : GT.rep (hp w0) [v1] a_.args) (v2 : Value) (h2 : GT.rep (hp w0) [v2] a_.body) (v3 : Value) (h3 : GT.rep (hp w0) [v3] a_.else_) (v4 : Value) (h4 : GT.rep (hp w0) [v4] b_.args) (v5 : Value) (h5 : GT.rep (hp w0) [v5] b_.body) (v6 : Value) (h6 : GT.rep (hp w0) [v6] b_.else_), Con Tryz.prog 188 [(.agg #[(nV a_.op), (.string ⟨(a_.name).b.toArray⟩), v1, v2, v3]), (.agg #[(nV b_.op), (.string ⟨(b_.name).b.toArray⟩), v4, v5, v6])] w0 (fun v w' => v = (.bool (r)) ∧ Below w0.heap.size w0 w')) := by
  refine laws_eqStmtS.mutual_partial_correctness  (motive_1 := fun a_ b_ r => ∀ (w0 : World) (v1 : Value) (h1 : GT.rep (hp w0) [v1] a_) (v2 : Value) (h2 : GT.rep (hp w0) [v2] b_), Con Tryz.prog 171 [v1, v2] w0 (fun v w' => v = (.bool (r)) ∧ Below w0.heap.size w0 w')) (motive_2 := fun a_ b_ r => ∀ (w0 : World) (v1 : Value) (h1 : GT.rep (hp w0) [v1] a_.args) (v2 : Value) (h2 : GT.rep (hp w0) [v2] a_.body) (v3 : Value) (h3 : GT.rep (hp w0) [v3] a_.else_) (v4 : Value) (h4 : GT.rep (hp w0) [v4] b_.args) (v5 : Value) (h5 : GT.rep (hp w0) [v5] b_.body) (v6 : Value) (h6 : GT.rep (hp w0) [v6] b_.else_), Con Tryz.prog 188 [(.agg #[(nV a_.op), (.string ⟨(a_.name).b.toArray⟩), v1, v2, v3]), (.agg #[(nV b_.op), (.string ⟨(b_.name).b.toArray⟩), v4, v5, v6])] w0 (fun v w' => v = (.bool (r)) ∧ Below w0.heap.size w0 w')) ?_ ?_
  · intro rec_ ih_ a_ b_ r hq w0 v1 h1 v2 h2
    have laws_eqStmt_rec : ∀ (w0 : World) (a_ : Stmt_) (v1 : Value) (h1 : GT.rep (hp w0) [v1] a_.args) (v2 : Value) (h2 : GT.rep (hp w0) [v2] a_.body) (v3 : Value) (h3 : GT.rep (hp w0) [v3] a_.else_) (b_ : Stmt_) (v4 : Value) (h4 : GT.rep (hp w0) [v4] b_.args) (v5 : Value) (h5 : GT.rep (hp w0) [v5] b_.body) (v6 : Value) (h6 : GT.rep (hp w0) [v6] b_.else_) (r : Bool) (hq : rec_ a_ b_ = some r), Con Tryz.prog 188 [(.agg #[(nV a_.op), (.string ⟨(a_.name).b.toArray⟩), v1, v2, v3]), (.agg #[(nV b_.op), (.string ⟨(b_.name).b.toArray⟩), v4, v5, v6])] w0 (fun v w' => v = (.bool (r)) ∧ Below w0.heap.size w0 w') := fun w0 a_ v1 h1 v2 h2 v3 h3 b_ v4 h4 v5 h5 v6 h6 r hq => ih_ a_ b_ r hq w0 v1 h1 v2 h2 v3 h3 v4 h4 v5 h5 v6 h6
    refine gconr (ρ := Bool) (R := fun r v w' => v = (.bool (r)) ∧ Below w0.heap.size w0 w') func171 rfl hq ?_
    have hm := Mem.start w0
    refine gS (gR (gA rfl (gE (gS (gS (gR (gM rfl ?_)))))))
    obtain ⟨aF, aG, rfl, ak⟩ := ro_slice h1
    refine gY (yV st_92 rfl) (gM rfl ?_)
    obtain ⟨aH, aI, rfl, al⟩ := ro_slice h2
    refine gY (yV st_92 rfl) (gB rfl (gE (gsd 10 rfl (fun aA => ?_) fun aA => ?_)))
    ·
     exact gct rfl (gS (gR (gA rfl (gE (gRt (gr1 results171 rfl ⟨rfl, hm.below⟩))))))
    refine gcf rfl (gSk (gS (gS (gR (gA rfl (gE (gBk (gNf hm (fun aB aE => [(0, (.slice aF a_.length aG)), (1, (.slice aH b_.length aI)), (5, (nV aB))]) (fun aB aE => []) [] rfl ?_ ?_))))))))
    ·
     repeat clear hm
     intro aJ aK aB aE w hm am an ao aL
     refine gS (gS (gR (gM rfl (gM rfl (gY (yV st_92 rfl) (gB rfl (gE (go _ 14 rfl (decide_eq_true (by omega)) (gct rfl (gSk (gS (gBk (gS (gW (.p 0 (.p 1 (.p 2 (.p 4 (.p 5 (.p 6 (.q 3 (.e 7 (.e 8 (.p 9 .fin) .nil) .nil)))))))) [7] [0, 1, 2, 4, 5, 6, 9] hm [] [] rfl mxo (by kernel_rfl) (fun _ _ _ h => h.2) fun w hm hS => tP rfl (fun w => yM rfl) (tP rfl (fun w => yM rfl) (gg fun aM aN aC => ?_))))))))))))))))
     obtain ⟨ap, aq, ar, he⟩ := idx_form' h1 aC
     obtain ⟨rfl, _, rfl⟩ := sl3 he
     obtain ⟨aO, aP, aQ, aR, aT, aU, aV⟩ := rk_Stmt_ h1 aC
     refine tP rfl (fun w => yI st_92 aN (idx_lt aC) rfl) (tP rfl (fun w => yM rfl) (tP rfl (fun w => yM rfl) (gg fun aW aX aD => ?_)))
     obtain ⟨au, av, aw, he⟩ := idx_form' h2 aD
     obtain ⟨rfl, _, rfl⟩ := sl3 he
     obtain ⟨aY, aZ, a7, a8, aa, ab, ac⟩ := rk_Stmt_ h2 aD
     refine tP rfl (fun w => yI st_92 aX (idx_lt aD) rfl) (tQ rfl hS (fun w hm => yn (aR.mono hm.lez) isAgg105 sizeOf105 rfl) (tO (tY rfl (yn (a8.mono hm.lez) isAgg105 sizeOf105 rfl) (tAs hS (tO (gb fun ax ae => tf rfl rfl (fun a hf => e_call hf rfl call188 rfl (laws_eqStmt_rec _ aM aO (hm.now aT) aP (hm.now aU) aQ (hm.now aV) aW aY (hm.now aa) aZ (hm.now ab) a7 (hm.now ac) _ ae)) ?_))))))
     rintro ay w ⟨rfl, hB⟩
     replace hm := hm.below' hB; clear hB
     refine tAn rfl (tP rfl (fun w => yN rfl) (tE (gsn 26 rfl (fun af => ?_) fun af => ?_)))
     ·
      exact gct rfl (gS (gR (gA rfl (gE (gRt (gLr aL aK (gr1 results171 rfl ⟨rfl, hm.below⟩)))))))
     exact gcf rfl (gSk (gR (gM rfl (gP (by omega) (by omega) rfl (gA rfl (gE (gze hm [] rfl)))))))
    repeat clear hm
    intro az bA w hm bB bC
    exact gS (gS (gR (gM rfl (gM rfl (gY (yV st_92 rfl) (gB rfl (gE (go _ 14 rfl (decide_eq_false (by omega)) (gcf rfl (gXt (gHh (gS (gR (gA rfl (gE (gRt (gr1 results171 rfl ⟨rfl, hm.below⟩)))))))))))))))))
  · intro rec_ ih_ a_ b_ r hq w0 v1 h1 v2 h2 v3 h3 v4 h4 v5 h5 v6 h6
    have laws_eqStmtS_rec : ∀ (w0 : World) (a_ : List Stmt_) (v1 : Value) (h1 : GT.rep (hp w0) [v1] a_) (b_ : List Stmt_) (v2 : Value) (h2 : GT.rep (hp w0) [v2] b_) (r : Bool) (hq : rec_ a_ b_ = some r), Con Tryz.prog 171 [v1, v2] w0 (fun v w' => v = (.bool (r)) ∧ Below w0.heap.size w0 w') := fun w0 a_ v1 h1 b_ v2 h2 r hq => ih_ a_ b_ r hq w0 v1 h1 v2 h2
    refine gconr (ρ := Bool) (R := fun r v w' => v = (.bool (r)) ∧ Below w0.heap.size w0 w') func188 rfl hq ?_
    have hm := Mem.start w0
    refine gS (gR (gBx hm rfl fun bD w hm => gBx hm rfl fun bE w hm => gA rfl (gE (gS (gS (gR (gF fo_105_0 rfl (gL hm 1 isAgg3 rfl (gF fo_105_0 rfl (gL hm 0 isAgg3 rfl (gB rfl (gE (gsd 9 rfl (fun aA => ?_) fun aA => ?_)))))))))))))
    ·
     exact gct rfl (gS (gR (gA rfl (gE (gRt (gr1 results188 rfl ⟨rfl, hm.below⟩))))))
    refine gcf rfl (gSk (gS (gS (gR (gF fo_105_1 rfl (gL hm 1 isAgg9 rfl (gF fo_105_1 rfl (gL hm 0 isAgg9 rfl (gY (yG rfl (y_neqs (p := a_.name) (q := b_.name) rfl rfl rfl)) (gE (gsd 14 rfl (fun ag => ?_) fun ag => ?_)))))))))))
    ·
     exact gct rfl (gS (gR (gA rfl (gE (gRt (gr1 results188 rfl ⟨rfl, hm.below⟩))))))
    refine gcf rfl (gSk (gS (gS (gR (gF fo_105_2 rfl (gL hm 1 isAgg22 rfl (gF fo_105_2 rfl (gL hm 0 isAgg22 rfl (gC hm rfl call47 (laws_eqExprS_ok _ a_.args v1 (hm.now h1) b_.args v4 (hm.now h4)) fun aJ bF w hm => gN rfl (gE (gsn 20 rfl (fun ah => ?_) fun ah => ?_)))))))))))
    ·
     exact gct rfl (gS (gR (gA rfl (gE (gRt (gr1 results188 rfl ⟨rfl, hm.below⟩))))))
    refine gcf rfl (gSk (gS (gS (gR (gF fo_105_3 rfl (gL hm 1 isAgg92 rfl (gF fo_105_3 rfl (gL hm 0 isAgg92 rfl (gC hm rfl call171 (laws_eqStmtS_rec _ a_.body v2 (hm.now h2) b_.body v5 (hm.now h5)) fun bG bH w hm => gN rfl (gE (gsn 26 rfl (fun ai => ?_) fun ai => ?_)))))))))))
    ·
     exact gct rfl (gS (gR (gA rfl (gE (gRt (gr1 results188 rfl ⟨rfl, hm.below⟩))))))
    refine gcf rfl (gSk (gS (gS (gR (gF fo_105_4 rfl (gL hm 1 isAgg92 rfl (gF fo_105_4 rfl (gL hm 0 isAgg92 rfl (gC hm rfl call171 (laws_eqStmtS_rec _ a_.else_ v3 (hm.now h3) b_.else_ v6 (hm.now h6)) fun bJ bK w hm => gN rfl (gE (gsn 32 rfl (fun aj => ?_) fun aj => ?_)))))))))))
    ·
     exact gct rfl (gS (gR (gA rfl (gE (gRt (gr1 results188 rfl ⟨rfl, hm.below⟩))))))
    exact gcf rfl (gSk (gS (gR (gA rfl (gE (gRt (gr1 results188 rfl ⟨rfl, hm.below⟩)))))))
theorem laws_eqStmtS_ok (w0 : World) (a_ : List Stmt_) (v1 : Value) (h1 : GT.rep (hp w0) [v1] a_) (b_ : List Stmt_) (v2 : Value) (h2 : GT.rep (hp w0) [v2] b_) (r : Bool) (hq : laws_eqStmtS a_ b_ = some r) : Con Tryz.prog 171 [v1, v2] w0 (fun v w' => v = (.bool (r)) ∧ Below w0.heap.size w0 w') := (laws_eqStmtS_all ).1 a_ b_ r hq w0 v1 h1 v2 h2
theorem laws_eqFn_ok (w0 : World) (a_ : Fn_) (v1 : Value) (h1 : GT.rep (hp w0) [v1] a_.params) (v2 : Value) (h2 : GT.rep (hp w0) [v2] a_.body) (b_ : Fn_) (v3 : Value) (h3 : GT.rep (hp w0) [v3] b_.params) (v4 : Value) (h4 : GT.rep (hp w0) [v4] b_.body) :
    ConM Tryz.prog 133 [(.agg #[(.string ⟨(a_.name).b.toArray⟩), v1, v2]), (.agg #[(.string ⟨(b_.name).b.toArray⟩), v3, v4])] w0 (laws_eqFn a_ b_) fun r v w' => v = (.bool (r)) ∧ Below w0.heap.size w0 w' := by
  unfold laws_eqFn
  refine gcon func133 rfl fun r => ?_
  have hm := Mem.start w0
  refine gS (gR (gBx hm rfl fun aD w hm => gBx hm rfl fun aE w hm => gA rfl (gE (gS (gS (gR (gF fo_94_0 rfl (gL hm 1 isAgg9 rfl (gF fo_94_0 rfl (gL hm 0 isAgg9 rfl (gY (yG rfl (y_neqs (p := a_.name) (q := b_.name) rfl rfl rfl)) (gE (gsd 9 rfl (fun aA => ?_) fun aA => ?_)))))))))))))
  ·
   exact gct rfl (gS (gR (gA rfl (gE (gRt (gr1 results133 rfl ⟨rfl, hm.below⟩))))))
  refine gcf rfl (gSk (gS (gS (gR (gF fo_94_1 rfl (gL hm 1 isAgg74 rfl (gF fo_94_1 rfl (gL hm 0 isAgg74 rfl (gC hm rfl call170 (laws_eqStringS_ok _ a_.params v1 (hm.now h1) b_.params v3 (hm.now h3)) fun aF aG w hm => gN rfl (gE (gsn 15 rfl (fun aB => ?_) fun aB => ?_)))))))))))
  ·
   exact gct rfl (gS (gR (gA rfl (gE (gRt (gr1 results133 rfl ⟨rfl, hm.below⟩))))))
  refine gcf rfl (gSk (gS (gS (gR (gF fo_94_2 rfl (gL hm 1 isAgg92 rfl (gF fo_94_2 rfl (gL hm 0 isAgg92 rfl (gC hm rfl call171 (laws_eqStmtS_ok _ a_.body v2 (hm.now h2) b_.body v4 (hm.now h4)) fun aH aI w hm => gN rfl (gE (gsn 21 rfl (fun aC => ?_) fun aC => ?_)))))))))))
  ·
   exact gct rfl (gS (gR (gA rfl (gE (gRt (gr1 results133 rfl ⟨rfl, hm.below⟩))))))
  exact gcf rfl (gSk (gS (gR (gA rfl (gE (gRt (gr1 results133 rfl ⟨rfl, hm.below⟩)))))))
theorem laws_eqFnS_ok (w0 : World) (a_ : List Fn_) (v1 : Value) (h1 : GT.rep (hp w0) [v1] a_) (b_ : List Fn_) (v2 : Value) (h2 : GT.rep (hp w0) [v2] b_) :
    ConM Tryz.prog 74 [v1, v2] w0 (laws_eqFnS a_ b_) fun r v w' => v = (.bool (r)) ∧ Below w0.heap.size w0 w' := by
  unfold laws_eqFnS
  refine gcon func74 rfl fun r => ?_
  have hm := Mem.start w0
  refine gS (gR (gA rfl (gE (gS (gS (gR (gM rfl ?_)))))))
  obtain ⟨aE, aF, rfl, aa⟩ := ro_slice h1
  refine gY (yV st_44 rfl) (gM rfl ?_)
  obtain ⟨aG, aH, rfl, ab⟩ := ro_slice h2
  refine gY (yV st_44 rfl) (gB rfl (gE (gsd 10 rfl (fun aI => ?_) fun aI => ?_)))
  ·
   exact gct rfl (gS (gR (gA rfl (gE (gRt (gr1 results74 rfl ⟨rfl, hm.below⟩))))))
  refine gcf rfl (gSk (gS (gS (gR (gA rfl (gE (gBk (gNf hm (fun aA aD => [(0, (.slice aE a_.length aF)), (1, (.slice aG b_.length aH)), (5, (nV aA))]) (fun aA aD => []) [] rfl ?_ ?_))))))))
  ·
   repeat clear hm
   intro ac aJ aA aD w hm ae af ag aK
   refine gS (gS (gR (gM rfl (gM rfl (gY (yV st_44 rfl) (gB rfl (gE (go _ 14 rfl (decide_eq_true (by omega)) (gct rfl (gSk (gS (gBk (gS (gW (.p 0 (.p 1 (.p 2 (.p 4 (.p 5 (.p 6 (.q 3 (.e 7 (.e 8 (.p 9 .fin) .nil) .nil)))))))) [7] [0, 1, 2, 4, 5, 6, 9] hm [] [] rfl mxo (by kernel_rfl) (fun _ _ _ h => h.2) fun w hm hS => tP rfl (fun w => yM rfl) (tP rfl (fun w => yM rfl) (gg fun aL aM aB => ?_))))))))))))))))
   obtain ⟨ah, ai, aj, he⟩ := idx_form' h1 aB
   obtain ⟨rfl, _, rfl⟩ := sl3 he
   obtain ⟨aN, aO, aP, aQ, aR⟩ := rk_Fn_ h1 aB
   refine tP rfl (fun w => yI st_44 aM (idx_lt aB) rfl) (tP rfl (fun w => yM rfl) (tP rfl (fun w => yM rfl) (gg fun aT aU aC => ?_)))
   obtain ⟨ak, al, am, he⟩ := idx_form' h2 aC
   obtain ⟨rfl, _, rfl⟩ := sl3 he
   obtain ⟨aV, aW, aX, aY, aZ⟩ := rk_Fn_ h2 aC
   refine tP rfl (fun w => yI st_44 aU (idx_lt aC) rfl) (tQ rfl hS (fun w hm => yn (aP.mono hm.lez) isAgg94 sizeOf94 rfl) (tO (tY rfl (yn (aX.mono hm.lez) isAgg94 sizeOf94 rfl) (tAs hS (tO (gb fun an a7 => tf rfl rfl (fun a hf => e_call hf rfl call133 rfl (laws_eqFn_ok _ aL aN (hm.now aQ) aO (hm.now aR) aT aV (hm.now aY) aW (hm.now aZ) _ a7)) ?_))))))
   rintro ao w ⟨rfl, hB⟩
   replace hm := hm.below' hB; clear hB
   refine tAn rfl (tP rfl (fun w => yN rfl) (tE (gsn 26 rfl (fun a8 => ?_) fun a8 => ?_)))
   ·
    exact gct rfl (gS (gR (gA rfl (gE (gRt (gLr aK aJ (gr1 results74 rfl ⟨rfl, hm.below⟩)))))))
   exact gcf rfl (gSk (gR (gM rfl (gP (by omega) (by omega) rfl (gA rfl (gE (gze hm [] rfl)))))))
  repeat clear hm
  intro ap aq w hm ar au
  exact gS (gS (gR (gM rfl (gM rfl (gY (yV st_44 rfl) (gB rfl (gE (go _ 14 rfl (decide_eq_false (by omega)) (gcf rfl (gXt (gHh (gS (gR (gA rfl (gE (gRt (gr1 results74 rfl ⟨rfl, hm.below⟩)))))))))))))))))
theorem laws_eqProgram_ok (w0 : World) (a_ : Program_) (v1 : Value) (h1 : GT.rep (hp w0) [v1] a_.fns) (b_ : Program_) (v2 : Value) (h2 : GT.rep (hp w0) [v2] b_.fns) :
    ConM Tryz.prog 32 [(.agg #[v1]), (.agg #[v2])] w0 (laws_eqProgram a_ b_) fun r v w' => v = (.bool (r)) ∧ Below w0.heap.size w0 w' := by
  unfold laws_eqProgram
  refine gcon func32 rfl fun r => ?_
  have hm := Mem.start w0
  refine gS (gR (gBx hm rfl fun aB w hm => gBx hm rfl fun aC w hm => gA rfl (gE (gS (gS (gR (gF fo_46_0 rfl (gL hm 1 isAgg44 rfl (gF fo_46_0 rfl (gL hm 0 isAgg44 rfl (gC hm rfl call74 (laws_eqFnS_ok _ a_.fns v1 (hm.now h1) b_.fns v2 (hm.now h2)) fun aD aE w hm => gN rfl (gE (gsn 10 rfl (fun aA => ?_) fun aA => ?_)))))))))))))
  ·
   exact gct rfl (gS (gR (gA rfl (gE (gRt (gr1 results32 rfl ⟨rfl, hm.below⟩))))))
  exact gcf rfl (gSk (gS (gR (gA rfl (gE (gRt (gr1 results32 rfl ⟨rfl, hm.below⟩)))))))
theorem laws_markText_ok (w0 : World) (k_ : Int) :
    ConM Tryz.prog 107 [(nV k_)] w0 (laws_markText k_) fun r v w' => v = (.string ⟨(r).b.toArray⟩) ∧ Below w0.heap.size w0 w' := by
  unfold laws_markText
  refine gcon func107 rfl fun r => ?_
  have hm := Mem.start w0
  refine gS (gR (gA rfl (gE (gS (gS (gR (gM rfl (gB rfl (gE (gsd 5 rfl (fun aC => ?_) fun aC => ?_))))))))))
  ·
   exact gct rfl (gS (gR (gA rfl (gE (gRt (gr1 results107 rfl ⟨rfl, hm.below⟩))))))
  refine gcf rfl (gSk (gS (gR (gA rfl (gE (gS (gJ hm (fun aB => [(3, (.string ⟨(aB).b.toArray⟩))]) (fun aB => []) (fun aB => ?_) ?_)))))))
  ·
   refine gBk (gMf hm (fun aA => [(0, (nV aA.1)), (3, (.string ⟨(aA.2).b.toArray⟩))]) (fun aA => []) [] rfl ?_)
   repeat clear hm
   intro aM aD aA w hm aN aE
   refine gS (gS (gR (gM rfl (gB rfl (gE (gsd 7 rfl (fun aF => ?_) fun aF => ?_))))))
   ·
    refine gct rfl (gSk (gBk (gS (gR (gM rfl (gY (yG rfl (y_rem rfl rfl rfl (by decide))) (gB rfl (gY (yG rfl (y_conv8 underlying3 underlying5 rfl rfl)) (gf rfl (fun a hf => e_build (vs := #[(0, (.int .u8 (((byteI (w64 (48 + (aA.1.tmod 10))))).toNat : Int)))]) (cs := [(.int .u8 (((byteI (w64 (48 + (aA.1.tmod 10))))).toNat : Int))]) et_30 hf hm rfl rfl (by kernel_rfl) rfl rfl) ?_)))))))))
    rintro _ w ⟨aO, rfl, hm⟩
    replace hm := hm.lit (xs := ([(byteI (w64 (48 + (aA.1.tmod 10))))] : List UInt8)) 0 rfl rfl rfl rfl
    refine gY (yG rfl (y_bytesStr (xs := ([(byteI (w64 (48 + (aA.1.tmod 10))))] : List UInt8)) underlying30 underlying5 underlying9 rfl rfl (hm.ow_rep 0 rfl))) (gM rfl (gb fun aG aH => ?_))
    have aI := catS_some.1 aH
    exact gY (yG rfl (y_adds (p := (strL ([(byteI (w64 (48 + (aA.1.tmod 10))))] : List UInt8))) (q := aA.2) (u := aG) rfl rfl rfl aI)) (gA rfl (gE (gR (gM rfl (gY (yG rfl (y_quo rfl rfl rfl (by decide))) (gA rfl (gE (gze hm [] rfl))))))))
   exact gcf rfl (gXt (gHh (gLp aE aD (gz hm [] rfl))))
  repeat clear hm
  intro aB w hm
  refine gS (gR (gM rfl (gb fun aJ aK => ?_)))
  have aL := catS_some.1 aK
  exact gY (yG rfl (y_adds (p := (mkS [109])) (q := aB) (u := aJ) rfl rfl rfl aL)) (gA rfl (gE (gRt (gr1 results107 rfl ⟨rfl, hm.below⟩))))
theorem laws_markStringS_ok (w0 : World) (hz : Heap) (a_ : List Str) (v1 : Value) (k_ : Int) (hm0 : Mem w0 hz w0 [ow [v1] a_]) :
    ConM Tryz.prog 134 [v1, (nV k_)] w0 (laws_markStringS a_ k_) fun r v w' => v = (nV r.1) ∧ Mem w0 hz w' [ow [v1] r.2] := by
  unfold laws_markStringS
  refine gcon func134 rfl fun r => ?_
  have hm := hm0
  refine gS (gR (gA rfl (gE (gS (gS (gR (gA rfl (gE ?_))))))))
  obtain ⟨aE, aF, rfl, aH⟩ := ro_slice (hm.ow_rep 0 rfl)
  refine gBk (gNf hm (fun aC aA => [(0, (.slice aE a_.length aF)), (1, (nV aA.2)), (5, (nV aC))]) (fun aC aA => [ow [(.slice aE a_.length aF)] aA.1]) [0] rfl ?_ ?_)
  ·
   repeat clear hm
   intro _ _ aC aA w hm aI aJ aK _
   refine gS (gS (gR (gM rfl (gM rfl ?_))))
   have aL := rep_len (hm.ow_rep 0 rfl)
   refine gY (yV st_74 rfl) (gB rfl (gE (go _ 9 rfl (decide_eq_true (by omega)) (gct rfl (gSk (gS (gBk (gS (gR (gM rfl (gM rfl (gM rfl (gC hm rfl call107 (laws_markText_ok _ aA.2) fun aD aM w hm => gg fun aN aG aB => ?_)))))))))))))
   obtain ⟨aO, aP, aQ, he⟩ := idx_form (hm.ow_rep 0 rfl) aB
   obtain ⟨rfl, _, rfl⟩ := sl3 he
   have hL1_1 := rep_slice_len (hm.ow_rep 0 rfl)
   refine gI st_74 aG (idx_lt2 aB hL1_1) rfl (gf0 rfl (fun a hf => e_setElem (x1 := aD) (j := 0) (vs := [(.string ⟨(aD).b.toArray⟩)]) 0 hf hm rfl aB rfl sizeOf9 rfl rfl rfl (one_cons rfl one_nil) rfl rfl) ?_)
   rintro _ w hm
   have aR := List.getElem?_set_self (a := aD) (idx_lt aB)
   exact gE (gR (gM rfl (gB rfl (gA rfl (gE (gR (gM rfl (gP (by omega) (by omega) rfl (gA rfl (gE (gze hm [0] rfl)))))))))))
  repeat clear hm
  intro aT aU w hm aV aW
  refine gS (gS (gR (gM rfl (gM rfl ?_))))
  have aX := rep_len (hm.ow_rep 0 rfl)
  exact gY (yV st_74 rfl) (gB rfl (gE (go _ 9 rfl (decide_eq_false (by omega)) (gcf rfl (gXt (gHh (gS (gR (gM rfl (gA rfl (gE (gRt (gr1 results134 rfl ⟨rfl, hm.pk [0] rfl rfl⟩)))))))))))))
theorem laws_markExprS_all  : ∀ (a_ : List Expr_) (k_ : Int) (r : Int × (List Expr_)), laws_markExprS a_ k_ = some r → ∀ (w0 : World) (hz : Heap) (v1 : Value) (hm0 : Mem w0 hz w0 [ow [v1] a_]), Con Tryz.prog 48 [v1, (nV k_)] w0 (fun v w' => v = (nV r.1) ∧ Mem w0 hz w' [ow [v1] r.2]) := by
  refine laws_markExprS.partial_correctness  (motive := fun a_ k_ r => ∀ (w0 : World) (hz : Heap) (v1 : Value) (hm0 : Mem w0 hz w0 [ow [v1] a_]), Con Tryz.prog 48 [v1, (nV k_)] w0 (fun v w' => v = (nV r.1) ∧ Mem w0 hz w' [ow [v1] r.2])) ?_
  intro rec_ ih_ a_ k_ r hq w0 hz v1 hm0
  have laws_markExprS_rec : ∀ (w0 : World) (hz : Heap) (a_ : List Expr_) (v1 : Value) (k_ : Int) (hm0 : Mem w0 hz w0 [ow [v1] a_]) (r : Int × (List Expr_)) (hq : rec_ a_ k_ = some r), Con Tryz.prog 48 [v1, (nV k_)] w0 (fun v w' => v = (nV r.1) ∧ Mem w0 hz w' [ow [v1] r.2]) := fun w0 hz a_ v1 k_ hm0 r hq => ih_ a_ k_ r hq w0 hz v1 hm0
  refine gconr (ρ := Int × (List Expr_)) (R := fun r v w' => v = (nV r.1) ∧ Mem w0 hz w' [ow [v1] r.2]) func48 rfl hq ?_
  have hm := hm0
  refine gS (gR (gA rfl (gE (gS (gS (gR (gA rfl (gE ?_))))))))
  obtain ⟨aZ, aI, rfl, ae⟩ := ro_slice (hm.ow_rep 0 rfl)
  refine gBk (gNf hm (fun aD aA => [(0, (.slice aZ a_.length aI)), (1, (nV aA.2)), (5, (nV aD))]) (fun aD aA => [ow [(.slice aZ a_.length aI)] aA.1]) [0] rfl ?_ ?_)
  ·
   repeat clear hm
   intro _ _ aD aA w hm af ag ah _
   refine gS (gS (gR (gM rfl (gM rfl ?_))))
   have ai := rep_len (hm.ow_rep 0 rfl)
   refine gY (yV st_22 rfl) (gB rfl (gE (go _ 9 rfl (decide_eq_true (by omega)) (gct rfl (gSk (gS (gBk (gS (gR (gM rfl (gM rfl (gM rfl (gg fun aB aL aJ => ?_)))))))))))))
   obtain ⟨aG, aH, aj, he⟩ := idx_form' (hm.ow_rep 0 rfl) aJ
   obtain ⟨rfl, _, rfl⟩ := sl3 he
   obtain ⟨a7, a8, ak⟩ := rk_Expr_ (hm.ow_rep 0 rfl) aJ
   have hL1_1 := rep_slice_len (hm.ow_rep 0 rfl)
   refine gI st_22 aL (idx_lt2 aJ hL1_1) rfl (gF fo_24_0 rfl (gf0 rfl (fun a hf => e_setElemR (x1 := ((⟨aA.2, aB.n_, aB.name, aB.kids⟩ : Expr_) : Expr_)) (j := 0) (vs := [(nV aA.2)]) 0 hf hm rfl aJ a8 rfl (fun F h ho => (fun (G : Nat → Prop) ho => own_Expr_.2 ((fun _ => own_fst_map (α := Int) (β := Int × Str × (List Expr_)) (cs := [(nV aB.op)]) (cs' := [(nV aA.2)]) (ds := [(nV aB.n_), (.string ⟨(aB.name).b.toArray⟩), a7]) rfl (fun _ _ => Flat.own_iff.2 rfl)) G (own_Expr_.1 ho))) F ho) rfl sizeOf3 rfl rfl rfl (one_cons rfl one_nil) rfl) ?_))
   rintro _ w hm
   have aM := List.getElem?_set_self (a := ((⟨aA.2, aB.n_, aB.name, aB.kids⟩ : Expr_) : Expr_)) (idx_lt aJ)
   refine gE (gS (gR (gM rfl (gB rfl (gA rfl (gE (gS (gR (gM rfl (gM rfl (gM rfl ?_)))))))))))
   obtain ⟨_, _, aP, aQ⟩ := ro_get' (hm.ow_rep 0 rfl) aM
   replace aQ := rep_Expr_.1 aQ
   obtain ⟨_, _, rfl, rfl, _, _, rfl, rfl, _, _, rfl, rfl, aR⟩ := aQ
   obtain ⟨aK, rfl, -⟩ := id aR
   replace aR : GT.rep (hp _) [aK] aB.kids := aR
   replace aP : CellsAt (hp _) aG (aH + (aD).toNat * 4) [(nV aA.2), (nV aB.n_), (.string ⟨(aB.name).b.toArray⟩), aK] := aP
   have hL1_2 := rep_slice_len (hm.ow_rep 0 rfl)
   refine gI st_22 aL (idx_lt2 aM hL1_2) rfl (gF fo_24_1 rfl (gf0 rfl (fun a hf => e_setElemR (x1 := ((⟨aA.2, w64 (aA.2 + 1), aB.name, aB.kids⟩ : Expr_) : Expr_)) (j := 1) (vs := [(nV (w64 (aA.2 + 1)))]) 0 hf hm rfl aM aP rfl (fun F h ho => (fun (G : Nat → Prop) ho => own_Expr_.2 ((fun _ => own_snd_map (α := Int) (β := Int × Str × (List Expr_)) (cs := [(nV aA.2)]) (ds := [(nV aB.n_), (.string ⟨(aB.name).b.toArray⟩), aK]) (ds' := [(nV (w64 (aA.2 + 1))), (.string ⟨(aB.name).b.toArray⟩), aK]) rfl (fun _ => own_fst_map (α := Int) (β := Str × (List Expr_)) (cs := [(nV aB.n_)]) (cs' := [(nV (w64 (aA.2 + 1)))]) (ds := [(.string ⟨(aB.name).b.toArray⟩), aK]) rfl (fun _ _ => Flat.own_iff.2 rfl))) G (own_Expr_.1 ho))) F ho) rfl sizeOf3 rfl rfl rfl (one_cons rfl one_nil) rfl) ?_))
   rintro _ w hm
   have aN := List.getElem?_set_self (a := ((⟨aA.2, w64 (aA.2 + 1), aB.name, aB.kids⟩ : Expr_) : Expr_)) (idx_lt aM)
   refine gE (gS (gR (gM rfl (gB rfl (gA rfl (gE (gS (gR (gM rfl (gM rfl (gM rfl (gC hm rfl call107 (laws_markText_ok _ (w64 ((w64 (aA.2 + 1)) + 1))) fun aC al w hm => ?_))))))))))))
   obtain ⟨_, _, aT, aU⟩ := ro_get' (hm.ow_rep 0 rfl) aN
   replace aU := rep_Expr_.1 aU
   obtain ⟨_, _, rfl, rfl, _, _, rfl, rfl, _, _, rfl, rfl, aV⟩ := aU
   obtain ⟨aF, rfl, -⟩ := id aV
   replace aV : GT.rep (hp _) [aF] aB.kids := aV
   replace aT : CellsAt (hp _) aG (aH + (aD).toNat * 4) [(nV aA.2), (nV (w64 (aA.2 + 1))), (.string ⟨(aB.name).b.toArray⟩), aF] := aT
   have hL1_3 := rep_slice_len (hm.ow_rep 0 rfl)
   refine gI st_22 aL (idx_lt2 aN hL1_3) rfl (gF fo_24_2 rfl (gf0 rfl (fun a hf => e_setElemR (x1 := ((⟨aA.2, w64 (aA.2 + 1), aC, aB.kids⟩ : Expr_) : Expr_)) (j := 2) (vs := [(.string ⟨(aC).b.toArray⟩)]) 0 hf hm rfl aN aT rfl (fun F h ho => (fun (G : Nat → Prop) ho => own_Expr_.2 ((fun _ => own_snd_map (α := Int) (β := Int × Str × (List Expr_)) (cs := [(nV aA.2)]) (ds := [(nV (w64 (aA.2 + 1))), (.string ⟨(aB.name).b.toArray⟩), aF]) (ds' := [(nV (w64 (aA.2 + 1))), (.string ⟨(aC).b.toArray⟩), aF]) rfl (fun _ => own_snd_map (α := Int) (β := Str × (List Expr_)) (cs := [(nV (w64 (aA.2 + 1)))]) (ds := [(.string ⟨(aB.name).b.toArray⟩), aF]) (ds' := [(.string ⟨(aC).b.toArray⟩), aF]) rfl (fun _ => own_fst_map (α := Str) (β := (List Expr_)) (cs := [(.string ⟨(aB.name).b.toArray⟩)]) (cs' := [(.string ⟨(aC).b.toArray⟩)]) (ds := [aF]) rfl (fun _ _ => Flat.own_iff.2 rfl)))) G (own_Expr_.1 ho))) F ho) rfl sizeOf9 rfl rfl rfl (one_cons rfl one_nil) rfl) ?_))
   rintro _ w hm
   have aW := List.getElem?_set_self (a := ((⟨aA.2, w64 (aA.2 + 1), aC, aB.kids⟩ : Expr_) : Expr_)) (idx_lt aN)
   refine gE (gS (gR (gM rfl (gB rfl (gA rfl (gE (gR (gM rfl (gM rfl ?_)))))))))
   obtain ⟨_, _, aO, aX⟩ := ro_get' (hm.ow_rep 0 rfl) aW
   replace aX := rep_Expr_.1 aX
   obtain ⟨_, _, rfl, rfl, _, _, rfl, rfl, _, _, rfl, rfl, aY⟩ := aX
   obtain ⟨aE, rfl, -⟩ := id aY
   replace aY : GT.rep (hp _) [aE] aB.kids := aY
   replace aO : CellsAt (hp _) aG (aH + (aD).toNat * 4) [(nV aA.2), (nV (w64 (aA.2 + 1))), (.string ⟨(aC).b.toArray⟩), aE] := aO
   have hL1_4 := rep_slice_len (hm.ow_rep 0 rfl)
   refine gI st_22 aL (idx_lt2 aW hL1_4) rfl (gF fo_24_3 rfl (gY (yl isAgg22 (aO.cell (j := 3) rfl) rfl) (gM rfl ?_)))
   replace hm : Mem w0 hz _ [ow [aE] aB.kids, hole [(sV aG aH a_.length aI)] [aE] (fun (y : List Expr_) => ((((aA.1.set (aD).toNat (⟨aA.2, aB.n_, aB.name, aB.kids⟩ : Expr_)).set (aD).toNat (⟨aA.2, w64 (aA.2 + 1), aB.name, aB.kids⟩ : Expr_)).set (aD).toNat (⟨aA.2, w64 (aA.2 + 1), aC, aB.kids⟩ : Expr_)) : List Expr_).set (aD).toNat (⟨aA.2, w64 (aA.2 + 1), aC, y⟩ : Expr_))] := hm.open 0 rfl (foc_elem aW aO rfl (show FocH (α := Expr_) _ _ (⟨aA.2, w64 (aA.2 + 1), aC, aB.kids⟩ : Expr_) [aE] aB.kids (fun y => (⟨aA.2, w64 (aA.2 + 1), aC, y⟩ : Expr_)) from (foc_rec (f := fun (x : Expr_) => (x.op, x.n_, x.name, x.kids)) (fun _ _ _ _ => own_Expr_) (fun _ => rfl) (foc_snd (α := Int) (β := Int × Str × (List Expr_)) (cs := [(nV aA.2)]) (ds := [(nV (w64 (aA.2 + 1))), (.string ⟨(aC).b.toArray⟩), aE]) (v := [aE]) (inner := aB.kids) (x := (w64 (aA.2 + 1), aC, aB.kids)) (z := aA.2) (put := fun (y : List Expr_) => (w64 (aA.2 + 1), aC, y)) rfl (foc_snd (α := Int) (β := Str × (List Expr_)) (cs := [(nV (w64 (aA.2 + 1)))]) (ds := [(.string ⟨(aC).b.toArray⟩), aE]) (v := [aE]) (inner := aB.kids) (x := (aC, aB.kids)) (z := w64 (aA.2 + 1)) (put := fun (y : List Expr_) => (aC, y)) rfl (foc_snd (α := Str) (β := (List Expr_)) (cs := [(.string ⟨(aC).b.toArray⟩)]) (ds := [aE]) (v := [aE]) (inner := aB.kids) (x := aB.kids) (z := aC) (put := fun (y : List Expr_) => y) rfl (foc_id [aE] aB.kids)))))))
   obtain ⟨aa, hle, hm1, hsub, ab⟩ := hm.take2 (L1 := [ow [aE] aB.kids]) (L2 := [hole [(sV aG aH a_.length aI)] [aE] (fun (y : List Expr_) => ((((aA.1.set (aD).toNat (⟨aA.2, aB.n_, aB.name, aB.kids⟩ : Expr_)).set (aD).toNat (⟨aA.2, w64 (aA.2 + 1), aB.name, aB.kids⟩ : Expr_)).set (aD).toNat (⟨aA.2, w64 (aA.2 + 1), aC, aB.kids⟩ : Expr_)) : List Expr_).set (aD).toNat (⟨aA.2, w64 (aA.2 + 1), aC, y⟩ : Expr_))]) [0] [1] (by decide) rfl rfl
   refine gCg rfl call48 (laws_markExprS_rec _ aa aB.kids aE (w64 ((w64 ((w64 (aA.2 + 1)) + 1)) + 1)) hm1 ) ?_
   rintro ac am an w ⟨rfl, hB⟩
   replace hm := ab _ _ hB; clear hB
   replace hm := (hm.shut 1 0 (by decide) rfl rfl).pk (L' := [ow [(sV aG aH a_.length aI)] ((((aA.1.set (aD).toNat (⟨aA.2, aB.n_, aB.name, aB.kids⟩ : Expr_)).set (aD).toNat (⟨aA.2, w64 (aA.2 + 1), aB.name, aB.kids⟩ : Expr_)).set (aD).toNat (⟨aA.2, w64 (aA.2 + 1), aC, aB.kids⟩ : Expr_)).set (aD).toNat (⟨aA.2, w64 (aA.2 + 1), aC, ac.2⟩ : Expr_))]) [1] rfl rfl
   exact gA rfl (gE (gR (gM rfl (gP (by omega) (by omega) rfl (gA rfl (gE (gze hm [0] rfl)))))))
  repeat clear hm
  intro ao ap w hm aq ar
  refine gS (gS (gR (gM rfl (gM rfl ?_))))
  have au := rep_len (hm.ow_rep 0 rfl)
  exact gY (yV st_22 rfl) (gB rfl (gE (go _ 9 rfl (decide_eq_false (by omega)) (gcf rfl (gXt (gHh (gS (gR (gM rfl (gA rfl (gE (gRt (gr1 results48 rfl ⟨rfl, hm.pk [0] rfl rfl⟩)))))))))))))
theorem laws_markExprS_ok (w0 : World) (hz : Heap) (a_ : List Expr_) (v1 : Value) (k_ : Int) (hm0 : Mem w0 hz w0 [ow [v1] a_]) (r : Int × (List Expr_)) (hq : laws_markExprS a_ k_ = some r) : Con Tryz.prog 48 [v1, (nV k_)] w0 (fun v w' => v = (nV r.1) ∧ Mem w0 hz w' [ow [v1] r.2]) := laws_markExprS_all a_ k_ r hq w0 hz v1 hm0
theorem laws_markStmtS_all  : ∀ (a_ : List Stmt_) (k_ : Int) (r : Int × (List Stmt_)), laws_markStmtS a_ k_ = some r → ∀ (w0 : World) (hz : Heap) (v1 : Value) (hm0 : Mem w0 hz w0 [ow [v1] a_]), Con Tryz.prog 135 [v1, (nV k_)] w0 (fun v w' => v = (nV r.1) ∧ Mem w0 hz w' [ow [v1] r.2]) := by
  refine laws_markStmtS.partial_correctness  (motive := fun a_ k_ r => ∀ (w0 : World) (hz : Heap) (v1 : Value) (hm0 : Mem w0 hz w0 [ow [v1] a_]), Con Tryz.prog 135 [v1, (nV k_)] w0 (fun v w' => v = (nV r.1) ∧ Mem w0 hz w' [ow [v1] r.2])) ?_
  intro rec_ ih_ a_ k_ r hq w0 hz v1 hm0
  have laws_markStmtS_rec : ∀ (w0 : World) (hz : Heap) (a_ : List Stmt_) (v1 : Value) (k_ : Int) (hm0 : Mem w0 hz w0 [ow [v1] a_]) (r : Int × (List Stmt_)) (hq : rec_ a_ k_ = some r), Con Tryz.prog 135 [v1, (nV k_)] w0 (fun v w' => v = (nV r.1) ∧ Mem w0 hz w' [ow [v1] r.2]) := fun w0 hz a_ v1 k_ hm0 r hq => ih_ a_ k_ r hq w0 hz v1 hm0
  refine gconr (ρ := Int × (List Stmt_)) (R := fun r v w' => v = (nV r.1) ∧ Mem w0 hz w' [ow [v1] r.2]) func135 rfl hq ?_
  have hm := hm0
  refine gS (gR (gA rfl (gE (gS (gS (gR (gA rfl (gE ?_))))))))
  obtain ⟨an, aJ, rfl, bF⟩ := ro_slice (hm.ow_rep 0 rfl)
  refine gBk (gNf hm (fun aE aC => [(0, (.slice an a_.length aJ)), (1, (nV aC.2)), (5, (nV aE))]) (fun aE aC => [ow [(.slice an a_.length aJ)] aC.1]) [0] rfl ?_ ?_)
  ·
   repeat clear hm
   intro _ _ aE aC w hm bG bH bJ _
   refine gS (gS (gR (gM rfl (gM rfl ?_))))
   have bK := rep_len (hm.ow_rep 0 rfl)
   refine gY (yV st_92 rfl) (gB rfl (gE (go _ 9 rfl (decide_eq_true (by omega)) (gct rfl (gSk (gS (gBk (gS (gR (gM rfl (gM rfl (gM rfl (gg fun aA aZ aN => ?_)))))))))))))
   obtain ⟨aK, aL, bL, he⟩ := idx_form' (hm.ow_rep 0 rfl) aN
   obtain ⟨rfl, _, rfl⟩ := sl3 he
   obtain ⟨aq, ar, au, av, bM, bN, bO⟩ := rk_Stmt_ (hm.ow_rep 0 rfl) aN
   have hL1_1 := rep_slice_len (hm.ow_rep 0 rfl)
   refine gI st_92 aZ (idx_lt2 aN hL1_1) rfl (gF fo_105_0 rfl (gf0 rfl (fun a hf => e_setElemR (x1 := ((⟨aC.2, aA.name, aA.args, aA.body, aA.else_⟩ : Stmt_) : Stmt_)) (j := 0) (vs := [(nV aC.2)]) 0 hf hm rfl aN av rfl (fun F h ho => (fun (G : Nat → Prop) ho => own_Stmt_.2 ((fun _ => own_fst_map (α := Int) (β := Str × (List Expr_) × (List Stmt_) × (List Stmt_)) (cs := [(nV aA.op)]) (cs' := [(nV aC.2)]) (ds := [(.string ⟨(aA.name).b.toArray⟩), aq, ar, au]) rfl (fun _ _ => Flat.own_iff.2 rfl)) G (own_Stmt_.1 ho))) F ho) rfl sizeOf3 rfl rfl rfl (one_cons rfl one_nil) rfl) ?_))
   rintro _ w hm
   have aV := List.getElem?_set_self (a := ((⟨aC.2, aA.name, aA.args, aA.body, aA.else_⟩ : Stmt_) : Stmt_)) (idx_lt aN)
   refine gE (gS (gR (gM rfl (gB rfl (gA rfl (gE (gS (gR (gM rfl (gM rfl (gM rfl (gC hm rfl call107 (laws_markText_ok _ (w64 (aC.2 + 1))) fun aF bP w hm => ?_))))))))))))
   obtain ⟨_, _, a7, a8⟩ := ro_get' (hm.ow_rep 0 rfl) aV
   replace a8 := rep_Stmt_.1 a8
   obtain ⟨_, _, rfl, rfl, _, _, rfl, rfl, _, _, rfl, aa, _, _, rfl, ab, ac⟩ := a8
   obtain ⟨aO, rfl, -⟩ := id aa
   replace aa : GT.rep (hp _) [aO] aA.args := aa
   obtain ⟨aP, rfl, -⟩ := id ab
   replace ab : GT.rep (hp _) [aP] aA.body := ab
   obtain ⟨aQ, rfl, -⟩ := id ac
   replace ac : GT.rep (hp _) [aQ] aA.else_ := ac
   replace a7 : CellsAt (hp _) aK (aL + (aE).toNat * 5) [(nV aC.2), (.string ⟨(aA.name).b.toArray⟩), aO, aP, aQ] := a7
   have hL1_2 := rep_slice_len (hm.ow_rep 0 rfl)
   refine gI st_92 aZ (idx_lt2 aV hL1_2) rfl (gF fo_105_1 rfl (gf0 rfl (fun a hf => e_setElemR (x1 := ((⟨aC.2, aF, aA.args, aA.body, aA.else_⟩ : Stmt_) : Stmt_)) (j := 1) (vs := [(.string ⟨(aF).b.toArray⟩)]) 0 hf hm rfl aV a7 rfl (fun F h ho => (fun (G : Nat → Prop) ho => own_Stmt_.2 ((fun _ => own_snd_map (α := Int) (β := Str × (List Expr_) × (List Stmt_) × (List Stmt_)) (cs := [(nV aC.2)]) (ds := [(.string ⟨(aA.name).b.toArray⟩), aO, aP, aQ]) (ds' := [(.string ⟨(aF).b.toArray⟩), aO, aP, aQ]) rfl (fun _ => own_fst_map (α := Str) (β := (List Expr_) × (List Stmt_) × (List Stmt_)) (cs := [(.string ⟨(aA.name).b.toArray⟩)]) (cs' := [(.string ⟨(aF).b.toArray⟩)]) (ds := [aO, aP, aQ]) rfl (fun _ _ => Flat.own_iff.2 rfl))) G (own_Stmt_.1 ho))) F ho) rfl sizeOf9 rfl rfl rfl (one_cons rfl one_nil) rfl) ?_))
   rintro _ w hm
   have ae := List.getElem?_set_self (a := ((⟨aC.2, aF, aA.args, aA.body, aA.else_⟩ : Stmt_) : Stmt_)) (idx_lt aV)
   refine gE (gS (gR (gM rfl (gB rfl (gA rfl (gE (gS (gR (gM rfl (gM rfl ?_))))))))))
   obtain ⟨_, _, aW, af⟩ := ro_get' (hm.ow_rep 0 rfl) ae
   replace af := rep_Stmt_.1 af
   obtain ⟨_, _, rfl, rfl, _, _, rfl, rfl, _, _, rfl, ag, _, _, rfl, ah, ai⟩ := af
   obtain ⟨aG, rfl, -⟩ := id ag
   replace ag : GT.rep (hp _) [aG] aA.args := ag
   obtain ⟨aR, rfl, -⟩ := id ah
   replace ah : GT.rep (hp _) [aR] aA.body := ah
   obtain ⟨aT, rfl, -⟩ := id ai
   replace ai : GT.rep (hp _) [aT] aA.else_ := ai
   replace aW : CellsAt (hp _) aK (aL + (aE).toNat * 5) [(nV aC.2), (.string ⟨(aF).b.toArray⟩), aG, aR, aT] := aW
   have hL1_3 := rep_slice_len (hm.ow_rep 0 rfl)
   refine gI st_92 aZ (idx_lt2 ae hL1_3) rfl (gF fo_105_2 rfl (gY (yl isAgg22 (aW.cell (j := 2) rfl) rfl) (gM rfl ?_)))
   replace hm : Mem w0 hz _ [ow [aG] aA.args, hole [(sV aK aL a_.length aJ)] [aG] (fun (y : List Expr_) => (((aC.1.set (aE).toNat (⟨aC.2, aA.name, aA.args, aA.body, aA.else_⟩ : Stmt_)).set (aE).toNat (⟨aC.2, aF, aA.args, aA.body, aA.else_⟩ : Stmt_)) : List Stmt_).set (aE).toNat (⟨aC.2, aF, y, aA.body, aA.else_⟩ : Stmt_))] := hm.open 0 rfl (foc_elem ae aW rfl (show FocH (α := Stmt_) _ _ (⟨aC.2, aF, aA.args, aA.body, aA.else_⟩ : Stmt_) [aG] aA.args (fun y => (⟨aC.2, aF, y, aA.body, aA.else_⟩ : Stmt_)) from (foc_rec (f := fun (x : Stmt_) => (x.op, x.name, x.args, x.body, x.else_)) (fun _ _ _ _ => own_Stmt_) (fun _ => rfl) (foc_snd (α := Int) (β := Str × (List Expr_) × (List Stmt_) × (List Stmt_)) (cs := [(nV aC.2)]) (ds := [(.string ⟨(aF).b.toArray⟩), aG, aR, aT]) (v := [aG]) (inner := aA.args) (x := (aF, aA.args, aA.body, aA.else_)) (z := aC.2) (put := fun (y : List Expr_) => (aF, y, aA.body, aA.else_)) rfl (foc_snd (α := Str) (β := (List Expr_) × (List Stmt_) × (List Stmt_)) (cs := [(.string ⟨(aF).b.toArray⟩)]) (ds := [aG, aR, aT]) (v := [aG]) (inner := aA.args) (x := (aA.args, aA.body, aA.else_)) (z := aF) (put := fun (y : List Expr_) => (y, aA.body, aA.else_)) rfl (foc_fst (α := List Expr_) (β := (List Stmt_) × (List Stmt_)) (cs := [aG]) (ds := [aR, aT]) (v := [aG]) (inner := aA.args) (x := aA.args) (z := (aA.body, aA.else_)) (put := fun (y : List Expr_) => y) rfl (foc_id [aG] aA.args)))))))
   obtain ⟨aw, hle, hm1, hsub, ax⟩ := hm.take2 (L1 := [ow [aG] aA.args]) (L2 := [hole [(sV aK aL a_.length aJ)] [aG] (fun (y : List Expr_) => (((aC.1.set (aE).toNat (⟨aC.2, aA.name, aA.args, aA.body, aA.else_⟩ : Stmt_)).set (aE).toNat (⟨aC.2, aF, aA.args, aA.body, aA.else_⟩ : Stmt_)) : List Stmt_).set (aE).toNat (⟨aC.2, aF, y, aA.body, aA.else_⟩ : Stmt_))]) [0] [1] (by decide) rfl rfl
   refine gCg rfl call48 (laws_markExprS_ok _ aw aA.args aG (w64 ((w64 (aC.2 + 1)) + 1)) hm1 ) ?_
   rintro aM bQ bR w ⟨rfl, hB⟩
   replace hm := ax _ _ hB; clear hB
   replace hm := (hm.shut 1 0 (by decide) rfl rfl).pk (L' := [ow [(sV aK aL a_.length aJ)] (((aC.1.set (aE).toNat (⟨aC.2, aA.name, aA.args, aA.body, aA.else_⟩ : Stmt_)).set (aE).toNat (⟨aC.2, aF, aA.args, aA.body, aA.else_⟩ : Stmt_)).set (aE).toNat (⟨aC.2, aF, aM.2, aA.body, aA.else_⟩ : Stmt_))]) [1] rfl rfl
   refine gA rfl (gE (gS (gR (gM rfl (gM rfl (gg fun aB ay aj => ?_))))))
   obtain ⟨ak, aH, aX, ao, bS, bT, bU⟩ := rk_Stmt_ (hm.ow_rep 0 rfl) aj
   have hL1_4 := rep_slice_len (hm.ow_rep 0 rfl)
   refine gI st_92 ay (idx_lt2 aj hL1_4) rfl (gF fo_105_3 rfl (gY (yl isAgg92 (ao.cell (j := 3) rfl) rfl) (gM rfl ?_)))
   replace hm : Mem w0 hz _ [ow [aH] aB.body, hole [(sV aK aL a_.length aJ)] [aH] (fun (y : List Stmt_) => ((((aC.1.set (aE).toNat (⟨aC.2, aA.name, aA.args, aA.body, aA.else_⟩ : Stmt_)).set (aE).toNat (⟨aC.2, aF, aA.args, aA.body, aA.else_⟩ : Stmt_)).set (aE).toNat (⟨aC.2, aF, aM.2, aA.body, aA.else_⟩ : Stmt_)) : List Stmt_).set (aE).toNat (⟨aB.op, aB.name, aB.args, y, aB.else_⟩ : Stmt_))] := hm.open 0 rfl (foc_elem aj ao rfl (show FocH (α := Stmt_) _ _ aB [aH] aB.body (fun y => (⟨aB.op, aB.name, aB.args, y, aB.else_⟩ : Stmt_)) from (foc_rec (f := fun (x : Stmt_) => (x.op, x.name, x.args, x.body, x.else_)) (fun _ _ _ _ => own_Stmt_) (fun _ => rfl) (foc_snd (α := Int) (β := Str × (List Expr_) × (List Stmt_) × (List Stmt_)) (cs := [(nV aB.op)]) (ds := [(.string ⟨(aB.name).b.toArray⟩), ak, aH, aX]) (v := [aH]) (inner := aB.body) (x := (aB.name, aB.args, aB.body, aB.else_)) (z := aB.op) (put := fun (y : List Stmt_) => (aB.name, aB.args, y, aB.else_)) rfl (foc_snd (α := Str) (β := (List Expr_) × (List Stmt_) × (List Stmt_)) (cs := [(.string ⟨(aB.name).b.toArray⟩)]) (ds := [ak, aH, aX]) (v := [aH]) (inner := aB.body) (x := (aB.args, aB.body, aB.else_)) (z := aB.name) (put := fun (y : List Stmt_) => (aB.args, y, aB.else_)) rfl (foc_snd (α := List Expr_) (β := (List Stmt_) × (List Stmt_)) (cs := [ak]) (ds := [aH, aX]) (v := [aH]) (inner := aB.body) (x := (aB.body, aB.else_)) (z := aB.args) (put := fun (y : List Stmt_) => (y, aB.else_)) rfl (foc_fst (α := List Stmt_) (β := (List Stmt_)) (cs := [aH]) (ds := [aX]) (v := [aH]) (inner := aB.body) (x := aB.body) (z := aB.else_) (put := fun (y : List Stmt_) => y) rfl (foc_id [aH] aB.body))))))))
   obtain ⟨az, hle, hm1, hsub, bA⟩ := hm.take2 (L1 := [ow [aH] aB.body]) (L2 := [hole [(sV aK aL a_.length aJ)] [aH] (fun (y : List Stmt_) => ((((aC.1.set (aE).toNat (⟨aC.2, aA.name, aA.args, aA.body, aA.else_⟩ : Stmt_)).set (aE).toNat (⟨aC.2, aF, aA.args, aA.body, aA.else_⟩ : Stmt_)).set (aE).toNat (⟨aC.2, aF, aM.2, aA.body, aA.else_⟩ : Stmt_)) : List Stmt_).set (aE).toNat (⟨aB.op, aB.name, aB.args, y, aB.else_⟩ : Stmt_))]) [0] [1] (by decide) rfl rfl
   refine gCg rfl call135 (laws_markStmtS_rec _ az aB.body aH aM.1 hm1 ) ?_
   rintro aU bV bW w ⟨rfl, hB⟩
   replace hm := bA _ _ hB; clear hB
   replace hm := (hm.shut 1 0 (by decide) rfl rfl).pk (L' := [ow [(sV aK aL a_.length aJ)] ((((aC.1.set (aE).toNat (⟨aC.2, aA.name, aA.args, aA.body, aA.else_⟩ : Stmt_)).set (aE).toNat (⟨aC.2, aF, aA.args, aA.body, aA.else_⟩ : Stmt_)).set (aE).toNat (⟨aC.2, aF, aM.2, aA.body, aA.else_⟩ : Stmt_)).set (aE).toNat (⟨aB.op, aB.name, aB.args, aU.2, aB.else_⟩ : Stmt_))]) [1] rfl rfl
   refine gA rfl (gE (gR (gM rfl (gM rfl (gg fun aD bB al => ?_)))))
   obtain ⟨am, aY, aI, ap, bX, bY, bZ⟩ := rk_Stmt_ (hm.ow_rep 0 rfl) al
   have hL1_5 := rep_slice_len (hm.ow_rep 0 rfl)
   refine gI st_92 bB (idx_lt2 al hL1_5) rfl (gF fo_105_4 rfl (gY (yl isAgg92 (ap.cell (j := 4) rfl) rfl) (gM rfl ?_)))
   replace hm : Mem w0 hz _ [ow [aI] aD.else_, hole [(sV aK aL a_.length aJ)] [aI] (fun (y : List Stmt_) => (((((aC.1.set (aE).toNat (⟨aC.2, aA.name, aA.args, aA.body, aA.else_⟩ : Stmt_)).set (aE).toNat (⟨aC.2, aF, aA.args, aA.body, aA.else_⟩ : Stmt_)).set (aE).toNat (⟨aC.2, aF, aM.2, aA.body, aA.else_⟩ : Stmt_)).set (aE).toNat (⟨aB.op, aB.name, aB.args, aU.2, aB.else_⟩ : Stmt_)) : List Stmt_).set (aE).toNat (⟨aD.op, aD.name, aD.args, aD.body, y⟩ : Stmt_))] := hm.open 0 rfl (foc_elem al ap rfl (show FocH (α := Stmt_) _ _ aD [aI] aD.else_ (fun y => (⟨aD.op, aD.name, aD.args, aD.body, y⟩ : Stmt_)) from (foc_rec (f := fun (x : Stmt_) => (x.op, x.name, x.args, x.body, x.else_)) (fun _ _ _ _ => own_Stmt_) (fun _ => rfl) (foc_snd (α := Int) (β := Str × (List Expr_) × (List Stmt_) × (List Stmt_)) (cs := [(nV aD.op)]) (ds := [(.string ⟨(aD.name).b.toArray⟩), am, aY, aI]) (v := [aI]) (inner := aD.else_) (x := (aD.name, aD.args, aD.body, aD.else_)) (z := aD.op) (put := fun (y : List Stmt_) => (aD.name, aD.args, aD.body, y)) rfl (foc_snd (α := Str) (β := (List Expr_) × (List Stmt_) × (List Stmt_)) (cs := [(.string ⟨(aD.name).b.toArray⟩)]) (ds := [am, aY, aI]) (v := [aI]) (inner := aD.else_) (x := (aD.args, aD.body, aD.else_)) (z := aD.name) (put := fun (y : List Stmt_) => (aD.args, aD.body, y)) rfl (foc_snd (α := List Expr_) (β := (List Stmt_) × (List Stmt_)) (cs := [am]) (ds := [aY, aI]) (v := [aI]) (inner := aD.else_) (x := (aD.body, aD.else_)) (z := aD.args) (put := fun (y : List Stmt_) => (aD.body, y)) rfl (foc_snd (α := List Stmt_) (β := (List Stmt_)) (cs := [aY]) (ds := [aI]) (v := [aI]) (inner := aD.else_) (x := aD.else_) (z := aD.body) (put := fun (y : List Stmt_) => y) rfl (foc_id [aI] aD.else_))))))))
   obtain ⟨bC, hle, hm1, hsub, bD⟩ := hm.take2 (L1 := [ow [aI] aD.else_]) (L2 := [hole [(sV aK aL a_.length aJ)] [aI] (fun (y : List Stmt_) => (((((aC.1.set (aE).toNat (⟨aC.2, aA.name, aA.args, aA.body, aA.else_⟩ : Stmt_)).set (aE).toNat (⟨aC.2, aF, aA.args, aA.body, aA.else_⟩ : Stmt_)).set (aE).toNat (⟨aC.2, aF, aM.2, aA.body, aA.else_⟩ : Stmt_)).set (aE).toNat (⟨aB.op, aB.name, aB.args, aU.2, aB.else_⟩ : Stmt_)) : List Stmt_).set (aE).toNat (⟨aD.op, aD.name, aD.args, aD.body, y⟩ : Stmt_))]) [0] [1] (by decide) rfl rfl
   refine gCg rfl call135 (laws_markStmtS_rec _ bC aD.else_ aI aU.1 hm1 ) ?_
   rintro bE b4 b5 w ⟨rfl, hB⟩
   replace hm := bD _ _ hB; clear hB
   replace hm := (hm.shut 1 0 (by decide) rfl rfl).pk (L' := [ow [(sV aK aL a_.length aJ)] (((((aC.1.set (aE).toNat (⟨aC.2, aA.name, aA.args, aA.body, aA.else_⟩ : Stmt_)).set (aE).toNat (⟨aC.2, aF, aA.args, aA.body, aA.else_⟩ : Stmt_)).set (aE).toNat (⟨aC.2, aF, aM.2, aA.body, aA.else_⟩ : Stmt_)).set (aE).toNat (⟨aB.op, aB.name, aB.args, aU.2, aB.else_⟩ : Stmt_)).set (aE).toNat (⟨aD.op, aD.name, aD.args, aD.body, bE.2⟩ : Stmt_))]) [1] rfl rfl
   exact gA rfl (gE (gR (gM rfl (gP (by omega) (by omega) rfl (gA rfl (gE (gze hm [0] rfl)))))))
  repeat clear hm
  intro b6 b7 w hm b8 b9
  refine gS (gS (gR (gM rfl (gM rfl ?_))))
  have ba := rep_len (hm.ow_rep 0 rfl)
  exact gY (yV st_92 rfl) (gB rfl (gE (go _ 9 rfl (decide_eq_false (by omega)) (gcf rfl (gXt (gHh (gS (gR (gM rfl (gA rfl (gE (gRt (gr1 results135 rfl ⟨rfl, hm.pk [0] rfl rfl⟩)))))))))))))
theorem laws_markStmtS_ok (w0 : World) (hz : Heap) (a_ : List Stmt_) (v1 : Value) (k_ : Int) (hm0 : Mem w0 hz w0 [ow [v1] a_]) (r : Int × (List Stmt_)) (hq : laws_markStmtS a_ k_ = some r) : Con Tryz.prog 135 [v1, (nV k_)] w0 (fun v w' => v = (nV r.1) ∧ Mem w0 hz w' [ow [v1] r.2]) := laws_markStmtS_all a_ k_ r hq w0 hz v1 hm0
theorem laws_markFnS_ok (w0 : World) (hz : Heap) (a_ : List Fn_) (v1 : Value) (k_ : Int) (hm0 : Mem w0 hz w0 [ow [v1] a_]) :
    ConM Tryz.prog 75 [v1, (nV k_)] w0 (laws_markFnS a_ k_) fun r v w' => v = (nV r.1) ∧ Mem w0 hz w' [ow [v1] r.2] := by
  unfold laws_markFnS
  refine gcon func75 rfl fun r => ?_
  have hm := hm0
  refine gS (gR (gA rfl (gE (gS (gS (gR (gA rfl (gE ?_))))))))
  obtain ⟨aT, aH, rfl, ag⟩ := ro_slice (hm.ow_rep 0 rfl)
  refine gBk (gNf hm (fun aD aF => [(0, (.slice aT a_.length aH)), (1, (nV aF.2)), (5, (nV aD))]) (fun aD aF => [ow [(.slice aT a_.length aH)] aF.1]) [0] rfl ?_ ?_)
  ·
   repeat clear hm
   intro _ _ aD aF w hm ah ai aj _
   refine gS (gS (gR (gM rfl (gM rfl ?_))))
   have ak := rep_len (hm.ow_rep 0 rfl)
   refine gY (yV st_44 rfl) (gB rfl (gE (go _ 9 rfl (decide_eq_true (by omega)) (gct rfl (gSk (gS (gBk (gS (gR (gM rfl (gM rfl (gM rfl (gC hm rfl call107 (laws_markText_ok _ aF.2) fun aC al w hm => gg fun aA aU aK => ?_)))))))))))))
   obtain ⟨aI, aJ, am, he⟩ := idx_form' (hm.ow_rep 0 rfl) aK
   obtain ⟨rfl, _, rfl⟩ := sl3 he
   obtain ⟨aX, aY, aZ, an, ao⟩ := rk_Fn_ (hm.ow_rep 0 rfl) aK
   have hL1_1 := rep_slice_len (hm.ow_rep 0 rfl)
   refine gI st_44 aU (idx_lt2 aK hL1_1) rfl (gF fo_94_0 rfl (gf0 rfl (fun a hf => e_setElemR (x1 := ((⟨aC, aA.params, aA.body⟩ : Fn_) : Fn_)) (j := 0) (vs := [(.string ⟨(aC).b.toArray⟩)]) 0 hf hm rfl aK aZ rfl (fun F h ho => (fun _ => own_fst_map (α := Str) (β := (List Str) × (List Stmt_)) (cs := [(.string ⟨(aA.name).b.toArray⟩)]) (cs' := [(.string ⟨(aC).b.toArray⟩)]) (ds := [aX, aY]) rfl (fun _ _ => Flat.own_iff.2 rfl)) F ho) rfl sizeOf9 rfl rfl rfl (one_cons rfl one_nil) rfl) ?_))
   rintro _ w hm
   have aO := List.getElem?_set_self (a := ((⟨aC, aA.params, aA.body⟩ : Fn_) : Fn_)) (idx_lt aK)
   refine gE (gS (gR (gM rfl (gB rfl (gA rfl (gE (gS (gR (gM rfl (gM rfl ?_))))))))))
   obtain ⟨_, _, aM, a7⟩ := ro_get' (hm.ow_rep 0 rfl) aO
   obtain ⟨_, _, rfl, rfl, _, _, rfl, aP, aQ⟩ := a7
   obtain ⟨aE, rfl, -⟩ := id aP
   replace aP : GT.rep (hp _) [aE] aA.params := aP
   obtain ⟨aN, rfl, -⟩ := id aQ
   replace aQ : GT.rep (hp _) [aN] aA.body := aQ
   replace aM : CellsAt (hp _) aI (aJ + (aD).toNat * 3) [(.string ⟨(aC).b.toArray⟩), aE, aN] := aM
   have hL1_2 := rep_slice_len (hm.ow_rep 0 rfl)
   refine gI st_44 aU (idx_lt2 aO hL1_2) rfl (gF fo_94_1 rfl (gY (yl isAgg74 (aM.cell (j := 1) rfl) rfl) (gM rfl ?_)))
   replace hm : Mem w0 hz _ [ow [aE] aA.params, hole [(sV aI aJ a_.length aH)] [aE] (fun (y : List Str) => ((aF.1.set (aD).toNat (⟨aC, aA.params, aA.body⟩ : Fn_)) : List Fn_).set (aD).toNat (⟨aC, y, aA.body⟩ : Fn_))] := hm.open 0 rfl (foc_elem aO aM rfl (show FocH (α := Fn_) _ _ (⟨aC, aA.params, aA.body⟩ : Fn_) [aE] aA.params (fun y => (⟨aC, y, aA.body⟩ : Fn_)) from (foc_snd (α := Str) (β := (List Str) × (List Stmt_)) (cs := [(.string ⟨(aC).b.toArray⟩)]) (ds := [aE, aN]) (v := [aE]) (inner := aA.params) (x := (aA.params, aA.body)) (z := aC) (put := fun (y : List Str) => (y, aA.body)) rfl (foc_fst (α := List Str) (β := (List Stmt_)) (cs := [aE]) (ds := [aN]) (v := [aE]) (inner := aA.params) (x := aA.params) (z := aA.body) (put := fun (y : List Str) => y) rfl (foc_id [aE] aA.params)))))
   obtain ⟨a8, hle, hm1, hsub, aa⟩ := hm.take2 (L1 := [ow [aE] aA.params]) (L2 := [hole [(sV aI aJ a_.length aH)] [aE] (fun (y : List Str) => ((aF.1.set (aD).toNat (⟨aC, aA.params, aA.body⟩ : Fn_)) : List Fn_).set (aD).toNat (⟨aC, y, aA.body⟩ : Fn_))]) [0] [1] (by decide) rfl rfl
   refine gCg rfl call134 (laws_markStringS_ok _ a8 aA.params aE (w64 (aF.2 + 1)) hm1 ) ?_
   rintro aL ap aq w ⟨rfl, hB⟩
   replace hm := aa _ _ hB; clear hB
   replace hm := (hm.shut 1 0 (by decide) rfl rfl).pk (L' := [ow [(sV aI aJ a_.length aH)] ((aF.1.set (aD).toNat (⟨aC, aA.params, aA.body⟩ : Fn_)).set (aD).toNat (⟨aC, aL.2, aA.body⟩ : Fn_))]) [1] rfl rfl
   refine gA rfl (gE (gR (gM rfl (gM rfl (gg fun aB ab aR => ?_)))))
   obtain ⟨aV, aG, aW, ar, au⟩ := rk_Fn_ (hm.ow_rep 0 rfl) aR
   have hL1_3 := rep_slice_len (hm.ow_rep 0 rfl)
   refine gI st_44 ab (idx_lt2 aR hL1_3) rfl (gF fo_94_2 rfl (gY (yl isAgg92 (aW.cell (j := 2) rfl) rfl) (gM rfl ?_)))
   replace hm : Mem w0 hz _ [ow [aG] aB.body, hole [(sV aI aJ a_.length aH)] [aG] (fun (y : List Stmt_) => (((aF.1.set (aD).toNat (⟨aC, aA.params, aA.body⟩ : Fn_)).set (aD).toNat (⟨aC, aL.2, aA.body⟩ : Fn_)) : List Fn_).set (aD).toNat (⟨aB.name, aB.params, y⟩ : Fn_))] := hm.open 0 rfl (foc_elem aR aW rfl (show FocH (α := Fn_) _ _ aB [aG] aB.body (fun y => (⟨aB.name, aB.params, y⟩ : Fn_)) from (foc_snd (α := Str) (β := (List Str) × (List Stmt_)) (cs := [(.string ⟨(aB.name).b.toArray⟩)]) (ds := [aV, aG]) (v := [aG]) (inner := aB.body) (x := (aB.params, aB.body)) (z := aB.name) (put := fun (y : List Stmt_) => (aB.params, y)) rfl (foc_snd (α := List Str) (β := (List Stmt_)) (cs := [aV]) (ds := [aG]) (v := [aG]) (inner := aB.body) (x := aB.body) (z := aB.params) (put := fun (y : List Stmt_) => y) rfl (foc_id [aG] aB.body)))))
   obtain ⟨ac, hle, hm1, hsub, ae⟩ := hm.take2 (L1 := [ow [aG] aB.body]) (L2 := [hole [(sV aI aJ a_.length aH)] [aG] (fun (y : List Stmt_) => (((aF.1.set (aD).toNat (⟨aC, aA.params, aA.body⟩ : Fn_)).set (aD).toNat (⟨aC, aL.2, aA.body⟩ : Fn_)) : List Fn_).set (aD).toNat (⟨aB.name, aB.params, y⟩ : Fn_))]) [0] [1] (by decide) rfl rfl
   refine gCg rfl call135 (laws_markStmtS_ok _ ac aB.body aG aL.1 hm1 ) ?_
   rintro af av aw w ⟨rfl, hB⟩
   replace hm := ae _ _ hB; clear hB
   replace hm := (hm.shut 1 0 (by decide) rfl rfl).pk (L' := [ow [(sV aI aJ a_.length aH)] (((aF.1.set (aD).toNat (⟨aC, aA.params, aA.body⟩ : Fn_)).set (aD).toNat (⟨aC, aL.2, aA.body⟩ : Fn_)).set (aD).toNat (⟨aB.name, aB.params, af.2⟩ : Fn_))]) [1] rfl rfl
   exact gA rfl (gE (gR (gM rfl (gP (by omega) (by omega) rfl (gA rfl (gE (gze hm [0] rfl)))))))
  repeat clear hm
  intro ax ay w hm az bA
  refine gS (gS (gR (gM rfl (gM rfl ?_))))
  have bB := rep_len (hm.ow_rep 0 rfl)
  exact gY (yV st_44 rfl) (gB rfl (gE (go _ 9 rfl (decide_eq_false (by omega)) (gcf rfl (gXt (gHh (gS (gR (gM rfl (gA rfl (gE (gRt (gr1 results75 rfl ⟨rfl, hm.pk [0] rfl rfl⟩)))))))))))))
theorem laws_markProgram_ok (w0 : World) (hz : Heap) (a_ : Program_) (v1 : Value) (k_ : Int) (hm0 : Mem w0 hz w0 [ow [v1] a_.fns]) :
    ConM Tryz.prog 33 [(.agg #[v1]), (nV k_)] w0 (laws_markProgram a_ k_) fun r v w' => v = (nV r.1) ∧ Mem w0 hz w' [ow [v1] r.2] := by
  unfold laws_markProgram
  refine gcon func33 rfl fun r => ?_
  have hm := hm0
  refine gS (gR (gBx hm rfl fun aA w hm => gA rfl (gE (gS (gR (gF fo_46_0 rfl (gL hm 0 isAgg44 rfl (gM rfl ?_))))))))
  obtain ⟨aB, hle, hm1, hsub, aC⟩ := hm.take2 (L1 := [ow [v1] a_.fns]) (L2 := [blk aA [v1] 46]) [1] [0] (by decide) rfl rfl
  refine gCg rfl call75 (laws_markFnS_ok _ aB a_.fns v1 k_ hm1 ) ?_
  rintro aD aE aF w ⟨rfl, hB⟩
  replace hm := aC _ _ hB; clear hB
  exact gA rfl (gE (gS (gR (gM rfl (gA rfl (gE (gRt (gr1 results33 rfl ⟨rfl, hm.pk [0] rfl rfl⟩))))))))
theorem laws_heldStringS_ok (w0 : World) (a_ : List Str) (v1 : Value) (h1 : GT.rep (hp w0) [v1] a_) (k_ : Int) :
    ConM Tryz.prog 136 [v1, (nV k_)] w0 (laws_heldStringS a_ k_) fun r v w' => v = (nV r) ∧ Below w0.heap.size w0 w' := by
  unfold laws_heldStringS
  refine gcon func136 rfl fun r => ?_
  have hm := Mem.start w0
  refine gS (gR (gA rfl (gE (gS (gS (gR (gA rfl (gE (gBk (gNf hm (fun aB aA => [(0, v1), (1, (nV aA)), (5, (nV aB))]) (fun aB aA => []) [] rfl ?_ ?_))))))))))
  ·
   repeat clear hm
   intro aK aE aB aA w hm aL aM aN aF
   refine gS (gS (gR (gM rfl (gM rfl ?_))))
   obtain ⟨aO, aP, rfl, aQ⟩ := ro_slice h1
   refine gY (yV st_74 rfl) (gB rfl (gE (go _ 9 rfl (decide_eq_true (by omega)) (gct rfl (gSk (gS (gBk (gS (gS (gW (.p 0 (.p 1 (.p 2 (.p 4 (.q 3 (.e 5 (.p 6 .fin) .nil)))))) [5] [0, 1, 2, 4, 6] hm [] [] rfl mxo (by kernel_rfl) (fun _ _ _ h => h.2) fun w hm hS => tP rfl (fun w => yM rfl) (tP rfl (fun w => yM rfl) (gg fun aD aG aC => ?_))))))))))))
   obtain ⟨aR, aT, aU, he⟩ := idx_form h1 aC
   obtain ⟨rfl, _, rfl⟩ := sl3 he
   refine tP rfl (fun w => yI st_74 aG (idx_lt aC) rfl) (tP rfl (fun w => yM rfl) (tQ rfl hS (fun w hm => yl isAgg9 ((flat_cells (cs := [(.string ⟨(aD).b.toArray⟩)]) (hm.now h1) aC rfl).cell (j := 0) rfl) rfl) (tO (gb fun aH aI => tf rfl rfl (fun a hf => e_call hf rfl call107 rfl (laws_markText_ok _ aA _ aI)) ?_))))
   rintro aV w ⟨rfl, hB⟩
   replace hm := hm.below' hB; clear hB
   refine tAk hm [] rfl fun hS => tP rfl (fun w => yG rfl (y_neqs (p := aD) (q := aH) rfl rfl rfl)) (tE (gsd 18 rfl (fun aJ => ?_) fun aJ => ?_))
   ·
    exact gct rfl (gS (gR (gA rfl (gE (gRt (gLr aF aE (gr1 results136 rfl ⟨rfl, hm.below⟩)))))))
   exact gcf rfl (gSk (gR (gM rfl (gB rfl (gA rfl (gE (gR (gM rfl (gP (by omega) (by omega) rfl (gA rfl (gE (gze hm [] rfl))))))))))))
  repeat clear hm
  intro aW aX w hm aY aZ
  refine gS (gS (gR (gM rfl (gM rfl ?_))))
  obtain ⟨a7, a8, rfl, aa⟩ := ro_slice h1
  exact gY (yV st_74 rfl) (gB rfl (gE (go _ 9 rfl (decide_eq_false (by omega)) (gcf rfl (gXt (gHh (gS (gR (gM rfl (gA rfl (gE (gRt (gr1 results136 rfl ⟨rfl, hm.below⟩)))))))))))))
theorem laws_heldExprS_all  : ∀ (a_ : List Expr_) (k_ : Int) (r : Int), laws_heldExprS a_ k_ = some r → ∀ (w0 : World) (v1 : Value) (h1 : GT.rep (hp w0) [v1] a_), Con Tryz.prog 49 [v1, (nV k_)] w0 (fun v w' => v = (nV r) ∧ Below w0.heap.size w0 w') := by
  refine laws_heldExprS.partial_correctness  (motive := fun a_ k_ r => ∀ (w0 : World) (v1 : Value) (h1 : GT.rep (hp w0) [v1] a_), Con Tryz.prog 49 [v1, (nV k_)] w0 (fun v w' => v = (nV r) ∧ Below w0.heap.size w0 w')) ?_
  intro rec_ ih_ a_ k_ r hq w0 v1 h1
  have laws_heldExprS_rec : ∀ (w0 : World) (a_ : List Expr_) (v1 : Value) (h1 : GT.rep (hp w0) [v1] a_) (k_ : Int) (r : Int) (hq : rec_ a_ k_ = some r), Con Tryz.prog 49 [v1, (nV k_)] w0 (fun v w' => v = (nV r) ∧ Below w0.heap.size w0 w') := fun w0 a_ v1 h1 k_ r hq => ih_ a_ k_ r hq w0 v1 h1
  refine gconr (ρ := Int) (R := fun r v w' => v = (nV r) ∧ Below w0.heap.size w0 w') func49 rfl hq ?_
  have hm := Mem.start w0
  refine gS (gR (gA rfl (gE (gS (gS (gR (gA rfl (gE (gBk (gNf hm (fun aG aB => [(0, v1), (1, (nV aB)), (5, (nV aG))]) (fun aG aB => []) [] rfl ?_ ?_))))))))))
  ·
   repeat clear hm
   intro aQ aC aG aB w hm aR aT aU aD
   refine gS (gS (gR (gM rfl (gM rfl ?_))))
   obtain ⟨aV, aW, rfl, aX⟩ := ro_slice h1
   refine gY (yV st_22 rfl) (gB rfl (gE (go _ 9 rfl (decide_eq_true (by omega)) (gct rfl (gSk (gS (gBk (gS (gS (gR (gM rfl (gM rfl (gg fun aH aE aA => ?_)))))))))))))
   obtain ⟨aY, aZ, a7, he⟩ := idx_form' h1 aA
   obtain ⟨rfl, _, rfl⟩ := sl3 he
   obtain ⟨aI, aF, aJ⟩ := rk_Expr_ h1 aA
   refine gI st_22 aE (idx_lt aA) rfl (gF fo_24_0 rfl (gY (yl isAgg3 ((aF.mono hm.lez).cell (j := 0) rfl) rfl) (gM rfl (gB rfl (gE (gsd 18 rfl (fun aK => ?_) fun aK => ?_))))))
   ·
    exact gct rfl (gS (gR (gA rfl (gE (gRt (gLr aD aC (gr1 results49 rfl ⟨rfl, hm.below⟩)))))))
   refine gcf rfl (gSk (gS (gR (gM rfl (gB rfl (gA rfl (gE (gS (gS (gR (gM rfl (gM rfl (gI st_22 aE (idx_lt aA) rfl (gF fo_24_1 rfl (gY (yl isAgg3 ((aF.mono hm.lez).cell (j := 1) rfl) rfl) (gM rfl (gB rfl (gE (gsd 27 rfl (fun aL => ?_) fun aL => ?_)))))))))))))))))))
   ·
    exact gct rfl (gS (gR (gA rfl (gE (gRt (gLr aD aC (gr1 results49 rfl ⟨rfl, hm.below⟩)))))))
   refine gcf rfl (gSk (gS (gR (gM rfl (gB rfl (gA rfl (gE (gS (gS (gW (.p 0 (.p 1 (.p 2 (.p 3 (.p 5 (.q 4 (.e 6 (.p 7 .fin) .nil))))))) [6] [0, 1, 2, 3, 5, 7] hm [] [] rfl mxo (by kernel_rfl) (fun _ _ _ h => h.2) fun w hm hS => tP rfl (fun w => yM rfl) (tP rfl (fun w => yM rfl) (tP rfl (fun w => yI st_22 aE (idx_lt aA) rfl) (tP rfl (fun w => yF fo_24_2 rfl) (tP rfl (fun w => yM rfl) (tQ rfl hS (fun w hm => yl isAgg9 ((aF.mono hm.lez).cell (j := 2) rfl) rfl) (tO (gb fun aM aN => tf rfl rfl (fun a hf => e_call hf rfl call107 rfl (laws_markText_ok _ (w64 ((w64 (aB + 1)) + 1)) _ aN)) ?_)))))))))))))))))
   rintro a8 w ⟨rfl, hB⟩
   replace hm := hm.below' hB; clear hB
   refine tAk hm [] rfl fun hS => tP rfl (fun w => yG rfl (y_neqs (p := aH.name) (q := aM) rfl rfl rfl)) (tE (gsd 37 rfl (fun aO => ?_) fun aO => ?_))
   ·
    exact gct rfl (gS (gR (gA rfl (gE (gRt (gLr aD aC (gr1 results49 rfl ⟨rfl, hm.below⟩)))))))
   refine gcf rfl (gSk (gS (gR (gM rfl (gB rfl (gA rfl (gE (gS (gR (gM rfl (gM rfl (gI st_22 aE (idx_lt aA) rfl (gF fo_24_3 rfl (gY (yl isAgg22 ((aF.mono hm.lez).cell (j := 3) rfl) rfl) (gM rfl (gC hm rfl call49 (laws_heldExprS_rec _ aH.kids aI (hm.now aJ) (w64 ((w64 ((w64 (aB + 1)) + 1)) + 1))) fun aa ab w hm => gA rfl (gE (gS (gR (gM rfl (gB rfl (gE (gsd 48 rfl (fun aP => ?_) fun aP => ?_)))))))))))))))))))))))
   ·
    exact gct rfl (gS (gR (gA rfl (gE (gRt (gLr aD aC (gr1 results49 rfl ⟨rfl, hm.below⟩)))))))
   exact gcf rfl (gSk (gR (gM rfl (gP (by omega) (by omega) rfl (gA rfl (gE (gze hm [] rfl)))))))
  repeat clear hm
  intro ac ae w hm af ag
  refine gS (gS (gR (gM rfl (gM rfl ?_))))
  obtain ⟨ah, ai, rfl, aj⟩ := ro_slice h1
  exact gY (yV st_22 rfl) (gB rfl (gE (go _ 9 rfl (decide_eq_false (by omega)) (gcf rfl (gXt (gHh (gS (gR (gM rfl (gA rfl (gE (gRt (gr1 results49 rfl ⟨rfl, hm.below⟩)))))))))))))
theorem laws_heldExprS_ok (w0 : World) (a_ : List Expr_) (v1 : Value) (h1 : GT.rep (hp w0) [v1] a_) (k_ : Int) (r : Int) (hq : laws_heldExprS a_ k_ = some r) : Con Tryz.prog 49 [v1, (nV k_)] w0 (fun v w' => v = (nV r) ∧ Below w0.heap.size w0 w') := laws_heldExprS_all a_ k_ r hq w0 v1 h1
theorem laws_heldStmtS_all  : ∀ (a_ : List Stmt_) (k_ : Int) (r : Int), laws_heldStmtS a_ k_ = some r → ∀ (w0 : World) (v1 : Value) (h1 : GT.rep (hp w0) [v1] a_), Con Tryz.prog 137 [v1, (nV k_)] w0 (fun v w' => v = (nV r) ∧ Below w0.heap.size w0 w') := by
  refine laws_heldStmtS.partial_correctness  (motive := fun a_ k_ r => ∀ (w0 : World) (v1 : Value) (h1 : GT.rep (hp w0) [v1] a_), Con Tryz.prog 137 [v1, (nV k_)] w0 (fun v w' => v = (nV r) ∧ Below w0.heap.size w0 w')) ?_
  intro rec_ ih_ a_ k_ r hq w0 v1 h1
  have laws_heldStmtS_rec : ∀ (w0 : World) (a_ : List Stmt_) (v1 : Value) (h1 : GT.rep (hp w0) [v1] a_) (k_ : Int) (r : Int) (hq : rec_ a_ k_ = some r), Con Tryz.prog 137 [v1, (nV k_)] w0 (fun v w' => v = (nV r) ∧ Below w0.heap.size w0 w') := fun w0 a_ v1 h1 k_ r hq => ih_ a_ k_ r hq w0 v1 h1
  refine gconr (ρ := Int) (R := fun r v w' => v = (nV r) ∧ Below w0.heap.size w0 w') func137 rfl hq ?_
  have hm := Mem.start w0
  refine gS (gR (gA rfl (gE (gS (gS (gR (gA rfl (gE (gBk (gNf hm (fun aH aB => [(0, v1), (1, (nV aB)), (5, (nV aH))]) (fun aH aB => []) [] rfl ?_ ?_))))))))))
  ·
   repeat clear hm
   intro aY aC aH aB w hm aZ a7 a8 aD
   refine gS (gS (gR (gM rfl (gM rfl ?_))))
   obtain ⟨aa, ab, rfl, ac⟩ := ro_slice h1
   refine gY (yV st_92 rfl) (gB rfl (gE (go _ 9 rfl (decide_eq_true (by omega)) (gct rfl (gSk (gS (gBk (gS (gS (gR (gM rfl (gM rfl (gg fun aG aE aA => ?_)))))))))))))
   obtain ⟨ae, af, ag, he⟩ := idx_form' h1 aA
   obtain ⟨rfl, _, rfl⟩ := sl3 he
   obtain ⟨aI, aJ, aK, aF, aL, aM, aN⟩ := rk_Stmt_ h1 aA
   refine gI st_92 aE (idx_lt aA) rfl (gF fo_105_0 rfl (gY (yl isAgg3 ((aF.mono hm.lez).cell (j := 0) rfl) rfl) (gM rfl (gB rfl (gE (gsd 18 rfl (fun aO => ?_) fun aO => ?_))))))
   ·
    exact gct rfl (gS (gR (gA rfl (gE (gRt (gLr aD aC (gr1 results137 rfl ⟨rfl, hm.below⟩)))))))
   refine gcf rfl (gSk (gS (gR (gM rfl (gB rfl (gA rfl (gE (gS (gS (gW (.p 0 (.p 1 (.p 2 (.p 3 (.p 5 (.q 4 (.e 6 (.p 7 .fin) .nil))))))) [6] [0, 1, 2, 3, 5, 7] hm [] [] rfl mxo (by kernel_rfl) (fun _ _ _ h => h.2) fun w hm hS => tP rfl (fun w => yM rfl) (tP rfl (fun w => yM rfl) (tP rfl (fun w => yI st_92 aE (idx_lt aA) rfl) (tP rfl (fun w => yF fo_105_1 rfl) (tP rfl (fun w => yM rfl) (tQ rfl hS (fun w hm => yl isAgg9 ((aF.mono hm.lez).cell (j := 1) rfl) rfl) (tO (gb fun aP aQ => tf rfl rfl (fun a hf => e_call hf rfl call107 rfl (laws_markText_ok _ (w64 (aB + 1)) _ aQ)) ?_)))))))))))))))))
   rintro ah w ⟨rfl, hB⟩
   replace hm := hm.below' hB; clear hB
   refine tAk hm [] rfl fun hS => tP rfl (fun w => yG rfl (y_neqs (p := aG.name) (q := aP) rfl rfl rfl)) (tE (gsd 28 rfl (fun aR => ?_) fun aR => ?_))
   ·
    exact gct rfl (gS (gR (gA rfl (gE (gRt (gLr aD aC (gr1 results137 rfl ⟨rfl, hm.below⟩)))))))
   refine gcf rfl (gSk (gS (gR (gM rfl (gB rfl (gA rfl (gE (gS (gR (gM rfl (gM rfl (gI st_92 aE (idx_lt aA) rfl (gF fo_105_2 rfl (gY (yl isAgg22 ((aF.mono hm.lez).cell (j := 2) rfl) rfl) (gM rfl (gC hm rfl call49 (laws_heldExprS_ok _ aG.args aI (hm.now aL) (w64 ((w64 (aB + 1)) + 1))) fun aT ai w hm => gA rfl (gE (gS (gS (gR (gM rfl (gB rfl (gE (gsd 39 rfl (fun aU => ?_) fun aU => ?_))))))))))))))))))))))))
   ·
    exact gct rfl (gS (gR (gA rfl (gE (gRt (gLr aD aC (gr1 results137 rfl ⟨rfl, hm.below⟩)))))))
   refine gcf rfl (gSk (gS (gR (gM rfl (gM rfl (gI st_92 aE (idx_lt aA) rfl (gF fo_105_3 rfl (gY (yl isAgg92 ((aF.mono hm.lez).cell (j := 3) rfl) rfl) (gM rfl (gC hm rfl call137 (laws_heldStmtS_rec _ aG.body aJ (hm.now aM) aT) fun aV aj w hm => gA rfl (gE (gS (gS (gR (gM rfl (gB rfl (gE (gsd 48 rfl (fun aW => ?_) fun aW => ?_))))))))))))))))))
   ·
    exact gct rfl (gS (gR (gA rfl (gE (gRt (gLr aD aC (gr1 results137 rfl ⟨rfl, hm.below⟩)))))))
   refine gcf rfl (gSk (gS (gR (gM rfl (gM rfl (gI st_92 aE (idx_lt aA) rfl (gF fo_105_4 rfl (gY (yl isAgg92 ((aF.mono hm.lez).cell (j := 4) rfl) rfl) (gM rfl (gC hm rfl call137 (laws_heldStmtS_rec _ aG.else_ aK (hm.now aN) aV) fun ak al w hm => gA rfl (gE (gS (gR (gM rfl (gB rfl (gE (gsd 57 rfl (fun aX => ?_) fun aX => ?_)))))))))))))))))
   ·
    exact gct rfl (gS (gR (gA rfl (gE (gRt (gLr aD aC (gr1 results137 rfl ⟨rfl, hm.below⟩)))))))
   exact gcf rfl (gSk (gR (gM rfl (gP (by omega) (by omega) rfl (gA rfl (gE (gze hm [] rfl)))))))
  repeat clear hm
  intro am an w hm ao ap
  refine gS (gS (gR (gM rfl (gM rfl ?_))))
  obtain ⟨aq, ar, rfl, au⟩ := ro_slice h1
  exact gY (yV st_92 rfl) (gB rfl (gE (go _ 9 rfl (decide_eq_false (by omega)) (gcf rfl (gXt (gHh (gS (gR (gM rfl (gA rfl (gE (gRt (gr1 results137 rfl ⟨rfl, hm.below⟩)))))))))))))
theorem laws_heldStmtS_ok (w0 : World) (a_ : List Stmt_) (v1 : Value) (h1 : GT.rep (hp w0) [v1] a_) (k_ : Int) (r : Int) (hq : laws_heldStmtS a_ k_ = some r) : Con Tryz.prog 137 [v1, (nV k_)] w0 (fun v w' => v = (nV r) ∧ Below w0.heap.size w0 w') := laws_heldStmtS_all a_ k_ r hq w0 v1 h1
theorem laws_heldFnS_ok (w0 : World) (a_ : List Fn_) (v1 : Value) (h1 : GT.rep (hp w0) [v1] a_) (k_ : Int) :
    ConM Tryz.prog 76 [v1, (nV k_)] w0 (laws_heldFnS a_ k_) fun r v w' => v = (nV r) ∧ Below w0.heap.size w0 w' := by
  unfold laws_heldFnS
  refine gcon func76 rfl fun r => ?_
  have hm := Mem.start w0
  refine gS (gR (gA rfl (gE (gS (gS (gR (gA rfl (gE (gBk (gNf hm (fun aC aA => [(0, v1), (1, (nV aA)), (5, (nV aC))]) (fun aC aA => []) [] rfl ?_ ?_))))))))))
  ·
   repeat clear hm
   intro aT aD aC aA w hm aU aV aW aE
   refine gS (gS (gR (gM rfl (gM rfl ?_))))
   obtain ⟨aX, aY, rfl, aZ⟩ := ro_slice h1
   refine gY (yV st_44 rfl) (gB rfl (gE (go _ 9 rfl (decide_eq_true (by omega)) (gct rfl (gSk (gS (gBk (gS (gS (gW (.p 0 (.p 1 (.p 2 (.p 3 (.p 5 (.q 4 (.e 6 (.p 7 .fin) .nil))))))) [6] [0, 1, 2, 3, 5, 7] hm [] [] rfl mxo (by kernel_rfl) (fun _ _ _ h => h.2) fun w hm hS => tP rfl (fun w => yM rfl) (tP rfl (fun w => yM rfl) (gg fun aF aG aB => ?_))))))))))))
   obtain ⟨a7, a8, aa, he⟩ := idx_form' h1 aB
   obtain ⟨rfl, _, rfl⟩ := sl3 he
   obtain ⟨aI, aJ, aH, aK, aL⟩ := rk_Fn_ h1 aB
   refine tP rfl (fun w => yI st_44 aG (idx_lt aB) rfl) (tP rfl (fun w => yF fo_94_0 rfl) (tP rfl (fun w => yM rfl) (tQ rfl hS (fun w hm => yl isAgg9 ((aH.mono hm.lez).cell (j := 0) rfl) rfl) (tO (gb fun aM aN => tf rfl rfl (fun a hf => e_call hf rfl call107 rfl (laws_markText_ok _ aA _ aN)) ?_)))))
   rintro ab w ⟨rfl, hB⟩
   replace hm := hm.below' hB; clear hB
   refine tAk hm [] rfl fun hS => tP rfl (fun w => yG rfl (y_neqs (p := aF.name) (q := aM) rfl rfl rfl)) (tE (gsd 19 rfl (fun aO => ?_) fun aO => ?_))
   ·
    exact gct rfl (gS (gR (gA rfl (gE (gRt (gLr aE aD (gr1 results76 rfl ⟨rfl, hm.below⟩)))))))
   refine gcf rfl (gSk (gS (gR (gM rfl (gB rfl (gA rfl (gE (gS (gR (gM rfl (gM rfl (gI st_44 aG (idx_lt aB) rfl (gF fo_94_1 rfl (gY (yl isAgg74 ((aH.mono hm.lez).cell (j := 1) rfl) rfl) (gM rfl (gC hm rfl call136 (laws_heldStringS_ok _ aF.params aI (hm.now aK) (w64 (aA + 1))) fun aP ac w hm => gA rfl (gE (gS (gS (gR (gM rfl (gB rfl (gE (gsd 30 rfl (fun aQ => ?_) fun aQ => ?_))))))))))))))))))))))))
   ·
    exact gct rfl (gS (gR (gA rfl (gE (gRt (gLr aE aD (gr1 results76 rfl ⟨rfl, hm.below⟩)))))))
   refine gcf rfl (gSk (gS (gR (gM rfl (gM rfl (gI st_44 aG (idx_lt aB) rfl (gF fo_94_2 rfl (gY (yl isAgg92 ((aH.mono hm.lez).cell (j := 2) rfl) rfl) (gM rfl (gC hm rfl call137 (laws_heldStmtS_ok _ aF.body aJ (hm.now aL) aP) fun ae af w hm => gA rfl (gE (gS (gR (gM rfl (gB rfl (gE (gsd 39 rfl (fun aR => ?_) fun aR => ?_)))))))))))))))))
   ·
    exact gct rfl (gS (gR (gA rfl (gE (gRt (gLr aE aD (gr1 results76 rfl ⟨rfl, hm.below⟩)))))))
   exact gcf rfl (gSk (gR (gM rfl (gP (by omega) (by omega) rfl (gA rfl (gE (gze hm [] rfl)))))))
  repeat clear hm
  intro ag ah w hm ai aj
  refine gS (gS (gR (gM rfl (gM rfl ?_))))
  obtain ⟨ak, al, rfl, am⟩ := ro_slice h1
  exact gY (yV st_44 rfl) (gB rfl (gE (go _ 9 rfl (decide_eq_false (by omega)) (gcf rfl (gXt (gHh (gS (gR (gM rfl (gA rfl (gE (gRt (gr1 results76 rfl ⟨rfl, hm.below⟩)))))))))))))
theorem laws_heldProgram_ok (w0 : World) (a_ : Program_) (v1 : Value) (h1 : GT.rep (hp w0) [v1] a_.fns) (k_ : Int) :
    ConM Tryz.prog 34 [(.agg #[v1]), (nV k_)] w0 (laws_heldProgram a_ k_) fun r v w' => v = (nV r) ∧ Below w0.heap.size w0 w' := by
  unfold laws_heldProgram
  refine gcon func34 rfl fun r => ?_
  have hm := Mem.start w0
  refine gS (gR (gBx hm rfl fun aB w hm => gA rfl (gE (gS (gR (gF fo_46_0 rfl (gL hm 0 isAgg44 rfl (gM rfl (gC hm rfl call76 (laws_heldFnS_ok _ a_.fns v1 (hm.now h1) k_) fun aC aD w hm => gA rfl (gE (gS (gS (gR (gM rfl (gB rfl (gE (gsd 10 rfl (fun aA => ?_) fun aA => ?_)))))))))))))))))
  ·
   exact gct rfl (gS (gR (gA rfl (gE (gRt (gr1 results34 rfl ⟨rfl, hm.below⟩))))))
  exact gcf rfl (gSk (gS (gR (gM rfl (gA rfl (gE (gRt (gr1 results34 rfl ⟨rfl, hm.below⟩))))))))
theorem laws_FnExactReadProgram_ok (w0 : World) (aS : Str) (hG0 : GT.rep (hp w0) [.slice (some ⟨0, 0, none⟩) 1 1] [glob_impl_opSign]) (hG1 : GT.rep (hp w0) [.slice (some ⟨1, 0, none⟩) 9 9] glob_impl_keys) (hG2 : GT.rep (hp w0) [.slice (some ⟨2, 0, none⟩) 1 1] [glob_impl_stmtKeys]) :
    ConM Tryz.prog 8 [(.string ⟨(aS).b.toArray⟩)] w0 (laws_FnExactReadProgram aS) fun r v w' => v = (.bool (r)) ∧ Below w0.heap.size w0 w' := by
  unfold laws_FnExactReadProgram
  refine gcon func8 rfl fun r => ?_
  have hm := Mem.start w0
  refine gS (gR (gA rfl (gE (gS (gS (gR (gM rfl (gY (yG rfl (y_len_str (p := aS) underlying9 rfl rfl)) ?_))))))))
  have aX := (aS).h
  refine gB rfl (gE (gsd 13 rfl (fun aJ => ?_) fun aJ => ?_))
  ·
   exact gct rfl (gS (gR (gA rfl (gE (gRt (gr1 results8 rfl ⟨rfl, hm.below⟩))))))
  refine gcf rfl (gSk (gS (gR (gM rfl (gCg rfl call30 (spec_ReadProgram_ok _ aS) ?_)))))
  rintro aC aY aZ w ⟨aB, rfl, hB⟩
  replace hm := hm.give hB; clear hB
  refine gM rfl (gX rfl (gX rfl (gAl hm zeroValue46 rfl fun aI w hm => gSN hm 0 sizeOf46 (one_cons (rep_one (hm.ow_rep 1 rfl)) one_nil) rfl fun w hm => gA rfl (gE (gS (gR (gM rfl (gCg rfl call31 (impl_ReadProgram_ok _ aS (hm.now hG0) (hm.now hG1) (hm.now hG2)) ?_))))))))
  rintro aE a7 a8 w ⟨aA, rfl, hB⟩
  replace hm := hm.give hB; clear hB
  refine gM rfl (gX rfl (gX rfl (gAl hm zeroValue46 rfl fun aD w hm => gSN hm 0 sizeOf46 (one_cons (rep_one (hm.ow_rep 1 rfl)) one_nil) rfl fun w hm => gA rfl (gE (gS (gS (gJ hm (fun aF => [(0, (.string ⟨(aS).b.toArray⟩)), (3, (pV aI)), (4, (.bool (aC.2))), (5, (pV aD)), (32, (.bool (aF)))]) (fun aF => [blk aI [aB] 46, ow [aB] aC.1.fns, blk aD [aA] 46, ow [aA] aE.1.fns]) (fun aF => ?_) ?_)))))))
  ·
   refine gR (gY (yn (hm.blk_at 0 rfl) isAgg46 sizeOf46 rfl) (gY (yn (hm.blk_at 2 rfl) isAgg46 sizeOf46 rfl) (gC hm rfl call32 (laws_eqProgram_ok _ aE.1 aA (hm.ow_rep 1 rfl) aC.1 aB (hm.ow_rep 3 rfl)) fun aa ab w hm => gN rfl (gM rfl (gsn 28 rfl (fun aK => ?_) fun aK => ?_)))))
   ·
    exact gO rfl (gO rfl (gO rfl (gKt rfl (gE (gz hm [2, 3, 0, 1] rfl)))))
   exact gM rfl (gM rfl (gY (yG rfl (y_neqb underlying4 rfl rfl rfl)) (gKf rfl (gE (gz hm [2, 3, 0, 1] rfl)))))
  repeat clear hm
  intro aF w hm
  refine gs 32 rfl (fun aL => ?_) fun aL => ?_
  ·
   exact gct rfl (gS (gR (gA rfl (gE (gRt (gr1 results8 rfl ⟨rfl, hm.below⟩))))))
  refine gcf rfl (gSk (gS (gR (gA rfl (gE (gS (gR (gY (yn (hm.blk_at 2 rfl) isAgg46 sizeOf46 rfl) (gM rfl ?_)))))))))
  obtain ⟨aM, hle, hm1, hsub, aN⟩ := hm.take2 (L1 := [ow [aA] aE.1.fns]) (L2 := [blk aI [aB] 46, ow [aB] aC.1.fns, blk aD [aA] 46]) [3] [0, 1, 2] (by decide) rfl rfl
  refine gCg rfl call33 (laws_markProgram_ok _ aM aE.1 aA 1 hm1 ) ?_
  rintro aG ac ae w ⟨rfl, hB⟩
  replace hm := aN _ _ hB; clear hB
  refine gA rfl (gE (gS (gR (gA rfl (gE (gS (gR (gY (yn (hm.blk_at 3 rfl) isAgg46 sizeOf46 rfl) (gM rfl (gC hm rfl call34 (laws_heldProgram_ok _ (⟨aG.2⟩ : Program_) aA (hm.ow_rep 0 rfl) 1) fun af ag w hm => gA rfl (gE (gS (gS (gR (gM rfl (gB rfl (gE (gsd 40 rfl (fun aO => ?_) fun aO => ?_))))))))))))))))))
  ·
   exact gct rfl (gS (gR (gA rfl (gE (gRt (gr1 results8 rfl ⟨rfl, hm.below⟩))))))
  refine gcf rfl (gSk (gS (gS (gR (gM rfl (gM rfl (gB rfl (gE (gsd 43 rfl (fun aP => ?_) fun aP => ?_)))))))))
  ·
   exact gct rfl (gS (gR (gA rfl (gE (gRt (gr1 results8 rfl ⟨rfl, hm.below⟩))))))
  refine gcf rfl (gSk (gS (gR (gM rfl (gCg rfl call31 (impl_ReadProgram_ok _ aS (hm.now hG0) (hm.now hG1) (hm.now hG2)) ?_)))))
  rintro aQ ah ai w ⟨aR, rfl, hB⟩
  replace hm := hm.give hB; clear hB
  refine gM rfl (gX rfl (gX rfl (gAl hm zeroValue46 rfl fun aj w hm => gSN hm 0 sizeOf46 (one_cons (rep_one (hm.ow_rep 1 rfl)) one_nil) rfl fun w hm => gA rfl (gE (gS (gS (gJ hm (fun aH => [(5, (pV aD)), (7, (nV aG.1)), (57, (.bool (aH)))]) (fun aH => [blk aD [aA] 46, ow [aA] aG.2]) (fun aH => ?_) ?_)))))))
  ·
   refine gR (gY (yn (hm.blk_at 0 rfl) isAgg46 sizeOf46 rfl) (gY (yn (hm.blk_at 3 rfl) isAgg46 sizeOf46 rfl) (gC hm rfl call32 (laws_eqProgram_ok _ aQ.1 aR (hm.ow_rep 1 rfl) aC.1 aB (hm.ow_rep 4 rfl)) fun ak al w hm => gN rfl (gM rfl (gsn 53 rfl (fun aT => ?_) fun aT => ?_)))))
   ·
    exact gO rfl (gO rfl (gO rfl (gKt rfl (gE (gz hm [5, 2] rfl)))))
   exact gM rfl (gM rfl (gY (yG rfl (y_neqb underlying4 rfl rfl rfl)) (gKf rfl (gE (gz hm [5, 2] rfl)))))
  repeat clear hm
  intro aH w hm
  refine gs 57 rfl (fun aU => ?_) fun aU => ?_
  ·
   exact gct rfl (gS (gR (gA rfl (gE (gRt (gr1 results8 rfl ⟨rfl, hm.below⟩))))))
  refine gcf rfl (gSk (gS (gR (gA rfl (gE (gS (gR (gY (yn (hm.blk_at 0 rfl) isAgg46 sizeOf46 rfl) (gM rfl (gC hm rfl call34 (laws_heldProgram_ok _ (⟨aG.2⟩ : Program_) aA (hm.ow_rep 1 rfl) 1) fun am an w hm => gA rfl (gE (gS (gS (gR (gM rfl (gB rfl (gE (gsd 62 rfl (fun aV => ?_) fun aV => ?_))))))))))))))))))
  ·
   exact gct rfl (gS (gR (gA rfl (gE (gRt (gr1 results8 rfl ⟨rfl, hm.below⟩))))))
  refine gcf rfl (gSk (gS (gS (gR (gM rfl (gM rfl (gB rfl (gE (gsd 65 rfl (fun aW => ?_) fun aW => ?_)))))))))
  ·
   exact gct rfl (gS (gR (gA rfl (gE (gRt (gr1 results8 rfl ⟨rfl, hm.below⟩))))))
  exact gcf rfl (gSk (gS (gR (gA rfl (gE (gRt (gr1 results8 rfl ⟨rfl, hm.below⟩)))))))
end Go.Proofs.YtjccffpccjdmgaaGreatDoor
