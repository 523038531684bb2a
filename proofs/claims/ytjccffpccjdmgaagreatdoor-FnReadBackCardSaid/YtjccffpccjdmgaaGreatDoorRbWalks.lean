/- A part of the proof of FnReadBackCardSaid. -/
import Derived.Test.YtjccffpccjdmgaaGreatDoorRbWalksA
namespace Go.Proofs.YtjccffpccjdmgaaGreatDoor
open Go Go.Wk Go.RowKit
set_option maxRecDepth 4000
set_option maxHeartbeats 4000000
open Tryz
theorem laws_FnReadBack_ok (w0 : World) (code : List UInt8) (v1 : Value) (h1 : GT.rep (hp w0) [v1] code) (hG0 : GT.rep (hp w0) [.slice (some ⟨0, 0, none⟩) 1 1] [glob_impl_opSign]) (hG1 : GT.rep (hp w0) [.slice (some ⟨1, 0, none⟩) 9 9] glob_impl_keys) (hG4 : GT.rep (hp w0) [.pointer (some ⟨4, 0, none⟩)] glob_strconv_uint64pow10) :
    ConM Tryz.prog 5 [v1] w0 (laws_FnReadBack code) fun r v w' => v = (.bool (r)) ∧ Below w0.heap.size w0 w' := by
  unfold laws_FnReadBack
  refine gcon func5 rfl fun r => ?_
  have hm := Mem.start w0
  refine gS (gR (gA rfl (gE (gS (gS (gR (gM rfl ?_)))))))
  obtain ⟨aI, aJ, rfl, aZ⟩ := ro_slice h1
  refine gY (yV st_30 rfl) (gB rfl (gE (gsd 14 rfl (fun aK => ?_) fun aK => ?_)))
  ·
   exact gct rfl (gS (gR (gA rfl (gE (gRt (gr1 results5 rfl ⟨rfl, hm.below⟩))))))
  refine gcf rfl (gSk (gS (gR (gM rfl (gCg rfl call25 (spec_DrawExprText_ok _ code (.slice aI code.length aJ) (hm.now h1)) ?_)))))
  rintro aA a7 a8 w ⟨aC, rfl, hB⟩
  replace hm := hm.give hB; clear hB
  refine gAl hm zeroValue24 rfl fun aH w hm => gSN hm 0 sizeOf24 (one_cons rfl (one_cons rfl (one_cons rfl (one_cons (rep_one (hm.ow_rep 1 rfl)) one_nil)))) rfl fun w hm => gE (gS (gR (gY (yn (hm.blk_at 0 rfl) isAgg24 sizeOf24 rfl) (gC hm rfl call23 (impl_ExprText_ok _ aA aC (hm.ow_rep 1 rfl) (hm.now hG0) (hm.now hG1) (hm.now hG4)) fun aB aa w hm => gM rfl (gX rfl (gX rfl (gA rfl (gA rfl (gE (gS (gR (gY (yn (hm.blk_at 0 rfl) isAgg24 sizeOf24 rfl) (gC hm rfl call26 (spec_ExprText_ok _ aA aC (hm.ow_rep 1 rfl)) fun aD ab w hm => gM rfl (gX rfl (gX rfl (gA rfl (gA rfl (gE (gS (gS (gJ hm (fun aE => [(3, (pV aH)), (4, (.string ⟨(aB.1).b.toArray⟩)), (5, (.bool (aB.2))), (6, (.string ⟨(aD.1).b.toArray⟩)), (7, (.bool (aD.2))), (38, (.bool (aE)))]) (fun aE => [blk aH [(nV aA.op), (nV aA.n_), (.string ⟨(aA.name).b.toArray⟩), aC] 24, ow [aC] aA.kids]) (fun aE => ?_) ?_)))))))))))))))))))))
  ·
   refine gR (gM rfl (gM rfl (gY (yG rfl (y_neqs (p := aB.1) (q := aD.1) rfl rfl rfl)) (gM rfl (gsd 30 rfl (fun aL => ?_) fun aL => ?_)))))
   ·
    exact gO rfl (gO rfl (gO rfl (gKt rfl (gM rfl (gO rfl (gO rfl (gKt rfl (gE (gz hm [0, 1] rfl)))))))))
   refine gM rfl (gM rfl (gY (yG rfl (y_neqb underlying4 rfl rfl rfl)) (gKf rfl (gM rfl (gsd 35 rfl (fun aM => ?_) fun aM => ?_)))))
   ·
    exact gO rfl (gO rfl (gKt rfl (gE (gz hm [0, 1] rfl))))
   exact gM rfl (gN rfl (gKf rfl (gE (gz hm [0, 1] rfl))))
  repeat clear hm
  intro aE w hm
  refine gs 38 rfl (fun aN => ?_) fun aN => ?_
  ·
   refine gct rfl (gS (gJ hm (fun aF => [(2, (.bool (aF)))]) (fun aF => []) (fun aF => ?_) ?_))
   ·
    refine gR (gM rfl (gM rfl (gY (yG rfl (y_eqls (p := aB.1) (q := aD.1) rfl rfl rfl)) (gM rfl (gsd 42 rfl (fun aO => ?_) fun aO => ?_)))))
    ·
     refine gM rfl (gM rfl (gY (yG rfl (y_eqlb underlying4 rfl rfl rfl)) (gKt rfl (gM rfl (gsd 47 rfl (fun aP => ?_) fun aP => ?_)))))
     ·
      refine gM rfl (gY (yG rfl (y_eqls (p := aB.1) (q := (mkS [])) rfl rfl rfl)) (gKt rfl (gM rfl (gsd 51 rfl (fun aQ => ?_) fun aQ => ?_))))
      ·
       exact gY (yn (hm.blk_at 0 rfl) isAgg24 sizeOf24 rfl) (gC hm rfl call22 (spec_ExprValid_ok _ aA aC (hm.ow_rep 1 rfl)) fun ac ae w hm => gN rfl (gKt rfl (gA rfl (gE (gz hm [] rfl)))))
      exact gO rfl (gO rfl (gO rfl (gKf rfl (gA rfl (gE (gz hm [] rfl))))))
     exact gO rfl (gO rfl (gKf rfl (gM rfl (gO rfl (gO rfl (gO rfl (gKf rfl (gA rfl (gE (gz hm [] rfl))))))))))
    exact gO rfl (gO rfl (gO rfl (gKf rfl (gM rfl (gO rfl (gO rfl (gKf rfl (gM rfl (gO rfl (gO rfl (gO rfl (gKf rfl (gA rfl (gE (gz hm [] rfl)))))))))))))))
   repeat clear hm
   intro aF w hm
   exact gRt (gr1 results5 rfl ⟨rfl, hm.below⟩)
  refine gcf rfl (gSk (gS (gR (gM rfl (gCg rfl call14 (impl_ReadExpr_ok _ aB.1 (hm.now hG0) (hm.now hG1)) ?_)))))
  rintro aR af ag w ⟨aS, rfl, hB⟩
  replace hm := hm.give hB; clear hB
  refine gM rfl (gX rfl (gX rfl (gAl hm zeroValue24 rfl fun ah w hm => gSN hm 0 sizeOf24 (one_cons rfl (one_cons rfl (one_cons rfl (one_cons (rep_one (hm.ow_rep 1 rfl)) one_nil)))) rfl fun w hm => gA rfl (gE (gS (gR (gM rfl (gC hm rfl call27 (impl_PlainText_ok _ aB.1 (hm.now hG1)) fun aT ai w hm => gM rfl (gX rfl (gX rfl (gA rfl (gA rfl (gE (gS (gJ hm (fun aG => [(2, (.bool (aG)))]) (fun aG => []) (fun aG => ?_) ?_)))))))))))))))
  ·
   refine gR (gM rfl (gM rfl (gs 67 rfl (fun aU => ?_) fun aU => ?_)))
   ·
    refine gM rfl (gKt rfl (gM rfl (gs 70 rfl (fun aV => ?_) fun aV => ?_)))
    ·
     refine gM rfl (gM rfl (gY (yG rfl (y_eqls (p := aT.1) (q := aB.1) rfl rfl rfl)) (gKt rfl (gM rfl (gsd 75 rfl (fun aX => ?_) fun aX => ?_)))))
     ·
      refine gY (yn (hm.blk_at 0 rfl) isAgg24 sizeOf24 rfl) (gY (yn (hm.blk_at 2 rfl) isAgg24 sizeOf24 rfl) (gC hm rfl call19 (impl_SameExpr_ok _ aR.1 aS (hm.ow_rep 1 rfl) aA aC (hm.ow_rep 3 rfl)) fun aj ak w hm => gKt rfl (gM rfl (gs 80 rfl (fun aY => ?_) fun aY => ?_))))
      ·
       exact gY (yn (hm.blk_at 2 rfl) isAgg24 sizeOf24 rfl) (gC hm rfl call21 (impl_ExprValid_ok _ aA aC (hm.ow_rep 3 rfl) (hm.now hG0) (hm.now hG1)) fun al am w hm => gKt rfl (gA rfl (gE (gz hm [] rfl))))
      exact gO rfl (gO rfl (gKf rfl (gA rfl (gE (gz hm [] rfl)))))
     exact gO rfl (gO rfl (gO rfl (gKf rfl (gM rfl (gO rfl (gO rfl (gKf rfl (gA rfl (gE (gz hm [] rfl))))))))))
    exact gO rfl (gO rfl (gO rfl (gKf rfl (gM rfl (gO rfl (gO rfl (gO rfl (gKf rfl (gM rfl (gO rfl (gO rfl (gKf rfl (gA rfl (gE (gz hm [] rfl)))))))))))))))
   exact gO rfl (gKf rfl (gM rfl (gO rfl (gO rfl (gO rfl (gKf rfl (gM rfl (gO rfl (gO rfl (gO rfl (gKf rfl (gM rfl (gO rfl (gO rfl (gKf rfl (gA rfl (gE (gz hm [] rfl))))))))))))))))))
  repeat clear hm
  intro aG w hm
  exact gRt (gr1 results5 rfl ⟨rfl, hm.below⟩)
end Go.Proofs.YtjccffpccjdmgaaGreatDoor
